/- The abstract machine, part 19: the head of a loop. -/
import Derived.Test.YtjodpeldfebhfaaGreatP2
import Derived.Scope
import Derived.ChangeArms
import Derived.DataReads
import Derived.ChangeOld
set_option linter.unusedVariables false
set_option linter.unusedSimpArgs false
set_option linter.unusedSectionVars false
namespace Go.Proofs.YtjodpeldfebhfaaGreat.Ab
open Go Go.RowKit

section
variable {Ty : Type} [DecidableEq Ty] {C : Ty → Type}
variable {P : Program} {K : Cd C} {w0 w : World} {nt : Nat} {S : St C} {β : Nat → Value} {fp : Nat → Nat → Prop} {a : Act}

abbrev CE (C : Ty → Type) := Nat × Option Nat × Ob C

theorem beq_any {n : Nat} {l : List Nat} (h : l.any (Nat.beq n) = false) : n ∉ l := by
  intro hm
  have := List.any_eq_false.1 h n hm
  exact this (Nat.beq_refl n)

theorem newN_unique : ∀ {os : List (CE C)}, nodupN (newN os) = true → ∀ {n s s' ob ob'}, (n, s, ob) ∈ os → (n, s', ob') ∈ os → s = s' ∧ ob = ob'
  | [], _, n, s, s', ob, ob', h, _ => by cases h
  | (m, t, o) :: os, hn, n, s, s', ob, ob', h, h' => by
    simp only [newN, nodupN, Bool.and_eq_true, Bool.not_eq_true'] at hn
    have hm := beq_any hn.1
    have mem : ∀ {n s ob}, (n, s, ob) ∈ os → n ∈ newN os := by
      clear hn hm h h'
      induction os with
      | nil => intro n s ob h; cases h
      | cons x os ih =>
        intro n s ob h
        obtain ⟨a, b, c⟩ := x
        simp only [newN, List.mem_cons] at h ⊢
        rcases h with h | h
        · cases h; exact .inl rfl
        · exact .inr (ih h)
    rcases List.mem_cons.1 h with e | h
    · cases e
      rcases List.mem_cons.1 h' with e | h'
      · cases e; exact ⟨rfl, rfl⟩
      · exact absurd (mem h') hm
    · rcases List.mem_cons.1 h' with e | h'
      · cases e; exact absurd (mem h) hm
      · exact newN_unique hn.2 h h'
theorem oldN_unique : ∀ {os : List (CE C)}, nodupN (oldN os) = true → ∀ {n n' i ob ob'}, (n, some i, ob) ∈ os → (n', some i, ob') ∈ os → n = n' ∧ ob = ob'
  | [], _, n, n', i, ob, ob', h, _ => by cases h
  | (m, t, o) :: os, hn, n, n', i, ob, ob', h, h' => by
    have mem : ∀ {n i ob}, (n, some i, ob) ∈ os → i ∈ oldN os := by
      clear hn h h'
      induction os with
      | nil => intro n s ob h; cases h
      | cons x os ih =>
        intro n s ob h
        obtain ⟨a, b, c⟩ := x
        rcases List.mem_cons.1 h with h1 | h1
        · cases h1; simp [oldN]
        · cases b with
          | none => simpa [oldN] using ih h1
          | some b => simp only [oldN, List.mem_cons]; exact .inr (ih h1)
    have hn' : nodupN (oldN os) = true := by
      cases t with
      | none => exact hn
      | some t => simp only [oldN, nodupN, Bool.and_eq_true] at hn; exact hn.2
    rcases List.mem_cons.1 h with e | h1
    · cases e
      rcases List.mem_cons.1 h' with e | h2
      · cases e; exact ⟨rfl, rfl⟩
      · simp only [oldN, nodupN, Bool.and_eq_true, Bool.not_eq_true'] at hn
        exact absurd (mem h2) (beq_any hn.1)
    · rcases List.mem_cons.1 h' with e | h2
      · cases e
        simp only [oldN, nodupN, Bool.and_eq_true, Bool.not_eq_true'] at hn
        exact absurd (mem h1) (beq_any hn.1)
      · exact oldN_unique hn' h1 h2

def srcOf : List (CE C) → Nat → Option (Option Nat)
  | [], _ => none
  | (m, s, _) :: r, n => if n = m then some s else srcOf r n
theorem obs_mem : ∀ {os : List (CE C)} {n : Nat} {ob : Ob C}, lk (obsN os) n = some ob → ∃ s, (n, s, ob) ∈ os ∧ srcOf os n = some s
  | [], n, ob, h => by simp [obsN, lk] at h
  | (m, s, o) :: os, n, ob, h => by
    simp only [obsN, lk_cons] at h
    by_cases e : n = m
    · subst e
      simp at h
      subst h
      exact ⟨s, by simp, by simp [srcOf]⟩
    · rw [if_neg e] at h
      obtain ⟨s', h1, h2⟩ := obs_mem h
      exact ⟨s', by simp [h1], by simp [srcOf, e, h2]⟩
theorem src_mem : ∀ {os : List (CE C)} {n : Nat} {s : Option Nat} {ob : Ob C}, (n, s, ob) ∈ os → nodupN (newN os) = true → srcOf os n = some s ∧ lk (obsN os) n = some ob := by
  intro os n s ob h hn
  have : ∃ ob', lk (obsN os) n = some ob' := by
    clear hn
    induction os with
    | nil => cases h
    | cons x os ih =>
      obtain ⟨m, t, o⟩ := x
      simp only [obsN, lk_cons]
      by_cases e : n = m
      · exact ⟨o, by simp [e]⟩
      · rw [if_neg e]
        rcases List.mem_cons.1 h with h | h
        · cases h; exact absurd rfl e
        · exact ih h
  obtain ⟨ob', ho⟩ := this
  obtain ⟨s', h1, h2⟩ := obs_mem ho
  obtain ⟨rfl, rfl⟩ := newN_unique hn h h1
  exact ⟨h2, ho⟩

def nb (β : Nat → Value) (os : List (CE C)) (n : Nat) : Value := match srcOf os n with
  | some (some id) => β id
  | _ => .slice none 0 0
def nf (fp : Nat → Nat → Prop) (os : List (CE C)) (n k : Nat) : Prop := match srcOf os n with
  | some (some id) => fp id k
  | _ => False

/-- A thing that names no others, no row. -/
def lone : Ob C → Bool
  | .map .. => true
  | .ghost => true
  | _ => false
/-- What an entry comes from. -/
def GoodE (S : St C) (nm : List (Nat × Nat)) (B : List Nat) (os : List (CE C)) (x : CE C) : Prop :=
  (∃ n t, x = (n, none, .row t [] false)) ∨
  (∃ n id t xs sh, x = (n, some id, .row t xs sh) ∧ lk nm id = some n ∧ lk S.objs id = some (.row t xs sh)) ∨
  (∃ id kd ls ls' os', x = (id, some id, .box kd ls') ∧ lk S.objs id = some (.box kd ls) ∧ canLs S nm B (1000000 + 100 * id) ls = some (ls', os') ∧ ∀ y, y ∈ os' → y ∈ os) ∨
  (∃ id ob, x = (id, some id, ob) ∧ lk S.objs id = some ob ∧ lone ob = true)
theorem GoodE.mono {nm : List (Nat × Nat)} {B : List Nat} {os os' : List (CE C)} {x : CE C} (h : GoodE S nm B os x) (hm : ∀ y, y ∈ os → y ∈ os') : GoodE S nm B os' x := by
  rcases h with h | h | ⟨id, kd, ls, ls', o, h1, h2, h3, h4⟩ | h
  · exact .inl h
  · exact .inr (.inl h)
  · exact .inr (.inr (.inl ⟨id, kd, ls, ls', o, h1, h2, h3, fun y hy => hm y (h4 y hy)⟩))
  · exact .inr (.inr (.inr h))
section
variable {nm : List (Nat × Nat)} {B : List Nat}
theorem canL_good {n : Nat} {l l' : Lf C} {os : List (CE C)} (h : canL S nm B n l = some (l', os)) : ∀ x, x ∈ os → GoodE S nm B os x := by
  intro x hx
  cases l with
  | ref id p =>
    cases p with
    | cons s p => simp [canL] at h
    | nil =>
      simp only [canL] at h
      split at h
      · rename_i m t xs sh hn ho
        cases h
        rw [List.mem_singleton] at hx
        exact .inr (.inl ⟨m, id, t, xs, sh, hx, hn, ho⟩)
      · cases h
  | ptr id o =>
    simp only [canL] at h
    obtain ⟨_, h⟩ := cond_some h
    cases h; cases hx
  | vo id =>
    simp only [canL] at h
    obtain ⟨_, h⟩ := cond_some h
    cases h; cases hx
  | nil t =>
    simp only [canL, Option.some.injEq, Prod.mk.injEq] at h
    rw [← h.2, List.mem_singleton] at hx
    exact .inl ⟨n, t, hx⟩
  | _ => first
    | (simp only [canL, Option.some.injEq, Prod.mk.injEq] at h; rw [← h.2] at hx; cases hx)
    | (simp [canL] at h)
theorem canLs_good : ∀ {ls : List (Lf C)} {n : Nat} {ls' : List (Lf C)} {os : List (CE C)}, canLs S nm B n ls = some (ls', os) → ∀ x, x ∈ os → GoodE S nm B os x
  | [], n, ls', os, h, x, hx => by simp only [canLs, Option.some.injEq, Prod.mk.injEq] at h; rw [← h.2] at hx; cases hx
  | l :: ls, n, ls', os, h, x, hx => by
    simp only [canLs] at h
    split at h
    · rename_i l1 o1 h1
      split at h
      · rename_i r' o2 h2
        cases h
        rcases List.mem_append.1 hx with hx | hx
        · exact (canL_good h1 x hx).mono fun y hy => by simp [hy]
        · exact (canLs_good h2 x hx).mono fun y hy => by simp [hy]
      · cases h
    · cases h
theorem canB_good : ∀ {l : List Nat} {os : List (CE C)}, canB S nm B l = some os → (∀ x, x ∈ os → GoodE S nm B os x) ∧ ∀ id, id ∈ l → ∃ ob', (id, some id, ob') ∈ os
  | [], os, h => by simp only [canB, Option.some.injEq] at h; subst h; exact ⟨fun x hx => (by cases hx), fun id hi => (by cases hi)⟩
  | id :: l, os, h => by
    simp only [canB] at h
    split at h
    · rename_i kd ls ho
      split at h
      · rename_i ls' o1 h1
        split at h
        · rename_i o2 h2
          cases h
          obtain ⟨g1, g2⟩ := canB_good h2
          refine ⟨fun x hx => ?_, fun i hi => ?_⟩
          · rcases List.mem_cons.1 hx with hx | hx
            · exact .inr (.inr (.inl ⟨id, kd, ls, ls', o1, hx, ho, h1, fun y hy => by simp [hy]⟩))
            · rcases List.mem_append.1 hx with hx | hx
              · exact (canLs_good h1 x hx).mono fun y hy => by simp [hy]
              · exact (g1 x hx).mono fun y hy => by simp [hy]
          · rcases List.mem_cons.1 hi with e | hi
            · subst e; exact ⟨.box kd ls', by simp⟩
            · obtain ⟨ls2, hm⟩ := g2 i hi; exact ⟨ls2, by simp [hm]⟩
        · cases h
      · cases h
    · rename_i mk kt vt xs c ho
      split at h
      · rename_i o2 h2
        cases h
        obtain ⟨g1, g2⟩ := canB_good h2
        refine ⟨fun x hx => ?_, fun i hi => ?_⟩
        · rcases List.mem_cons.1 hx with hx | hx
          · exact .inr (.inr (.inr ⟨id, _, hx, ho, rfl⟩))
          · exact (g1 x hx).mono fun y hy => by simp [hy]
        · rcases List.mem_cons.1 hi with e | hi
          · subst e; exact ⟨.map mk kt vt xs c, by simp⟩
          · obtain ⟨ls2, hm⟩ := g2 i hi; exact ⟨ls2, by simp [hm]⟩
      · cases h
    · rename_i ho
      split at h
      · rename_i o2 h2
        cases h
        obtain ⟨g1, g2⟩ := canB_good h2
        refine ⟨fun x hx => ?_, fun i hi => ?_⟩
        · rcases List.mem_cons.1 hx with hx | hx
          · exact .inr (.inr (.inr ⟨id, _, hx, ho, rfl⟩))
          · exact (g1 x hx).mono fun y hy => by simp [hy]
        · rcases List.mem_cons.1 hi with e | hi
          · subst e; exact ⟨.ghost, by simp⟩
          · obtain ⟨ls2, hm⟩ := g2 i hi; exact ⟨ls2, by simp [hm]⟩
      · cases h
    · cases h
theorem canV_good {t : Nat} {v v' : SV C} {os : List (CE C)} (h : canV S nm B t v = some (v', os)) : ∀ x, x ∈ os → GoodE S nm B os x := by
  intro x hx
  unfold canV at h
  split at h
  · split at h
    · rename_i l' os' h1
      cases h
      exact canL_good h1 x hx
    · cases h
  · split at h
    · rename_i l' os' h1
      cases h
      exact canLs_good h1 x hx
    · cases h
  · split at h
    · rename_i l' os' h1
      cases h
      exact canLs_good h1 x hx
    · cases h
  · cases h; cases hx
  · cases h
/-- Each thing once: what is dropped was there before. -/
theorem once_mem : ∀ {os : List (CE C)} {seen : List Nat} {y : CE C}, y ∈ onceO os seen → y ∈ os
  | [], seen, y, h => by cases h
  | (n, none, ob) :: r, seen, y, h => by
    simp only [onceO] at h
    rcases List.mem_cons.1 h with e | h
    · rw [e]; simp
    · exact List.mem_cons_of_mem _ (once_mem h)
  | (n, some id, ob) :: r, seen, y, h => by
    simp only [onceO] at h
    cases hb : seen.any (Nat.beq id) with
    | true => rw [hb] at h; exact List.mem_cons_of_mem _ (once_mem h)
    | false =>
      rw [hb] at h
      rcases List.mem_cons.1 h with e | h
      · rw [e]; simp
      · exact List.mem_cons_of_mem _ (once_mem h)
theorem once_has : ∀ {os : List (CE C)} {seen : List Nat} {y : CE C}, y ∈ os → y ∈ onceO os seen ∨ ∃ id n ob, y = (n, some id, ob) ∧ (id ∈ seen ∨ ∃ n' ob', (n', some id, ob') ∈ onceO os seen)
  | [], seen, y, h => by cases h
  | (n, none, ob) :: r, seen, y, h => by
    simp only [onceO]
    rcases List.mem_cons.1 h with e | h
    · rw [e]; exact .inl (by simp)
    · rcases once_has (seen := seen) h with h | ⟨id, n1, ob1, e, h | ⟨n2, ob2, h⟩⟩
      · exact .inl (by simp [h])
      · exact .inr ⟨id, n1, ob1, e, .inl h⟩
      · exact .inr ⟨id, n1, ob1, e, .inr ⟨n2, ob2, by simp [h]⟩⟩
  | (n, some i, ob) :: r, seen, y, h => by
    simp only [onceO]
    cases hb : seen.any (Nat.beq i) with
    | true =>
      simp only [cond_true]
      rcases List.mem_cons.1 h with e | h
      · obtain ⟨m, hm, he⟩ := List.any_eq_true.1 hb
        have := Nat.eq_of_beq_eq_true he
        subst this
        exact .inr ⟨i, n, ob, e, .inl hm⟩
      · exact once_has h
    | false =>
      simp only [cond_false]
      rcases List.mem_cons.1 h with e | h
      · rw [e]; exact .inl (by simp)
      · rcases once_has (seen := i :: seen) h with h | ⟨id, n1, ob1, e, h | ⟨n2, ob2, h⟩⟩
        · exact .inl (by simp [h])
        · rcases List.mem_cons.1 h with e2 | h
          · subst e2; exact .inr ⟨id, n1, ob1, e, .inr ⟨n, ob, by simp⟩⟩
          · exact .inr ⟨id, n1, ob1, e, .inl h⟩
        · exact .inr ⟨id, n1, ob1, e, .inr ⟨n2, ob2, by simp [h]⟩⟩
theorem once_old : ∀ {os : List (CE C)} {seen : List Nat} {n n' id : Nat} {ob ob' : Ob C}, (n, some id, ob) ∈ onceO os seen → (n', some id, ob') ∈ onceO os seen → n = n' ∧ ob = ob'
  | os, seen, n, n', id, ob, ob', h, h' => by
    have notin : ∀ {os : List (CE C)} {seen : List Nat} {n id : Nat} {ob : Ob C}, (n, some id, ob) ∈ onceO os seen → id ∉ seen := by
      intro os
      induction os with
      | nil => intro seen n id ob h; cases h
      | cons x os ih =>
        intro seen n id ob h
        obtain ⟨m, s, o⟩ := x
        cases s with
        | none =>
          simp only [onceO] at h
          rcases List.mem_cons.1 h with e | h
          · cases e
          · exact ih h
        | some i =>
          simp only [onceO] at h
          cases hb : seen.any (Nat.beq i) with
          | true => rw [hb] at h; exact ih h
          | false =>
            rw [hb] at h
            rcases List.mem_cons.1 h with e | h
            · cases e; exact beq_any hb
            · exact fun hm => ih h (List.mem_cons_of_mem _ hm)
    induction os generalizing seen with
    | nil => cases h
    | cons x os ih =>
      obtain ⟨m, s, o⟩ := x
      cases s with
      | none =>
        simp only [onceO] at h h'
        rcases List.mem_cons.1 h with e | h1
        · cases e
        · rcases List.mem_cons.1 h' with e | h1'
          · cases e
          · exact ih _ h1 h1'
      | some i =>
        simp only [onceO] at h h'
        cases hb : seen.any (Nat.beq i) with
        | true => rw [hb] at h h'; exact ih _ h h'
        | false =>
          rw [hb] at h h'
          rcases List.mem_cons.1 h with e | h1
          · cases e
            rcases List.mem_cons.1 h' with e | h1'
            · cases e; exact ⟨rfl, rfl⟩
            · exact absurd (List.mem_cons_self ..) (notin h1')
          · rcases List.mem_cons.1 h' with e | h1'
            · cases e; exact absurd (List.mem_cons_self ..) (notin h1)
            · exact ih _ h1 h1'
theorem once_all {os : List (CE C)} (hg : ∀ x, x ∈ os → GoodE S nm B os x) {y : CE C} (hy : y ∈ os) : y ∈ onceO os [] := by
  rcases once_has (seen := []) hy with h | ⟨id, n, ob, e, h | ⟨n', ob', h⟩⟩
  · exact h
  · cases h
  · subst e
    have g1 := hg _ hy
    have g2 := hg _ (once_mem h)
    have : n = n' ∧ ob = ob' := by
      rcases g1 with ⟨_, _, e⟩ | ⟨_, _, t, xs, sh, e, h1, h2⟩ | ⟨_, kd, ls, ls', os', e, h1, h2, _⟩ | ⟨_, ob1, e, h1, hl1⟩
      · cases e
      · cases e
        rcases g2 with ⟨_, _, e⟩ | ⟨_, _, t', xs', sh', e, h1', h2'⟩ | ⟨_, kd, ls, ls', os', e, h1', h2', _⟩ | ⟨_, ob2, e, h1', hl2⟩
        · cases e
        · cases e
          rw [h1] at h1'
          rw [h2] at h2'
          cases h1'; cases h2'
          exact ⟨rfl, rfl⟩
        · cases e; rw [h2] at h1'; cases h1'
        · cases e; rw [h2] at h1'; cases h1'; cases hl2
      · cases e
        rcases g2 with ⟨_, _, e⟩ | ⟨_, _, t', xs', sh', e, h1', h2'⟩ | ⟨_, kd2, ls2, ls2', os2', e, h1', h2', _⟩ | ⟨_, ob2, e, h1', hl2⟩
        · cases e
        · cases e; rw [h1] at h2'; cases h2'
        · cases e
          rw [h1] at h1'
          cases h1'
          rw [h2] at h2'
          cases h2'
          exact ⟨rfl, rfl⟩
        · cases e; rw [h1] at h1'; cases h1'; cases hl2
      · cases e
        rcases g2 with ⟨_, _, e⟩ | ⟨_, _, t', xs', sh', e, h1', h2'⟩ | ⟨_, kd2, ls2, ls2', os2', e, h1', h2', _⟩ | ⟨_, ob2, e, h1', hl2⟩
        · cases e
        · cases e; rw [h1] at h2'; cases h2'; cases hl1
        · cases e; rw [h1] at h1'; cases h1'; cases hl1
        · cases e
          rw [h1] at h1'
          cases h1'
          exact ⟨rfl, rfl⟩
    obtain ⟨rfl, rfl⟩ := this
    exact h
end
theorem newOf_mem : ∀ {os : List (CE C)} {id n : Nat}, newOf os id = some n → ∃ ob, (n, some id, ob) ∈ os
  | [], id, n, h => by simp [newOf] at h
  | (m, none, ob) :: r, id, n, h => by
    obtain ⟨ob', h'⟩ := newOf_mem (os := r) h
    exact ⟨ob', by simp [h']⟩
  | (m, some m', ob) :: r, id, n, h => by
    simp only [newOf] at h
    cases hb : Nat.beq m' id with
    | true =>
      rw [hb] at h
      cases h
      have := Nat.eq_of_beq_eq_true hb
      subst this
      exact ⟨ob, by simp⟩
    | false =>
      rw [hb] at h
      obtain ⟨ob', h'⟩ := newOf_mem (os := r) h
      exact ⟨ob', by simp [h']⟩
theorem hdrE_lk : ∀ {os : List (CE C)} {E : List (Nat × SV C)} {t : Nat} {v : SV C}, lk (hdrE os E) t = some v → ∃ id j n, (t, .hdr id j) ∈ E ∧ newOf os id = some n ∧ v = .hdr n j
  | os, [], t, v, h => by simp [hdrE, lk] at h
  | os, (t', x) :: E, t, v, h => by
    have up : lk (hdrE os E) t = some v → ∃ id j n, (t, .hdr id j) ∈ (t', x) :: E ∧ newOf os id = some n ∧ v = .hdr n j := fun h => by
      obtain ⟨id, j, n, h1, h2⟩ := hdrE_lk h
      exact ⟨id, j, n, by simp [h1], h2⟩
    cases x with
    | hdr id j =>
      simp only [hdrE] at h
      split at h
      · rename_i n hn
        rw [lk_cons] at h
        split at h
        · rename_i e
          cases h
          subst e
          exact ⟨id, j, n, by simp, hn, rfl⟩
        · exact up h
      · exact up h
    | _ => exact up h
theorem canE_good {nm : List (Nat × Nat)} {B : List Nat} : ∀ {E e : List (Nat × SV C)} {os : List (CE C)}, canE S nm B E = (e, os) → (∀ x, x ∈ os → GoodE S nm B os x) ∧ ∀ t v', lk e t = some v' → ∃ v os', (t, v) ∈ E ∧ canV S nm B t v = some (v', os') ∧ ∀ y, y ∈ os' → y ∈ os
  | [], e, os, h => by
    simp only [canE, Prod.mk.injEq] at h
    obtain ⟨h1, h2⟩ := h
    subst h1 h2
    exact ⟨fun x hx => (by cases hx), fun t v' h => by simp [lk] at h⟩
  | (t, v) :: E, e, os, h => by
    simp only [canE] at h
    cases hc : canE S nm B E with
    | mk e0 os0 =>
      rw [hc] at h
      simp only at h
      obtain ⟨g1, g2⟩ := canE_good hc
      split at h
      · rename_i v1 os1 hv
        cases h
        refine ⟨fun x hx => ?_, fun t' v' ht => ?_⟩
        · rcases List.mem_append.1 hx with hx | hx
          · exact (canV_good hv x hx).mono fun y hy => by simp [hy]
          · exact (g1 x hx).mono fun y hy => by simp [hy]
        · rw [lk_cons] at ht
          by_cases e : t' = t
          · subst e
            simp at ht
            subst ht
            exact ⟨v, os1, by simp, hv, fun y hy => by simp [hy]⟩
          · rw [if_neg e] at ht
            obtain ⟨v2, os2, h1, h2, h3⟩ := g2 t' v' ht
            exact ⟨v2, os2, by simp [h1], h2, fun y hy => by simp [h3 y hy]⟩
      · cases h
        refine ⟨g1, fun t' v' ht => ?_⟩
        obtain ⟨v2, os2, h1, h2, h3⟩ := g2 t' v' ht
        exact ⟨v2, os2, by simp [h1], h2, h3⟩

theorem mem_tidyE {E : List (Nat × SV C)} : ∀ {keep : List Nat} {t : Nat} {v : SV C}, (t, v) ∈ tidyE E keep → lk E t = some v
  | [], t, v, h => by cases h
  | d :: r, t, v, h => by
    simp only [tidyE] at h
    cases hd : lk E d with
    | none => rw [hd] at h; exact mem_tidyE h
    | some u =>
      rw [hd] at h
      rcases List.mem_cons.1 h with h | h
      · cases h; exact hd
      · exact mem_tidyE h

theorem rm_mem {α : Type} : ∀ {l : List (Nat × α)} {d t : Nat} {v : α}, (t, v) ∈ rm l d → (t, v) ∈ l ∧ t ≠ d
  | [], d, t, v, h => by cases h
  | (m, u) :: l, d, t, v, h => by
    simp only [rm] at h
    cases hb : Nat.beq d m with
    | true => rw [hb] at h; obtain ⟨h1, h2⟩ := rm_mem h; exact ⟨List.mem_cons_of_mem _ h1, h2⟩
    | false =>
      rw [hb] at h
      rcases List.mem_cons.1 h with e | h
      · cases e
        refine ⟨by simp, fun e => ?_⟩
        rw [e, Nat.beq_refl] at hb; cases hb
      · obtain ⟨h1, h2⟩ := rm_mem h; exact ⟨List.mem_cons_of_mem _ h1, h2⟩
theorem mem_ghostsE : ∀ {E : List (Nat × SV C)} {t : Nat} {v : SV C}, (t, v) ∈ ghostsE E → lk E t = some v
  | [], t, v, h => by cases h
  | (m, u) :: E, t, v, h => by
    rw [lk_cons]
    have hd : ∀ {u : SV C}, (t, v) ∈ (m, u) :: rm (ghostsE E) m → (if t = m then some u else lk E t) = some v := fun {u} h => by
      rcases List.mem_cons.1 h with e | h
      · cases e; simp
      · obtain ⟨h1, h2⟩ := rm_mem h; rw [if_neg h2]; exact mem_ghostsE h1
    have ht : ∀ {u : SV C}, (t, v) ∈ rm (ghostsE E) m → (if t = m then some u else lk E t) = some v := fun {u} h => by
      obtain ⟨h1, h2⟩ := rm_mem h; rw [if_neg h2]; exact mem_ghostsE h1
    cases u with
    | sus x j => exact hd h
    | hdr id j => exact hd h
    | frame => exact hd h
    | one _ => exact ht h
    | agg _ => exact ht h
    | tup _ => exact ht h
    | und => exact ht h
theorem mem_liveE {E : List (Nat × SV C)} {keep : List Nat} {t : Nat} {v : SV C} (h : (t, v) ∈ liveE E keep) : lk E t = some v := by
  unfold liveE at h
  rcases List.mem_append.1 h with h | h
  · exact mem_tidyE h
  · exact mem_ghostsE h
section
variable {nm : List (Nat × Nat)} {B : List Nat} {os : List (CE C)} {objs' : Objs C} {stb' : Nat → Prop}
theorem canL_ok (hn : nodupN (newN os) = true) (hB : ∀ id, id ∈ B → ∃ ob', (id, some id, ob') ∈ os) (hst : ∀ k, stbOf S.objs fp w k → stb' k) {n : Nat} {l l' : Lf C} {os' : List (CE C)} {v : Value} (h : canL S nm B n l = some (l', os')) (hm : ∀ y, y ∈ os' → y ∈ os)
    (hl : LfOk K w S.objs β fp (stbOf S.objs fp w) l v) : LfOk K w objs' (nb β os) (nf fp os) stb' l' v := by
  have triv : ∀ l : Lf C, idsL l = [] → LfOk K w S.objs β fp (stbOf S.objs fp w) l v → LfOk K w objs' (nb β os) (nf fp os) stb' l v := fun l hi h =>
    h.tr (fun k hk => ⟨hst k hk, rfl⟩) (fun id hid => by rw [hi] at hid; cases hid)
  cases l with
  | ref id p =>
    cases p with
    | cons s p => simp [canL] at h
    | nil =>
      simp only [canL] at h
      split at h
      · rename_i m t xs sh hnm ho
        cases h
        have := (src_mem (hm _ (by simp : (m, some id, Ob.row t xs sh) ∈ _)) hn).1
        refine ⟨hl.1, hl.2.trans ?_⟩
        simp [nb, this]
      · cases h
  | ptr id o =>
    simp only [canL] at h
    obtain ⟨hb, h⟩ := cond_some h
    cases h
    obtain ⟨m, hmB, he⟩ := List.any_eq_true.1 hb
    have := Nat.eq_of_beq_eq_true he
    subst this
    obtain ⟨ls', hx⟩ := hB _ hmB
    obtain ⟨b, h1, h2⟩ := hl
    exact ⟨b, by simp [nb, (src_mem hx hn).1, h1], h2⟩
  | vo id =>
    simp only [canL] at h
    obtain ⟨hb, h⟩ := cond_some h
    cases h
    obtain ⟨m, hmB, he⟩ := List.any_eq_true.1 hb
    have := Nat.eq_of_beq_eq_true he
    subst this
    obtain ⟨ls', hx⟩ := hB _ hmB
    exact ⟨hl.1, hl.2.trans (by simp [nb, (src_mem hx hn).1])⟩
  | nil t =>
    simp only [canL, Option.some.injEq, Prod.mk.injEq] at h
    obtain ⟨rfl, rfl⟩ := h
    have := (src_mem (hm _ (by simp : (n, none, Ob.row t [] false) ∈ _)) hn).1
    have e : v = .slice none 0 0 := hl
    subst e
    refine ⟨rfl, ?_⟩
    simp [nb, this]
  | _ => first
    | (simp only [canL, Option.some.injEq, Prod.mk.injEq] at h; obtain ⟨rfl, -⟩ := h; exact triv _ rfl hl)
    | (simp [canL] at h)
theorem canLs_ok (hn : nodupN (newN os) = true) (hB : ∀ id, id ∈ B → ∃ ob', (id, some id, ob') ∈ os) (hst : ∀ k, stbOf S.objs fp w k → stb' k) : ∀ {ls ls' : List (Lf C)} {n : Nat} {os' : List (CE C)} {vs : List Value}, canLs S nm B n ls = some (ls', os') → (∀ y, y ∈ os' → y ∈ os) →
    LfsOk K w S.objs β fp (stbOf S.objs fp w) ls vs → LfsOk K w objs' (nb β os) (nf fp os) stb' ls' vs
  | [], ls', n, os', vs, h, _, hl => by
    simp only [canLs, Option.some.injEq, Prod.mk.injEq] at h
    obtain ⟨rfl, -⟩ := h
    exact ⟨hl.1, fun i l h => by simp at h⟩
  | l :: ls, ls', n, os', vs, h, hm, hl => by
    simp only [canLs] at h
    split at h
    · rename_i l1 o1 h1
      split at h
      · rename_i r' o2 h2
        cases h
        obtain ⟨u, us, rfl⟩ : ∃ u us, vs = u :: us := by
          cases vs with
          | nil => have := hl.1; simp at this
          | cons u us => exact ⟨u, us, rfl⟩
        have hl1 : LfsOk K w S.objs β fp (stbOf S.objs fp w) ls us := ⟨by have := hl.1; simpa using this, fun i l' hi => hl.2 (i + 1) l' (by simpa using hi)⟩
        have ih := canLs_ok hn hB hst h2 (fun y hy => hm y (by simp [hy])) hl1
        refine ⟨by simp [ih.1], fun i l' hi => ?_⟩
        cases i with
        | zero => simp at hi; subst hi; exact canL_ok hn hB hst h1 (fun y hy => hm y (by simp [hy])) (hl.2 0 l rfl)
        | succ i => exact ih.2 i l' (by simpa using hi)
      · cases h
    · cases h
theorem canLs_len {n : Nat} : ∀ {ls ls' : List (Lf C)} {n : Nat} {os' : List (CE C)}, canLs S nm B n ls = some (ls', os') → ls'.length = ls.length
  | [], ls', n, os', h => by simp only [canLs, Option.some.injEq, Prod.mk.injEq] at h; rw [← h.1]
  | l :: ls, ls', n, os', h => by
    simp only [canLs] at h
    split at h
    · split at h
      · rename_i r' o2 h2
        cases h
        simp [canLs_len (n := n) h2]
      · cases h
    · cases h
end

theorem canon_sound (hs : Sim K w0 nt S β fp a w) {ent : List Nat} {S' : St C} (h : S.canon ent = some S') : SimE K w0 nt S' a w := by
  unfold St.canon canon1 at h
  generalize hnm : tabE (liveE S.env ent) ++ tabB S (boxesOf S (liveE S.env ent)) = nm at h
  generalize hBB : boxesOf S (liveE S.env ent) = B at h
  clear hnm hBB
  cases hc : canE S nm B (liveE S.env ent) with
  | mk e os0 =>
    rw [hc] at h
    cases hcb : canB S nm B B with
    | none => rw [hcb] at h; cases h
    | some osb =>
    rw [hcb] at h
    obtain ⟨hn, h⟩ := cond_some h
    cases h
    obtain ⟨g10, g2⟩ := canE_good hc
    obtain ⟨gb1, gb2⟩ := canB_good hcb
    have g1 : ∀ x, x ∈ os0 ++ osb → GoodE S nm B (os0 ++ osb) x := fun x hx => by
      rcases List.mem_append.1 hx with hx | hx
      · exact (g10 x hx).mono fun y hy => by simp [hy]
      · exact (gb1 x hx).mono fun y hy => by simp [hy]
    have hall : ∀ y, y ∈ os0 ++ osb → y ∈ onceO (os0 ++ osb) [] := fun y hy => once_all g1 hy
    have ho : ∀ {n n' i : Nat} {ob ob' : Ob C}, (n, some i, ob) ∈ onceO (os0 ++ osb) [] → (n', some i, ob') ∈ onceO (os0 ++ osb) [] → n = n' ∧ ob = ob' := fun h h' => once_old h h'
    have g1 : ∀ x, x ∈ onceO (os0 ++ osb) [] → GoodE S nm B (onceO (os0 ++ osb) []) x := fun x hx => (g1 x (once_mem hx)).mono hall
    have hB : ∀ id, id ∈ B → ∃ ob', (id, some id, ob') ∈ onceO (os0 ++ osb) [] := fun id hi => by
      obtain ⟨ls', hm⟩ := gb2 id hi
      exact ⟨ls', hall _ (by simp [hm])⟩
    have g2 : ∀ t v', lk e t = some v' → ∃ v os', (t, v) ∈ liveE S.env ent ∧ canV S nm B t v = some (v', os') ∧ ∀ y, y ∈ os' → y ∈ onceO (os0 ++ osb) [] := fun t v' ht => by
      obtain ⟨v, os', h1, h2, h3⟩ := g2 t v' ht
      exact ⟨v, os', h1, h2, fun y hy => hall y (by simp [h3 y hy])⟩
    generalize onceO (os0 ++ osb) [] = os at *
    -- what an entry's footprint is
    have fpE : ∀ {n ob k}, lk (obsN os) n = some ob → nf fp os n k → ∃ id ob0, (n, some id, ob) ∈ os ∧ lk S.objs id = some ob0 ∧ fp id k := by
      intro n ob k hl hk
      obtain ⟨s, h1, h2⟩ := obs_mem hl
      simp only [nf, h2] at hk
      cases s with
      | none => exact hk.elim
      | some id =>
        rcases g1 _ h1 with ⟨n', t, e⟩ | ⟨n', id', t, xs, sh, e, _, hid⟩ | ⟨id', kd, ls, ls', os', e, hid, _⟩ | ⟨id', ob', e, hid, hlo⟩
        · cases e
        · cases e; exact ⟨_, _, h1, hid, hk⟩
        · cases e; exact ⟨_, _, h1, hid, hk⟩
        · cases e; exact ⟨_, _, h1, hid, hk⟩
    have hst : ∀ k, stbOf S.objs fp w k → stbOf (obsN os) (nf fp os) w k := by
      intro k hk
      refine ⟨hk.1, fun n ob hl hf => ?_⟩
      obtain ⟨id, ob0, _, h2, h3⟩ := fpE hl hf
      exact hk.2 id ob0 h2 h3
    refine ⟨nb β os, nf fp os, hs.below, hs.defers, hs.size, ?_, ?_, ?_, ?_⟩
    · intro n ob k hl hk
      obtain ⟨id, ob0, _, h2, h3⟩ := fpE hl hk
      exact hs.fresh id ob0 k h2 h3
    · intro n n' ob ob' k hl hl' hk hk'
      obtain ⟨id, ob0, m1, h2, h3⟩ := fpE hl hk
      obtain ⟨id', ob0', m1', h2', h3'⟩ := fpE hl' hk'
      have e := hs.disj id id' ob0 ob0' k h2 h2' h3 h3'
      subst e
      exact (ho m1 m1').1
    · intro n ob hl
      obtain ⟨s, h1, h2⟩ := obs_mem hl
      rcases g1 _ h1 with ⟨n', t, e⟩ | ⟨n', id, t, xs, sh, e, _, hid⟩ | ⟨id, kd, ls, ls', os', e, hid, hcan, hsub⟩ | ⟨id, ob', e, hid, hlo⟩
      · cases e
        have eb : nb β os n = .slice none 0 0 := by simp [nb, h2]
        have ef : ∀ k, ¬ nf fp os n k := fun k hk => by simp [nf, h2] at hk
        rw [eb]
        exact .row _ t [] _ [] (fun _ _ _ => False) (World.ownsRow_nil w w0.heap.size (K.tid t) (K.sz t)) (fun g hg => by simp [Value.ownBlock] at hg) (fun _ _ _ h => h.elim) (fun _ _ _ _ _ h => h.elim) (fun j hj => absurd hj (by simp))
      · cases e
        have eb : nb β os n = β id := by simp [nb, h2]
        have ef : nf fp os n = fp id := by funext k; simp [nf, h2]
        rw [eb, ef]
        exact (hs.objs id _ hid).tr (fun k hk => ⟨hst k hk, rfl⟩) (fun _ _ => rfl) (fun _ ls e => by cases e)
      · cases e
        have eb : nb β os n = β n := by simp [nb, h2]
        have ef : nf fp os n = fp n := by funext k; simp [nf, h2]
        rw [eb, ef]
        have hobj := hs.objs n _ hid
        cases kd with
        | mem =>
          obtain ⟨b, cs, e, q1, q2, q3, q4⟩ := hobj
          exact ⟨b, cs, e, q1, q2, q3, canLs_ok hn hB hst hcan hsub q4⟩
        | clo f m sh => obtain ⟨us, q1, q2, q3⟩ := hobj; exact ⟨us, q1, q2, canLs_ok hn hB hst hcan hsub q3⟩
        | ifc t sh => obtain ⟨us, q1, q2, q3⟩ := hobj; exact ⟨us, q1, q2, canLs_ok hn hB hst hcan hsub q3⟩
      · cases e
        have eb : nb β os n = β n := by simp [nb, h2]
        have ef : nf fp os n = fp n := by funext k; simp [nf, h2]
        rw [eb, ef]
        exact (hs.objs _ _ hid).tr (fun k hk => ⟨hst k hk, rfl⟩) (fun _ _ => rfl) (fun _ ls e => by subst e; cases hlo)
    · intro t v' ht
      rw [show ({ S with env := e ++ hdrE os (liveE S.env ent), objs := obsN os } : St C).env = e ++ hdrE os (liveE S.env ent) from rfl, lk_append] at ht
      have ht' : lk e t = some v' ∨ lk (hdrE os (liveE S.env ent)) t = some v' := by
        cases e1 : lk e t with
        | some x => rw [e1] at ht; exact .inl ht
        | none => rw [e1] at ht; exact .inr ht
      clear ht
      rcases ht' with ht | ht
      case inr =>
        obtain ⟨id, j, n, h1, h2, h3⟩ := hdrE_lk ht
        subst h3
        obtain ⟨ob, hm⟩ := newOf_mem h2
        have hval : β id = K.hd j := hs.env t _ (mem_liveE h1)
        show nb β os n = K.hd j
        simp [nb, (src_mem hm hn).1, hval]
      obtain ⟨v, os', hE, hv, hsub⟩ := g2 t v' ht
      have hval := hs.env t v (mem_liveE hE)
      unfold canV at hv
      split at hv
      · split at hv
        · rename_i l' os1 hc1
          cases hv
          exact canL_ok hn hB hst hc1 hsub hval
        · cases hv
      · split at hv
        · rename_i l' os1 hc1
          cases hv
          obtain ⟨vs, e, hl⟩ := hval
          exact ⟨vs, e, canLs_ok hn hB hst hc1 hsub hl⟩
        · cases hv
      · rename_i b ls j
        split at hv
        · rename_i l' os1 hc1
          cases hv
          cases b with
          | false =>
            obtain ⟨l, h1, h2⟩ := hval
            have h1 : ls = [l] := h1
            subst h1
            have := canLs_ok (objs' := obsN os) (stb' := stbOf (obsN os) (nf fp os) w) (vs := [K.hd j]) hn hB hst hc1 hsub ⟨rfl, fun i l' hi => by cases i with | zero => simp at hi; subst hi; exact h2 | succ i => simp at hi⟩
            have hlen := canLs_len (n := 0) hc1
            obtain ⟨l2, rfl⟩ := List.length_eq_one_iff.1 hlen
            exact ⟨l2, rfl, this.2 0 l2 rfl⟩
          | true =>
            obtain ⟨vs, e, hl⟩ := hval
            exact ⟨vs, e, canLs_ok hn hB hst hc1 hsub hl⟩
        · cases hv
      · cases hv
        exact fun k hk => ⟨hst k (hval k hk).1, (hval k hk).2⟩
      · cases hv
end
end Go.Proofs.YtjodpeldfebhfaaGreat.Ab

/- The abstract machine, part 22: what an operation that writes into nothing does elsewhere. -/
set_option linter.unusedVariables false
set_option linter.unusedSimpArgs false
set_option linter.unusedSectionVars false
namespace Go.Proofs.YtjodpeldfebhfaaGreat.Ab
open Go Go.RowKit

section
variable {Ty : Type} [DecidableEq Ty] {C : Ty → Type}
variable {X : Cx C} {S S' : St C} {R : Type} {r : R}

/-- All that S tells, S' tells too. -/
structure Le (S S' : St C) : Prop where
  base : S'.base = S.base
  env : ∀ t v, lk S.env t = some v → lk S'.env t = some v
  objs : ∀ id ob, lk S.objs id = some ob → lk S'.objs id = some ob

/-- What an operation brings. -/
def eff (S : St C) (dst : Option Tmp) (v : SV C) (news : List (Nat × Ob C)) (dels : List Nat) : St C := St.put { S with objs := news ++ rmAll dels S.objs } dst v

theorem opd_le (h : Le S S') {x : Operand} {v : SV C} (hx : opd S x = some v) : opd S' x = some v := by
  cases x with
  | tmp t => exact h.env t v hx
  | const c =>
    cases c with
    | pointer p => cases p <;> (first | exact hx | simp [opd] at hx)
    | map p => cases p <;> (first | exact hx | simp [opd] at hx)
    | _ => (first | exact hx | simp [opd] at hx)
  | global g => simp [opd] at hx
  | func f => exact hx
theorem opdT_le (h : Le S S') {T : TypeId} {x : Operand} {v : SV C} (hx : opdT X S T x = some v) : opdT X S' T x = some v := by
  unfold opdT at hx ⊢
  split at hx
  · exact hx
  · exact opd_le h hx
theorem Sli_le {l : Lf C} {α : Type} {f : (t : Ty) → List (C t) → Option α} {q : α} (hl : Sli S X l f = some q) : ∃ t xs, f t xs = some q ∧ ∀ {S' : St C}, Le S S' → ∀ {γ : Type} (g : (t : Ty) → List (C t) → Option γ), Sli S' X l g = g t xs := by
  cases l with
  | row t xs => exact ⟨t, xs, hl, fun {S'} h {γ} g => rfl⟩
  | nil t => exact ⟨t, [], hl, fun {S'} h {γ} g => rfl⟩
  | ref id p =>
    simp only [Sli] at hl
    split at hl
    · rename_i t xs sh ho
      have key : ∀ (p : List (Nat × Nat)) (t : Ty) (xs : List (C t)), path X.K p t xs f = some q → ∃ t' zs, f t' zs = some q ∧ ∀ {γ : Type} (g : (t : Ty) → List (C t) → Option γ), path X.K p t xs g = g t' zs := by
        intro p
        induction p with
        | nil => intro t xs h; exact ⟨t, xs, h, fun g => rfl⟩
        | cons s p ih =>
          intro t xs h
          obtain ⟨i, o⟩ := s
          simp only [path] at h
          cases hx : xs[i]? with
          | none => rw [hx] at h; cases h
          | some x =>
            rw [hx] at h
            simp only [Option.bind_some] at h
            split at h
            · rename_i t' ys he
              obtain ⟨t2, zs, h1, h2⟩ := ih t' ys h
              exact ⟨t2, zs, h1, fun g => by simp only [path, hx, Option.bind_some, he]; exact h2 g⟩
            · cases h
      obtain ⟨t', zs, h1, h2⟩ := key p t xs hl
      exact ⟨t', zs, h1, fun {S'} h {γ} g => by simp only [Sli, h.objs id _ ho]; exact h2 g⟩
    · cases hl
  | _ => simp [Sli] at hl
theorem cells_le {l : Lf C} {α : Type} {f : List (Lf C) → Option α} {q : α} (hl : cellsAt X S l f = some q) : ∃ ls, f ls = some q ∧ ∀ {S' : St C}, Le S S' → ∀ {γ : Type} (g : List (Lf C) → Option γ), cellsAt X S' l g = g ls := by
  cases l with
  | ptr id off =>
    simp only [cellsAt] at hl
    split at hl
    · rename_i ls ho
      exact ⟨_, hl, fun {S'} h {γ} g => by simp only [cellsAt, h.objs id _ ho]⟩
    · cases hl
  | elt t x o => exact ⟨_, hl, fun {S'} h {γ} g => rfl⟩
  | ep id p i o =>
    simp only [cellsAt] at hl
    split at hl
    · rename_i t xs sh ho
      have hs : Sli S X (.ref id p) (fun t' ys => Option.bind ys[i]? fun x => f ((inRow id p i (cond p.isEmpty sh false) 0 (X.K.enc t' x)).drop o)) = some q := by simp only [Sli, ho]; exact hl
      obtain ⟨t', zs, h1, h2⟩ := Sli_le hs
      cases hz : zs[i]? with
      | none => rw [hz] at h1; cases h1
      | some x =>
        rw [hz] at h1
        refine ⟨_, h1, fun {S'} h {γ} g => ?_⟩
        have := h2 h (fun t' ys => Option.bind ys[i]? fun x => g ((inRow id p i (cond p.isEmpty sh false) 0 (X.K.enc t' x)).drop o))
        rw [hz] at this
        simp only [Sli, h.objs id _ ho, Option.bind_some] at this
        simp only [cellsAt, h.objs id _ ho]
        exact this
    · cases hl
  | _ => simp [cellsAt] at hl
theorem binL_le {tk : Option (TK Ty)} {op : BinOp} {x y : SV C} {α : Type} {f : SV C → Option α} {q : α} (hl : binL tk op x y f = some q) : ∃ v, f v = some q ∧ ∀ {γ : Type} (g : SV C → Option γ), binL tk op x y g = g v := by
  unfold binL at hl ⊢
  split at hl
  · rename_i ka a kb b
    obtain ⟨e, hl⟩ := cond_some hl
    simp only [e, cond_true]
    split at hl
    · rename_i c hc; exact ⟨_, hl, fun g => by simp only [hc]⟩
    · rename_i hc
      split at hl
      · rename_i n hn; exact ⟨_, hl, fun g => by simp only [hc, hn]⟩
      · rename_i hn
        obtain ⟨e, hl⟩ := cond_some' hl
        split at hl
        · exact ⟨_, hl, fun g => by simp only [hc, hn, e, cond_false]⟩
        · exact ⟨_, hl, fun g => by simp only [hc, hn, e, cond_false]⟩
        · cases hl
  · rename_i a b
    split at hl
    · rename_i c hc; exact ⟨_, hl, fun g => by simp only [hc]⟩
    · rename_i hc
      split at hl
      · obtain ⟨e, hl⟩ := cond_some hl
        exact ⟨_, hl, fun g => by simp only [hc, e, cond_true]⟩
      · cases hl
  · rename_i a b
    split at hl
    · exact ⟨_, hl, fun g => rfl⟩
    · exact ⟨_, hl, fun g => rfl⟩
    · cases hl
  · rename_i x
    split at hl
    · exact ⟨_, hl, fun g => by simp only [*]⟩
    · exact ⟨_, hl, fun g => by simp only [*]⟩
    · cases hl
  · cases hl
theorem bnd_le (h : Le S S') {n : Nat} {x : Option Operand} {i : Int} (hx : bnd S n x = some i) : bnd S' n x = some i := by
  cases x with
  | none => exact hx
  | some x =>
    simp only [bnd] at hx ⊢
    split at hx
    · rename_i k m hm
      rw [opd_le h hm]
      exact hx
    · cases hx
theorem parts_le (h : Le S S') {fs : List (Nat × Nat × Bool)} : ∀ {ps : List (Nat × Operand)} {ls ls' : List (Lf C)}, partsOf X fs S ps ls = some ls' → partsOf X fs S' ps ls = some ls'
  | [], ls, ls', h => h
  | (i, x) :: r, ls, ls', hp => by
    simp only [partsOf] at hp ⊢
    split at hp
    · rename_i off n ag v hf hv
      obtain ⟨e, hp⟩ := cond_some hp
      rw [opd_le h hv]
      simp only [hf, e, cond_true]
      exact parts_le h hp
    · cases hp
theorem viewL_le (h : Le S S') {l l' : Lf C} (hl : viewL S l = some l') : viewL S' l = some l' := by
  cases l with
  | ref id p =>
    cases p with
    | nil =>
      simp only [viewL] at hl ⊢
      split at hl
      · rename_i t xs sh ho
        rw [h.objs id _ ho]
        exact hl
      · cases hl
    | cons s p => simp [viewL] at hl
  | _ => first | exact hl | (simp [viewL] at hl)
theorem viewLs_le (h : Le S S') : ∀ {ls ls' : List (Lf C)}, viewLs S ls = some ls' → viewLs S' ls = some ls'
  | [], ls', hl => hl
  | l :: ls, ls', hl => by
    simp only [viewLs] at hl ⊢
    split at hl
    · rename_i l1 h1
      split at hl
      · rename_i r' h2
        rw [viewL_le h h1, viewLs_le h h2]
        exact hl
      · cases hl
    · cases hl
theorem viewV_le (h : Le S S') {v v' : SV C} (hv : viewV S v = some v') : viewV S' v = some v' := by
  cases v with
  | one l =>
    simp only [viewV] at hv ⊢
    split at hv
    · rename_i l' hl; rw [viewL_le h hl]; exact hv
    · cases hv
  | agg ls =>
    simp only [viewV] at hv ⊢
    split at hv
    · rename_i l' hl; rw [viewLs_le h hl]; exact hv
    · cases hv
  | _ => simp [viewV] at hv
theorem viewLX_le (h : Le S S') {l l' : Lf C} (hl : viewLX X S l = some l') : viewLX X S' l = some l' := by
  unfold viewLX at hl ⊢
  split at hl
  · obtain ⟨t, xs, h1, h2⟩ := Sli_le hl
    rw [h2 h]
    exact h1
  · exact viewL_le h hl
theorem viewLXs_le (h : Le S S') : ∀ {ls ls' : List (Lf C)}, viewLXs X S ls = some ls' → viewLXs X S' ls = some ls'
  | [], ls', hl => hl
  | l :: ls, ls', hl => by
    simp only [viewLXs] at hl ⊢
    split at hl
    · rename_i l1 h1
      split at hl
      · rename_i r' h2
        rw [viewLX_le h h1, viewLXs_le h h2]
        exact hl
      · cases hl
    · cases hl
theorem viewP_le (h : Le S S') {pt : Option Ty} {v v' : SV C} (hv : viewP X S pt v = some v') : viewP X S' pt v = some v' := by
  cases pt with
  | none => exact viewV_le h hv
  | some t =>
    cases v with
    | one l =>
      simp only [viewP] at hv ⊢
      obtain ⟨ls, h1, h2⟩ := cells_le hv
      rw [h2 h]
      split at h1
      · rename_i ls' hls
        rw [viewLXs_le h hls]
        exact h1
      · cases h1
    | _ => exact hv
theorem views_le (h : Le S S') : ∀ {vs : List (SV C)} {pt : List (Option Ty)} {vs' : List (SV C)}, views X S pt vs = some vs' → views X S' pt vs = some vs'
  | [], pt, vs', hv => hv
  | v :: vs, pt, vs', hv => by
    simp only [views] at hv ⊢
    split at hv
    · rename_i v1 h1
      split at hv
      · rename_i r' h2
        rw [viewP_le h h1, views_le h h2]
        exact hv
      · cases hv
    · cases hv
theorem argsI_le (h : Le S S') : ∀ {xs : List Operand} {ts : List TypeId} {vs : List (SV C)}, argsI X S xs ts = some vs → argsI X S' xs ts = some vs
  | [], ts, vs, hx => hx
  | x :: xs, ts, vs, hx => by
    simp only [argsI] at hx ⊢
    split at hx
    · rename_i l hv
      split at hx
      · rename_i us hu; rw [opdT_le h hv, argsI_le h hu]; exact hx
      · cases hx
    · rename_i l hv
      split at hx
      · rename_i us hu; rw [opdT_le h hv, argsI_le h hu]; exact hx
      · cases hx
    · cases hx
theorem argsC_le (h : Le S S') {pt : List (Option Ty)} {pre post : List (SV C)} {xs : List Operand} {ts : List TypeId} {vs : List (SV C)} (hx : argsC X S pt pre xs ts post = some vs) : argsC X S' pt pre xs ts post = some vs := by
  unfold argsC at hx ⊢
  split at hx
  · rename_i us hu
    rw [argsI_le h hu]
    exact views_le h hx
  · cases hx
theorem cloOf_le {l : Lf C} {α : Type} {f : Nat → List (SV C) → List (SV C) → Option α} {q : α} (hl : cloOf S l f = some q) : ∃ n pre post, f n pre post = some q ∧ ∀ {S' : St C}, Le S S' → ∀ {γ : Type} (g : Nat → List (SV C) → List (SV C) → Option γ), cloOf S' l g = g n pre post := by
  cases l with
  | fnc o => cases o with
    | none => cases hl
    | some f' =>
      simp only [cloOf] at hl
      cases hf : Nat.ble IFZ f' with
      | true => rw [hf] at hl; cases hl
      | false =>
        rw [hf] at hl
        exact ⟨_, _, _, hl, fun {S'} h {γ} g => by simp only [cloOf, hf, cond_false]⟩
  | vo id =>
    simp only [cloOf] at hl
    split at hl
    · rename_i f' n sh ls ho
      obtain ⟨e, hl⟩ := cond_some hl
      exact ⟨_, _, _, hl, fun {S'} h {γ} g => by simp only [cloOf, h.objs id _ ho, e, cond_true]⟩
    · cases hl
  | _ => cases hl
theorem ifcOf_le {x : Operand} {α : Type} {f : TypeId → SV C → Option α} {q : α} (hl : ifcOf S (opd S x) f = some q) : ∃ t v, f t v = some q ∧ ∀ {S' : St C}, Le S S' → ∀ {γ : Type} (g : TypeId → SV C → Option γ), ifcOf S' (opd S' x) g = g t v := by
  unfold ifcOf at hl
  split at hl
  case h_3 => cases hl
  case h_2 =>
    rename_i f hx
    obtain ⟨e, hl⟩ := cond_some hl
    exact ⟨_, _, hl, fun {S'} h {γ} g => by simp only [ifcOf, opd_le h hx, e, cond_true]⟩
  rename_i id hx
  split at hl
  · rename_i t sh ls ho
    obtain ⟨e, hl⟩ := cond_some hl
    split at hl
    · rename_i v hv
      exact ⟨t, v, hl, fun {S'} h {γ} g => by simp only [ifcOf, opd_le h hx, h.objs id _ ho, e, cond_true, hv]⟩
    · cases hl
  · cases hl
theorem idxB_le {ls : List (Lf C)} {sz : Nat} {ag : Bool} {i : Int} {α : Type} {f : SV C → Option α} {q : α} : ∀ {n j : Nat}, idxB ls sz ag i f n j = some q → ∃ v, f v = some q ∧ ∀ {γ : Type} (g : SV C → Option γ), idxB ls sz ag i g n j = g v
  | 0, j, h => by simp [idxB] at h
  | n + 1, j, h => by
    simp only [idxB] at h ⊢
    cases hb : decide (i = (j : Int)) with
    | true =>
      rw [hb] at h
      simp only [cond_true] at h ⊢
      cases ag with
      | true => exact ⟨_, h, fun g => rfl⟩
      | false =>
        simp only at h ⊢
        split at h
        · rename_i l hl
          exact ⟨_, h, fun g => rfl⟩
        · cases h
    | false =>
      rw [hb] at h
      exact idxB_le (n := n) (j := j + 1) h
theorem liveV_le (h : Le S S') {v : SV C} (hl : liveV S v = true) : liveV S' v = true := by
  unfold liveV at hl ⊢
  split at hl
  · exact hl
  · rename_i id
    split at hl
    · rename_i ho; simp only [h.objs id _ ho]
    · rename_i ho; simp only [h.objs id _ ho]
    · cases hl
  · cases hl
theorem nilV_le (h : Le S S') {tk : Option (TK Ty)} {x y : Lf C} {b : Bool} (hl : nilV S tk x y = some b) : nilV S' tk x y = some b := by
  unfold nilV at hl ⊢
  split at hl
  · exact hl
  · rename_i id
    split at hl
    · rename_i ho; simp only [h.objs id _ ho]; exact hl
    · cases hl
  · exact hl
  · exact hl
  · exact hl
  · rename_i id
    split at hl
    · rename_i ho; simp only [h.objs id _ ho]; exact hl
    · cases hl
  · exact hl
  · rename_i id
    split at hl
    · rename_i ho; simp only [h.objs id _ ho]; exact hl
    · cases hl
  · cases hl
theorem cmpNil_le {tk : Option (TK Ty)} {op : BinOp} {x y : SV C} {c : Bool} {α : Type} {f : SV C → Option α} {q : α} (hl : cmpNil S tk op x y c f = some q) : ∃ v, f v = some q ∧ ∀ {S' : St C}, Le S S' → ∀ {γ : Type} (g : SV C → Option γ), cmpNil S' tk op x y c g = g v := by
  unfold cmpNil at hl
  split at hl
  case h_2 => cases hl
  split at hl
  · rename_i hb; exact ⟨_, hl, fun {S'} h {γ} g => by simp only [cmpNil, nilV_le h hb]⟩
  · rename_i hb; exact ⟨_, hl, fun {S'} h {γ} g => by simp only [cmpNil, nilV_le h hb]⟩
  · cases hl
theorem mapAt_le {m : MT Ty} {l : Lf C} {key : SV C} {α : Type} {f : (kt vt : Ty) → C kt → List (Nat × C kt × C vt) → Nat → Option α} {q : α} (hl : mapAt X S m l key f = some q) :
    ∃ kt vt x xs c, f kt vt x xs c = some q ∧ ∀ {S' : St C}, Le S S' → ∀ {γ : Type} (g : (kt vt : Ty) → C kt → List (Nat × C kt × C vt) → Nat → Option γ), mapAt X S' m l key g = g kt vt x xs c := by
  unfold mapAt at hl
  obtain ⟨e, hl⟩ := cond_some hl
  split at hl
  · split at hl
    · rename_i x hx
      exact ⟨_, _, x, [], 0, hl, fun {S'} h {γ} g => by simp only [mapAt, e, cond_true, hx]⟩
    · cases hl
  · rename_i id _
    split at hl
    · rename_i mk kt vt xs c ho
      obtain ⟨e2, hl⟩ := cond_some hl
      split at hl
      · rename_i x hx
        exact ⟨_, _, x, xs, c, hl, fun {S'} h {γ} g => by simp only [mapAt, e, cond_true, h.objs id _ ho, e2, hx]⟩
      · cases hl
    · cases hl
  · cases hl
theorem lookV_le {m : MT Ty} {l : Lf C} {key : SV C} {ok : Bool} {α : Type} {f : SV C → Option α} {q : α} (hl : lookV X S m l key ok f = some q) : ∃ v, f v = some q ∧ ∀ {S' : St C}, Le S S' → ∀ {γ : Type} (g : SV C → Option γ), lookV X S' m l key ok g = g v := by
  unfold lookV at hl
  obtain ⟨kt, vt, x, xs, c, h1, h2⟩ := mapAt_le hl
  cases ok with
  | true => exact ⟨_, h1, fun {S'} h {γ} g => by unfold lookV; rw [h2 h]; rfl⟩
  | false => exact ⟨_, h1, fun {S'} h {γ} g => by unfold lookV; rw [h2 h]; rfl⟩
end
end Go.Proofs.YtjodpeldfebhfaaGreat.Ab

/- The abstract machine, part 23: what an operation that writes into nothing does elsewhere, one by one. -/
set_option linter.unusedVariables false
set_option linter.unusedSimpArgs false
set_option linter.unusedSectionVars false
namespace Go.Proofs.YtjodpeldfebhfaaGreat.Ab
open Go Go.RowKit

section
variable {Ty : Type} [DecidableEq Ty] {C : Ty → Type}
variable {X : Cx C} {S S' : St C} {R : Type} {r : R}

theorem lk_rmAll {α : Type} : ∀ (d : List Nat) (l : List (Nat × α)) (n : Nat), lk (rmAll d l) n = if n ∈ d then none else lk l n
  | [], l, n => by simp [rmAll]
  | x :: d, l, n => by
    rw [rmAll, lk_rmAll d, lk_rm]
    by_cases h : n ∈ d <;> by_cases e : n = x <;> simp [h, e]
theorem rmAll_append {α : Type} : ∀ (d e : List Nat) (l : List (Nat × α)), rmAll (d ++ e) l = rmAll e (rmAll d l)
  | [], e, l => rfl
  | x :: d, e, l => by simp only [List.cons_append, rmAll, rmAll_append d e]
theorem Le.del (h : Le S S') (d : List Nat) : Le { S with objs := rmAll d S.objs } { S' with objs := rmAll d S'.objs } := by
  refine ⟨h.base, h.env, fun id ob hi => ?_⟩
  simp only [lk_rmAll] at hi ⊢
  split at hi
  · cases hi
  · rename_i e; rw [if_neg e]; exact h.objs id ob hi

theorem absorb_le : ∀ {ls : List (Lf C)} {S S' : St C} {ls' : List (Lf C)} {S1 : St C} {b : Bool}, Le S S' → absorb S ls = some (ls', S1, b) →
    S1 = { S with objs := rmAll (refsL ls) S.objs } ∧ absorb S' ls = some (ls', { S' with objs := rmAll (refsL ls) S'.objs }, b)
  | [], S, S', ls', S1, b, h, ha => by
    simp only [absorb, Option.some.injEq, Prod.mk.injEq] at ha
    obtain ⟨rfl, rfl, rfl⟩ := ha
    exact ⟨rfl, rfl⟩
  | l :: ls, S, S', ls', S1, b, h, ha => by
    cases l with
    | ref id p =>
      cases p with
      | cons s p => simp [absorb] at ha
      | nil =>
        simp only [absorb] at ha ⊢
        split at ha
        · rename_i t xs ho
          split at ha
          · rename_i r' S2 b2 hr
            have hd : Le (S.delObj id) (S'.delObj id) := h.del [id]
            obtain ⟨e1, e2⟩ := absorb_le hd hr
            cases ha
            rw [h.objs id _ ho]
            simp only [e2]
            exact ⟨e1, rfl⟩
          · cases ha
        · cases ha
    | nil t =>
      simp only [absorb] at ha ⊢
      split at ha
      · rename_i r' S2 b2 hr
        obtain ⟨e1, e2⟩ := absorb_le h hr
        cases ha
        simp only [e2]
        exact ⟨e1, rfl⟩
      · cases ha
    | row t xs =>
      simp only [absorb] at ha ⊢
      split at ha
      · rename_i r' S2 b2 hr
        obtain ⟨e1, e2⟩ := absorb_le h hr
        cases ha
        simp only [e2]
        exact ⟨e1, rfl⟩
      · cases ha
    | nilv n =>
      cases n with
      | map => simp [absorb] at ha
      | ifc =>
        simp only [absorb] at ha ⊢
        split at ha
        · rename_i r' S2 b2 hr
          obtain ⟨e1, e2⟩ := absorb_le h hr
          cases ha
          simp only [e2]
          exact ⟨e1, rfl⟩
        · cases ha
    | int k n =>
      simp only [absorb] at ha ⊢
      split at ha
      · rename_i r' S2 b2 hr
        obtain ⟨e1, e2⟩ := absorb_le h hr
        cases ha
        simp only [e2]
        exact ⟨e1, rfl⟩
      · cases ha
    | bool c =>
      simp only [absorb] at ha ⊢
      split at ha
      · rename_i r' S2 b2 hr
        obtain ⟨e1, e2⟩ := absorb_le h hr
        cases ha
        simp only [e2]
        exact ⟨e1, rfl⟩
      · cases ha
    | str c =>
      simp only [absorb] at ha ⊢
      split at ha
      · rename_i r' S2 b2 hr
        obtain ⟨e1, e2⟩ := absorb_le h hr
        cases ha
        simp only [e2]
        exact ⟨e1, rfl⟩
      · cases ha
    | fnc c =>
      simp only [absorb] at ha ⊢
      split at ha
      · rename_i r' S2 b2 hr
        obtain ⟨e1, e2⟩ := absorb_le h hr
        cases ha
        simp only [e2]
        exact ⟨e1, rfl⟩
      · cases ha
    | _ => simp [absorb] at ha

theorem elems_le {t : Ty} : ∀ {ps : List (Nat × Operand)} {n : Nat} {S S' : St C} {es : List (C t)} {S1 : St C} {b : Bool}, Le S S' → elems X t S n ps = some (es, S1, b) →
    S1 = { S with objs := rmAll (refsP X t S ps) S.objs } ∧ elems X t S' n ps = some (es, { S' with objs := rmAll (refsP X t S ps) S'.objs }, b)
  | [], n, S, S', es, S1, b, h, he => by
    simp only [elems, Option.some.injEq, Prod.mk.injEq] at he
    obtain ⟨rfl, rfl, rfl⟩ := he
    exact ⟨rfl, rfl⟩
  | (i, x) :: ps, n, S, S', es, S1, b, h, he => by
    simp only [elems] at he ⊢
    split at he
    · rename_i v hv
      split at he
      · rename_i ls S2 b2 ha
        split at he
        · rename_i e hd
          split at he
          · rename_i es' S3 b3 hes
            obtain ⟨hb, he⟩ := cond_some he
            obtain ⟨rfl, a2⟩ := absorb_le h ha
            obtain ⟨e1, e2⟩ := elems_le (h.del (refsL v.leaves)) hes
            cases he
            rw [opdT_le h hv]
            simp only [a2, hd, e2, hb, cond_true, refsP, hv, rmAll_append]
            exact ⟨e1, trivial⟩
          · cases he
        · cases he
      · cases he
    · cases he

theorem add_of {id : Nat} {ob : Ob C} (h : Unnamed S id) : S.add id ob = some (S.setObj id ob) := by
  unfold St.add
  have : (idsE0 S.env ++ idsO S.objs).any (Nat.beq id) = false := by
    rw [List.any_eq_false]
    intro x hx hb
    have e := Nat.eq_of_beq_eq_true hb
    subst e
    rcases List.mem_append.1 hx with hx | hx
    · exact h.1 hx
    · exact h.2 hx
  rw [this]
  rfl

theorem idsO_rm {id : Nat} {l : Objs C} {n : Nat} (h : n ∈ idsO (rm l id)) : n ∈ idsO l := by
  induction l with
  | nil => simpa [rm] using h
  | cons x l ih =>
    obtain ⟨m, ob⟩ := x
    simp only [rm] at h
    cases hb : Nat.beq id m with
    | true =>
      rw [hb] at h
      simp only [cond_true] at h
      have := ih h
      cases ob <;> simp [idsO, this]
    | false =>
      rw [hb] at h
      simp only [cond_false] at h
      cases ob with
      | box kd ls =>
        simp only [idsO, List.mem_cons, List.mem_append] at h ⊢
        rcases h with h | h | h
        · exact .inl h
        · exact .inr (.inl h)
        · exact .inr (.inr (ih h))
      | row t xs sh =>
        simp only [idsO, List.mem_cons] at h ⊢
        rcases h with h | h
        · exact .inl h
        · exact .inr (ih h)
      | map mk kt vt xs c =>
        simp only [idsO, List.mem_cons] at h ⊢
        rcases h with h | h
        · exact .inl h
        · exact .inr (ih h)
      | ghost =>
        simp only [idsO, List.mem_cons] at h ⊢
        rcases h with h | h
        · exact .inl h
        · exact .inr (ih h)
theorem idsO_rmAll {l : Objs C} {n : Nat} : ∀ {d : List Nat} {l : Objs C}, n ∈ idsO (rmAll d l) → n ∈ idsO l
  | [], l, h => h
  | x :: d, l, h => idsO_rm (idsO_rmAll (l := l) h)
theorem unnamed_del {d : List Nat} {id : Nat} (h : Unnamed S id) : Unnamed { S with objs := rmAll d S.objs } id := ⟨h.1, fun hm => h.2 (idsO_rmAll (l := S.objs) hm)⟩

/-- Many rows at once. -/
theorem addAll_of : ∀ {news : List (Nat × Ob C)} {S : St C}, (∀ id ob, (id, ob) ∈ news → Unnamed S id ∧ ∃ t xs sh, ob = .row t xs sh) → nodupN (keysO news) = true → S.addAll news = some { S with objs := news.reverse ++ S.objs }
  | [], S, _, _ => rfl
  | (id, ob) :: r, S, h, hn => by
    simp only [keysO, List.map_cons, nodupN, Bool.and_eq_true, Bool.not_eq_true'] at hn
    obtain ⟨h1, t, xs, sh, rfl⟩ := h id ob (by simp)
    simp only [St.addAll, add_of h1]
    rw [addAll_of (S := S.setObj id (.row t xs sh)) (fun j ob' hj => ?_) hn.2]
    · simp [St.setObj]
    · obtain ⟨g1, g2⟩ := h j ob' (by simp [hj])
      refine ⟨⟨g1.1, fun hm => ?_⟩, g2⟩
      simp only [St.setObj, idsO, List.mem_cons] at hm
      rcases hm with e | hm
      · subst e
        refine absurd ?_ (beq_any hn.1)
        exact List.mem_map.2 ⟨(j, ob'), hj, rfl⟩
      · exact g1.2 hm

theorem nodupN_rev {l : List Nat} : nodupN l = true ↔ l.Nodup := by
  induction l with
  | nil => simp [nodupN]
  | cons x l ih =>
    simp only [nodupN, Bool.and_eq_true, Bool.not_eq_true', List.nodup_cons, ih]
    constructor
    · exact fun ⟨h1, h2⟩ => ⟨beq_any h1, h2⟩
    · refine fun ⟨h1, h2⟩ => ⟨?_, h2⟩
      rw [List.any_eq_false]
      intro y hy hb
      exact h1 (Nat.eq_of_beq_eq_true hb ▸ hy)

theorem intern_row : ∀ (ls : List (Lf C)) (n id : Nat) (ob : Ob C), (id, ob) ∈ (intern n ls).2 → ∃ t xs sh, ob = .row t xs sh
  | [], n, id, ob, h => by simp [intern] at h
  | l :: ls, n, id, ob, h => by
    cases l with
    | row t xs =>
      simp only [intern, List.mem_cons] at h
      rcases h with h | h
      · cases h; exact ⟨t, xs, false, rfl⟩
      · exact intern_row ls _ id ob h
    | _ => exact intern_row ls (n + 1) id ob (by simpa [intern] using h)
theorem news_row : ∀ (rs : List (Bool × List (Lf C))) (n id : Nat) (ob : Ob C), (id, ob) ∈ (internAll n rs).2 → ∃ t xs sh, ob = .row t xs sh
  | [], n, id, ob, h => by simp [internAll] at h
  | (b, ls) :: r, n, id, ob, h => by
    simp only [internAll, List.mem_append] at h
    rcases h with h | h
    · exact intern_row ls n id ob h
    · exact news_row r _ id ob h

/-- What evq tells of ev at S'. -/
abbrev Told (X : Cx C) (o : Oper) (S : St C) (r : R) (k : SV C → List (Nat × Ob C) → List Nat → Option R) : Prop :=
  ∃ v news dels, k v news dels = some r ∧ ∀ (S' : St C), Le S S' → (∀ id, id ∈ keysO news → Unnamed S' id) → nodupN (keysO news) = true → ∀ {R' : Type} (k' : St C → Option R'), ev X o S' k' = k' (eff S' o.dst v news dels)

theorem newId_le (h : Le S S') (o : Oper) : newId X o = newId X o := rfl

theorem q_apnd {o : Oper} {k : SV C → List (Nat × Ob C) → List Nat → Option R} {t t0 t1 : Ty} {xs : List (C t0)} {ys : List (C t1)} {id0 id1 : Option Nat} {sh : Bool} (hq : apndq X o S t t0 t1 xs ys id0 id1 sh k = some r)
    (hev : ∀ (S' : St C), Le S S' → ∀ {R' : Type} (k' : St C → Option R'), ev X o S' k' = apnd X o S' t t0 t1 xs ys id0 id1 sh k') : Told X o S r k := by
  unfold apndq at hq
  split at hq
  · rename_i xs' ys' hx hy
    obtain ⟨hb, hq⟩ := cond_some hq
    refine ⟨_, _, _, hq, fun S' h hf _ {R'} k' => ?_⟩
    rw [hev S' h]
    have hu : Unnamed (delO (delO S' id0) id1) (newId X o) := by
      have := hf (newId X o) (by simp [keysO])
      have := unnamed_del (d := insList id0 ++ insList id1) this
      rw [rmAll_append] at this
      cases id0 <;> cases id1 <;> exact this
    unfold apnd
    simp only [hx, hy, hb, cond_true, newId_le h o, add_of hu]
    unfold eff
    rw [rmAll_append]
    cases id0 <;> cases id1 <;> rfl
  · cases hq

theorem callCq_le' {c' : Con C} {pre post : List (SV C)} {as : List Operand} {ts : List TypeId} {o o' : Oper} {k : SV C → List (Nat × Ob C) → List Nat → Option R} (hq : callCq X c' S pre as ts post o k = some r) (hoo : o' = o)
    (hev : ∀ (S' : St C), Le S S' → ∀ {R' : Type} (k' : St C → Option R'), ev X o' S' k' = callC X c' S' pre as ts post o k') : Told X o' S r k := by
  subst hoo
  unfold callCq at hq
  split at hq
  case h_2 => cases hq
  rename_i vs hvs
  cases hg : c'.g vs with
  | none => rw [hg] at hq; cases hq
  | some r0 =>
    rw [hg] at hq
    simp only [Option.bind_some] at hq
    split at hq
    case h_2 => cases hq
    rename_i v hv
    refine ⟨_, _, _, hq, fun S' h hf hnd {R'} k' => ?_⟩
    rw [hev S' h]
    unfold callC
    simp only [argsC_le h hvs, hg, Option.bind_some, hv]
    have hnd' : nodupN (keysO (internAll (newId X o') (c'.ret r0)).2) = true := by
      rw [nodupN_rev] at hnd ⊢
      have e : keysO (internAll (newId X o') (c'.ret r0)).2.reverse = (keysO (internAll (newId X o') (c'.ret r0)).2).reverse := by simp [keysO]
      rw [e] at hnd
      exact (List.reverse_perm _).nodup_iff.1 hnd
    rw [addAll_of (fun id ob hm => ⟨hf id ?_, ?_⟩) hnd']
    · rfl
    · exact List.mem_map.2 ⟨(id, ob), by simpa using hm, rfl⟩
    · exact news_row _ _ _ _ hm
theorem callCq_le {c' : Con C} {pre post : List (SV C)} {as : List Operand} {ts : List TypeId} {o o' : Oper} {k : SV C → List (Nat × Ob C) → List Nat → Option R} (hq : callCq X c' S pre as ts post o k = some r) (hoo : o' = o)
    (hev : ∀ (S' : St C) {R' : Type} (k' : St C → Option R'), ev X o' S' k' = callC X c' S' pre as ts post o k') : Told X o' S r k :=
  callCq_le' hq hoo fun S' _ {R'} k' => hev S' k'

theorem evq_le {o : Oper} {k : SV C → List (Nat × Ob C) → List Nat → Option R} (hq : evq X o S k = some r) : Told X o S r k := by
  obtain ⟨dst, op, ty, pos, aft, gd⟩ := o
  cases op with
  | move x =>
    simp only [evq] at hq
    split at hq
    · rename_i v hv
      exact ⟨_, _, _, hq, fun S' h _ _ {R'} k' => by simp only [ev, opdT_le h hv]; rfl⟩
    · cases hq
  | pick c x y =>
    simp only [evq] at hq
    split at hq
    · rename_i c' x' y' h1 h2 h3
      exact ⟨_, _, _, hq, fun S' h _ _ {R'} k' => by simp only [ev, opd_le h h1, opd_le h h2, opd_le h h3]; rfl⟩
    · rename_i v z h1 h2 hno
      refine ⟨_, _, _, hq, fun S' h _ _ {R'} k' => ?_⟩
      simp only [ev, opd_le h h1, opd_le h h2]
      generalize opd S' y = u
      rcases u with _ | (l | ls | vs) <;> rcases z with (l' | _ | _)
      all_goals first | rfl | (cases l' <;> first | rfl | (cases l <;> rfl))
    · rename_i v h1 h2 hno
      refine ⟨_, _, _, hq, fun S' h _ _ {R'} k' => ?_⟩
      simp only [ev, opd_le h h1, opd_le h h2]
      generalize opd S' x = u
      rcases u with _ | (l | ls | vs) <;> rcases v with (l' | _ | _)
      all_goals first | rfl | (cases l' <;> first | rfl | (cases l <;> rfl)) | (cases l <;> rfl)
    · cases hq
  | box e x =>
    simp only [evq] at hq
    split at hq
    · rename_i v tk hv ht
      obtain ⟨hb, hq⟩ := cond_some hq
      refine ⟨_, _, _, hq, fun S' h hf _ {R'} k' => ?_⟩
      have hu := hf (newId X ⟨dst, .box e x, ty, pos, aft, gd⟩) (by simp [keysO])
      simp only [ev, opd_le h hv, ht, hb, cond_true, add_of hu]
      rfl
    · cases hq
  | alloc e =>
    simp only [evq] at hq
    split at hq
    · rename_i z ht
      refine ⟨_, _, _, hq, fun S' h hf _ {R'} k' => ?_⟩
      have hu := hf (newId X ⟨dst, .alloc e, ty, pos, aft, gd⟩) (by simp [keysO])
      simp only [ev, ht, add_of hu]
      rfl
    · rename_i fs zs ht
      refine ⟨_, _, _, hq, fun S' h hf _ {R'} k' => ?_⟩
      have hu := hf (newId X ⟨dst, .alloc e, ty, pos, aft, gd⟩) (by simp [keysO])
      simp only [ev, ht, add_of hu]
      rfl
    · rename_i n sz ag zs ht
      refine ⟨_, _, _, hq, fun S' h hf _ {R'} k' => ?_⟩
      have hu := hf (newId X ⟨dst, .alloc e, ty, pos, aft, gd⟩) (by simp [keysO])
      simp only [ev, ht, add_of hu]
      rfl
    · cases hq
  | build t ps =>
    simp only [evq] at hq
    split at hq
    · rename_i fs zs ht
      split at hq
      · rename_i ls hp
        obtain ⟨hb, hq⟩ := cond_some hq
        refine ⟨_, _, _, hq, fun S' h hf _ {R'} k' => ?_⟩
        simp only [ev, ht, parts_le h hp, hb, cond_true]
        rfl
      · cases hq
    · rename_i n sz ag zs ht
      split at hq
      · rename_i ls hp
        refine ⟨_, _, _, hq, fun S' h hf _ {R'} k' => ?_⟩
        simp only [ev, ht, parts_le h hp]
        rfl
      · cases hq
    · cases hq
  | buildSlice t n ps =>
    simp only [evq] at hq
    split at hq
    · rename_i t1 ht
      split at hq
      · rename_i es S1 b he
        obtain ⟨hb, hq⟩ := cond_some hq
        refine ⟨_, _, _, hq, fun S' h hf _ {R'} k' => ?_⟩
        obtain ⟨_, e2⟩ := elems_le h he
        have hu := unnamed_del (d := refsP X t1 S ps.toList) (hf (newId X ⟨dst, .buildSlice t n ps, ty, pos, aft, gd⟩) (by simp [keysO]))
        simp only [ev, ht, e2, hb, cond_true, add_of hu]
        rfl
      · cases hq
    · cases hq
  | load t x =>
    simp only [evq] at hq
    split at hq
    · rename_i tk l ht hx
      obtain ⟨ls, hk, hg⟩ := cells_le hq
      split at hk
      · rename_i v hm
        refine ⟨_, _, _, hk, fun S' h hf _ {R'} k' => ?_⟩
        simp only [ev, ht, opd_le h hx]
        rw [hg h]
        simp only [hm]
        rfl
      · cases hk
    · cases hq
  | nilCheck x =>
    simp only [evq] at hq
    split at hq
    · rename_i id off hx
      exact ⟨_, _, _, hq, fun S' h _ _ {R'} k' => by simp only [ev, opd_le h hx]; rfl⟩
    · rename_i t0 x0 off hx
      exact ⟨_, _, _, hq, fun S' h _ _ {R'} k' => by simp only [ev, opd_le h hx]; rfl⟩
    · rename_i id p i off hx
      exact ⟨_, _, _, hq, fun S' h _ _ {R'} k' => by simp only [ev, opd_le h hx]; rfl⟩
    · rename_i v n1 n2 n3 hx
      obtain ⟨e, hq⟩ := cond_some hq
      refine ⟨_, _, _, hq, fun S' h _ _ {R'} k' => ?_⟩
      simp only [ev, opd_le h hx]
      rw [liveV_le h e]
      rfl
    · cases hq
  | binOp op t x y t' =>
    simp only [evq] at hq
    split at hq
    · cases hq
    · rename_i u v hne hu hv
      cases hnk : isNilK v with
      | true =>
        rw [hnk] at hq
        simp only [cond_true] at hq
        obtain ⟨z, hk, hg⟩ := cmpNil_le hq
        refine ⟨_, _, _, hk, fun S' h hf _ {R'} k' => ?_⟩
        simp only [ev, opdT_le h hu, opdT_le h hv, hnk, cond_true]
        rw [hg h]
        rfl
      | false =>
        rw [hnk] at hq
        simp only [cond_false] at hq
        obtain ⟨z, hk, hg⟩ := binL_le hq
        refine ⟨_, _, _, hk, fun S' h hf _ {R'} k' => ?_⟩
        simp only [ev, opdT_le h hu, opdT_le h hv, hnk, cond_false]
        rw [hg]
        rfl
    · cases hq
  | unOp op t x =>
    simp only [evq] at hq
    split at hq
    · rename_i b hv
      exact ⟨_, _, _, hq, fun S' h _ _ {R'} k' => by simp only [ev, opd_le h hv]; rfl⟩
    · rename_i ki n hv
      exact ⟨_, _, _, hq, fun S' h _ _ {R'} k' => by simp only [ev, opd_le h hv]; rfl⟩
    · cases hq
  | convert t t' x =>
    simp only [evq] at hq
    split at hq
    · rename_i k1 k' k0 n h1 h2 hv
      exact ⟨_, _, _, hq, fun S' h _ _ {R'} k' => by simp only [ev, h1, h2, opd_le h hv]; rfl⟩
    · rename_i k1 s h1 h2 hv
      exact ⟨_, _, _, hq, fun S' h _ _ {R'} k' => by simp only [ev, h1, h2, opd_le h hv]; rfl⟩
    · rename_i t1 l h1 h2 hv
      obtain ⟨t0, xs, hk, hg⟩ := Sli_le hq
      obtain ⟨e1, hk⟩ := cond_some hk
      obtain ⟨e2, hk⟩ := cond_some hk
      split at hk
      · rename_i h3
        refine ⟨_, _, _, hk, fun S' h _ _ {R'} k' => ?_⟩
        simp only [ev, h1, h2, opd_le h hv]
        rw [hg h]
        simp only [e1, e2, h3, cond_true]
        rfl
      · cases hk
    · cases hq
  | makeSlice t x y =>
    simp only [evq] at hq
    cases hz0 : isZeroC x with
    | true =>
      rw [hz0] at hq
      simp only [cond_true] at hq
      split at hq
      case h_2 => cases hq
      rename_i t1 km m ht hy
      obtain ⟨e2, hq⟩ := cond_some hq
      obtain ⟨e3, hq⟩ := cond_some hq
      refine ⟨_, _, _, hq, fun S' h hf _ {R'} k' => ?_⟩
      have hu := hf (newId X ⟨dst, .makeSlice t x y, ty, pos, aft, gd⟩) (by simp [keysO])
      simp only [ev, hz0, ht, opd_le h hy, e2, e3, cond_true, add_of hu]
      rfl
    | false =>
    rw [hz0] at hq
    simp only [cond_false] at hq
    split at hq
    · rename_i t1 kn n km m ht hx hy
      obtain ⟨e1, hq⟩ := cond_some hq
      obtain ⟨e2, hq⟩ := cond_some hq
      obtain ⟨e3, hq⟩ := cond_some hq
      refine ⟨_, _, _, hq, fun S' h hf _ {R'} k' => ?_⟩
      have hu := hf (newId X ⟨dst, .makeSlice t x y, ty, pos, aft, gd⟩) (by simp [keysO])
      simp only [ev, hz0, cond_false, ht, opd_le h hx, opd_le h hy, e1, e2, e3, cond_true, add_of hu]
      rfl
    · cases hq
  | slice t x lo hi mx =>
    simp only [evq] at hq
    split at hq
    · rename_i s ht hx
      split at hq
      · rename_i l q hl hh
        obtain ⟨e1, hq⟩ := cond_some hq
        obtain ⟨e2, hq⟩ := cond_some hq
        obtain ⟨e3, hq⟩ := cond_some hq
        refine ⟨_, _, _, hq, fun S' h hf _ {R'} k' => ?_⟩
        simp only [ev, ht, opd_le h hx, bnd_le h hl, bnd_le h hh, e1, e2, e3, cond_true]
        rfl
      · cases hq
    · rename_i t1 t0 xs ht hx
      split at hq
      · rename_i l q hl hh
        obtain ⟨e0, hq⟩ := cond_some hq
        obtain ⟨e1, hq⟩ := cond_some hq
        obtain ⟨e2, hq⟩ := cond_some hq
        obtain ⟨e3, hq⟩ := cond_some hq
        refine ⟨_, _, _, hq, fun S' h hf _ {R'} k' => ?_⟩
        simp only [ev, ht, opd_le h hx, bnd_le h hl, bnd_le h hh, e0, e1, e2, e3, cond_true]
        rfl
      · cases hq
    · cases hq
  | fieldAddr t x f =>
    simp only [evq] at hq
    split at hq
    · rename_i fs zs l ht hx
      split at hq
      · rename_i off n ag hf
        split at hq
        · rename_i l' hl
          exact ⟨_, _, _, hq, fun S' h _ _ {R'} k' => by simp only [ev, ht, opd_le h hx, hf, hl]; rfl⟩
        · cases hq
      · cases hq
    · cases hq
  | field t x f =>
    simp only [evq] at hq
    split at hq
    · rename_i fs zs ls ht hx
      split at hq
      · rename_i off n hf
        exact ⟨_, _, _, hq, fun S' h _ _ {R'} k' => by simp only [ev, ht, opd_le h hx, hf]; rfl⟩
      · rename_i off n hf
        split at hq
        · rename_i l hl
          exact ⟨_, _, _, hq, fun S' h _ _ {R'} k' => by simp only [ev, ht, opd_le h hx, hf, hl]; rfl⟩
        · cases hq
      · cases hq
    · cases hq
  | indexAddr t x y =>
    simp only [evq] at hq
    split at hq
    · rename_i t1 t0 xs ki n ht hx hy
      obtain ⟨e1, hq⟩ := cond_some hq
      obtain ⟨e2, hq⟩ := cond_some hq
      cases hz : xs[n.toNat]? with
      | none => rw [hz] at hq; cases hq
      | some e =>
        rw [hz] at hq
        refine ⟨_, _, _, hq, fun S' h _ _ {R'} k' => ?_⟩
        simp only [ev, ht, opd_le h hx, opd_le h hy, e1, e2, cond_true, hz]
        rfl
    · rename_i t1 id p ki n ht hx hy
      obtain ⟨e1, hq⟩ := cond_some hq
      obtain ⟨t0, xs, hk, hg⟩ := Sli_le hq
      obtain ⟨e2, hk⟩ := cond_some hk
      obtain ⟨e3, hk⟩ := cond_some hk
      refine ⟨_, _, _, hk, fun S' h _ _ {R'} k' => ?_⟩
      simp only [ev, ht, opd_le h hx, opd_le h hy, e1, cond_true]
      rw [hg h]
      simp only [e2, e3, cond_true]
      rfl
    · cases hq
  | index t x y =>
    simp only [evq] at hq
    split at hq
    · rename_i s ki n ht hx hy
      obtain ⟨e1, hq⟩ := cond_some hq
      obtain ⟨e2, hq⟩ := cond_some hq
      refine ⟨_, _, _, hq, fun S' h _ _ {R'} k' => ?_⟩
      simp only [ev, ht, opd_le h hx, opd_le h hy, e1, e2, cond_true]
      rfl
    · rename_i m sz ag zs ls ki n ht hx hy
      obtain ⟨v, hq, hg⟩ := idxB_le hq
      refine ⟨_, _, _, hq, fun S' h _ _ {R'} k' => ?_⟩
      simp only [ev, ht, opd_le h hx, opd_le h hy, hg]
      rfl
    · cases hq
  | extract x i =>
    simp only [evq] at hq
    split at hq
    · rename_i vs hv
      split at hq
      · rename_i l hl
        exact ⟨_, _, _, hq, fun S' h _ _ {R'} k' => by simp only [ev, opd_le h hv, hl]; rfl⟩
      · rename_i ls hl
        exact ⟨_, _, _, hq, fun S' h _ _ {R'} k' => by simp only [ev, opd_le h hv, hl]; rfl⟩
      · cases hq
    · cases hq
  | call c =>
    obtain ⟨cal, as, ts⟩ := c
    cases cal with
    | builtin bi => cases bi with
      | len =>
        obtain ⟨al⟩ := as
        obtain ⟨tl⟩ := ts
        simp only [evq] at hq
        split at hq
        · rename_i x t
          split at hq
          · rename_i s ht hx
            exact ⟨_, _, _, hq, fun S' h _ _ {R'} k' => by simp only [ev, ht, opd_le h hx]; rfl⟩
          · rename_i t1 l ht hx
            obtain ⟨t0, xs, hk, hg⟩ := Sli_le hq
            refine ⟨_, _, _, hk, fun S' h _ _ {R'} k' => ?_⟩
            simp only [ev, ht, opd_le h hx]
            rw [hg h]
            rfl
          · cases hq
        · cases hq
      | append =>
        obtain ⟨al⟩ := as
        obtain ⟨tl⟩ := ts
        simp only [evq] at hq
        split at hq
        · rename_i s x t t'
          split at hq
          · rename_i t1 l m ht hs hx
            obtain ⟨hb, hq⟩ := cond_some hq
            split at hq
            · rename_i t0
              split at hq
              · rename_i id
                split at hq
                · rename_i t2 ys sh ho
                  refine q_apnd hq fun S' h {R'} k' => ?_
                  simp only [ev, ht, opdT_le h hs, opdT_le h hx, hb, cond_true, h.objs _ _ ho]
                · cases hq
              · rename_i t2 ys
                refine q_apnd hq fun S' h {R'} k' => ?_
                simp only [ev, ht, opdT_le h hs, opdT_le h hx, hb, cond_true]
              · rename_i t2
                refine q_apnd hq fun S' h {R'} k' => ?_
                simp only [ev, ht, opdT_le h hs, opdT_le h hx, hb, cond_true]
              · cases hq
            · rename_i id0
              split at hq
              · rename_i t0 xs sh0 ho0
                split at hq
                · rename_i id
                  obtain ⟨hb2, hq⟩ := cond_some' hq
                  split at hq
                  · rename_i t2 ys sh ho
                    refine q_apnd hq fun S' h {R'} k' => ?_
                    simp only [ev, ht, opdT_le h hs, opdT_le h hx, hb, cond_true, h.objs _ _ ho0, h.objs _ _ ho, hb2, cond_false]
                  · cases hq
                · rename_i t2 ys
                  refine q_apnd hq fun S' h {R'} k' => ?_
                  simp only [ev, ht, opdT_le h hs, opdT_le h hx, hb, cond_true, h.objs _ _ ho0]
                · rename_i t2
                  refine q_apnd hq fun S' h {R'} k' => ?_
                  simp only [ev, ht, opdT_le h hs, opdT_le h hx, hb, cond_true, h.objs _ _ ho0]
                · cases hq
              · cases hq
            · cases hq
          · cases hq
        · cases hq
      | _ => exact absurd hq (by simp [evq])
    | value f => cases f with
      | func f =>
        simp only [evq] at hq
        split at hq
        · rename_i c' hc
          refine callCq_le hq rfl fun S' {R'} k' => ?_
          simp only [ev, hc]
        · cases hq
      | tmp t =>
        simp only [evq] at hq
        split at hq
        · rename_i l hl
          obtain ⟨f, pre, post, h1, h2⟩ := cloOf_le hq
          split at h1
          · rename_i c' hc
            refine callCq_le' h1 rfl fun S' h {R'} k' => ?_
            simp only [ev, h.env t _ hl]
            rw [h2 h]
            simp only [callF, hc]
          · cases h1
        · cases hq
      | _ => exact absurd hq (by simp [evq])
    | invoke x name =>
      simp only [evq] at hq
      obtain ⟨t, v, h1, h2⟩ := ifcOf_le hq
      split at h1
      · rename_i f hm
        split at h1
        · rename_i c' hc
          refine callCq_le' h1 rfl fun S' h {R'} k' => ?_
          simp only [ev]
          rw [h2 h]
          simp only [hm, callF, hc]
        · cases h1
      · cases h1
  | makeFunc fn first captured =>
    simp only [evq] at hq
    split at hq
    case h_2 => cases hq
    split at hq
    case h_2 => cases hq
    rename_i vs us hvs hus
    cases he : (vs ++ us).isEmpty with
    | true =>
      rw [he] at hq
      simp only [cond_true] at hq
      obtain ⟨hfz, hq⟩ := cond_some' hq
      refine ⟨_, _, _, hq, fun S' h hf _ {R'} k' => ?_⟩
      simp only [ev, argsI_le h hvs, argsI_le h hus, he, cond_true, hfz, cond_false]
      rfl
    | false =>
      rw [he] at hq
      refine ⟨_, _, _, hq, fun S' h hf _ {R'} k' => ?_⟩
      have hu := hf _ (List.mem_singleton.2 rfl)
      simp only [ev, argsI_le h hvs, argsI_le h hus, he, cond_false, add_of hu]
      rfl
  | makeInterface t x =>
    simp only [evq] at hq
    split at hq
    case h_3 => cases hq
    case h_1 =>
      rename_i ht hv
      refine ⟨_, _, _, hq, fun S' h hf _ {R'} k' => ?_⟩
      simp only [ev, ht, opdT_le h hv]
      rfl
    rename_i tk v hno ht hv
    obtain ⟨e, hq⟩ := cond_some hq
    refine ⟨_, _, _, hq, fun S' h hf _ {R'} k' => ?_⟩
    have hu := hf (newId X ⟨dst, .makeInterface t x, ty, pos, aft, gd⟩) (by simp [keysO])
    simp only [ev, ht, opdT_le h hv]
    rcases tk with z | ⟨_ | ⟨_, _⟩, _ | ⟨_, _⟩⟩ | ⟨_, _, _, _⟩ <;> rcases v with l | (_ | ⟨_, _⟩) | _ | _ | _ | _ | _
    all_goals first | exact (hno rfl rfl).elim | (simp only [e, cond_true, add_of hu]; rfl)
  | lookup t x i ok =>
    simp only [evq] at hq
    split at hq
    case h_2 => cases hq
    rename_i m l key hm hx hi
    obtain ⟨e, hq⟩ := cond_some' hq
    obtain ⟨v, h1, h2⟩ := lookV_le hq
    refine ⟨_, _, _, h1, fun S' h hf _ {R'} k' => ?_⟩
    simp only [ev, hm, opd_le h hx, opd_le h hi, e, cond_false]
    rw [h2 h]
    rfl
  | _ => exact absurd hq (by simp [evq])
end
end Go.Proofs.YtjodpeldfebhfaaGreat.Ab

/- The abstract machine, part 24: what a set of operations brings, in whatever order. -/
set_option linter.unusedVariables false
set_option linter.unusedSimpArgs false
set_option linter.unusedSectionVars false
namespace Go.Proofs.YtjodpeldfebhfaaGreat.Ab
open Go Go.RowKit

section
variable {Ty : Type} [DecidableEq Ty] {C : Ty → Type}
variable {X : Cx C} {S0 S S' : St C} {R : Type} {r : R} {tab : List (Nat × Nat)}

def Ent.val (e : Ent C) : Option (SV C) := match e.eff with
  | some (v, _, _) => some v
  | none => none
def Ent.news (e : Ent C) : List (Nat × Ob C) := match e.eff with
  | some (_, news, _) => news
  | none => []
theorem app_objs (S : St C) (e : Ent C) : (e.app S).objs = e.news ++ rmAll e.dels S.objs := by
  obtain ⟨ix, dst, ef, need⟩ := e
  cases ef with
  | none => rfl
  | some x => obtain ⟨v, news, dels⟩ := x; cases dst <;> rfl
theorem app_base (S : St C) (e : Ent C) : (e.app S).base = S.base := by
  obtain ⟨ix, dst, ef, need⟩ := e
  cases ef with
  | none => rfl
  | some x => obtain ⟨v, news, dels⟩ := x; cases dst <;> rfl
theorem app_env (S : St C) (e : Ent C) (t : Nat) : lk (e.app S).env t = if e.dst = some t ∧ e.val.isSome then e.val else lk S.env t := by
  obtain ⟨ix, dst, ef, need⟩ := e
  cases ef with
  | none => simp [Ent.app, Ent.val]
  | some x =>
    obtain ⟨v, news, dels⟩ := x
    cases dst with
    | none => simp [Ent.app, Ent.val, St.put]
    | some d =>
      simp only [Ent.app, Ent.val, St.put, lk_cons]
      by_cases e : t = d
      · subst e; simp
      · have : ¬ d = t := fun h => e h.symm
        simp [e, this]
theorem newK_news (e : Ent C) : e.newK = keysO e.news := by
  obtain ⟨ix, dst, ef, need⟩ := e
  cases ef with
  | none => rfl
  | some x => rfl
theorem lk_keys {l : List (Nat × Ob C)} {id : Nat} {ob : Ob C} (h : lk l id = some ob) : id ∈ keysO l := by
  induction l with
  | nil => simp [lk] at h
  | cons x l ih =>
    obtain ⟨m, o⟩ := x
    rw [lk_cons] at h
    simp only [keysO, List.map_cons, List.mem_cons]
    split at h
    · rename_i e; exact .inl e
    · exact .inr (ih h)
theorem keys_lk {l : List (Nat × Ob C)} {id : Nat} (h : id ∈ keysO l) : ∃ ob, lk l id = some ob := by
  induction l with
  | nil => simp [keysO] at h
  | cons x l ih =>
    obtain ⟨m, o⟩ := x
    simp only [keysO, List.map_cons, List.mem_cons] at h
    rw [lk_cons]
    by_cases e : id = m
    · exact ⟨o, by simp [e]⟩
    · rw [if_neg e]
      exact ih (h.resolve_left e)
theorem keys_ids {l : List (Nat × Ob C)} {id : Nat} (h : id ∈ keysO l) : id ∈ idsO l := by
  induction l with
  | nil => simp [keysO] at h
  | cons x l ih =>
    obtain ⟨m, o⟩ := x
    simp only [keysO, List.map_cons, List.mem_cons] at h
    cases o <;> simp only [idsO, List.mem_cons, List.mem_append] <;> rcases h with h | h
    · exact .inl h
    · exact .inr (.inr (ih h))
    · exact .inl h
    · exact .inr (ih h)
    · exact .inl h
    · exact .inr (ih h)
    · exact .inl h
    · exact .inr (ih h)

theorem SD_base : ∀ (es : List (Ent C)), (SD S0 es).base = S0.base
  | [] => rfl
  | e :: es => (app_base _ e).trans (SD_base es)

def Valid (tab : List (Nat × Nat)) (es : List (Ent C)) : Prop := es.Pairwise fun e m => m.ix ≠ e.ix ∧ has tab m.ix e.ix = false

/-- What the check of a layer says. -/
structure LayP (S0 : St C) (tab : List (Nat × Nat)) (ents : List (Ent C)) : Prop where
  self : ∀ e, e ∈ ents → selfB S0 e = true
  pair : ∀ e m, e ∈ ents → m ∈ ents → e.ix ≠ m.ix → pairB tab e m = true
theorem layP_of {ents : List (Ent C)} (h : layB S0 tab ents = true) : LayP S0 tab ents := by
  unfold layB at h
  rw [List.all_eq_true] at h
  refine ⟨fun e he => ?_, fun e m he hm hne => ?_⟩
  · have := h e he
    simp only [Bool.and_eq_true] at this
    exact this.1
  · have := h e he
    simp only [Bool.and_eq_true, List.all_eq_true, Bool.or_eq_true] at this
    rcases this.2 m hm with hb | hb
    · exact absurd (Nat.eq_of_beq_eq_true hb) hne
    · exact hb
theorem apartN_ok {a b : List Nat} (h : apartN a b = true) {n : Nat} (ha : n ∈ a) : n ∉ b := by
  unfold apartN at h
  rw [List.all_eq_true] at h
  have := h n ha
  simp only [Bool.not_eq_true'] at this
  exact beq_any this
section
variable {ents : List (Ent C)} (hL : LayP S0 tab ents)
include hL
theorem lay_dst {e m : Ent C} (he : e ∈ ents) (hm : m ∈ ents) (hne : e.ix ≠ m.ix) {t : Nat} (h1 : e.dst = some t) : m.dst ≠ some t := by
  intro h2
  have := hL.pair e m he hm hne
  simp [pairB, sameD, h1, h2, Nat.beq_refl] at this
theorem lay_new {e m : Ent C} (he : e ∈ ents) (hm : m ∈ ents) (hne : e.ix ≠ m.ix) {id : Nat} (h1 : id ∈ e.newK) : id ∉ m.newK := by
  have := hL.pair e m he hm hne
  simp only [pairB, Bool.and_eq_true] at this
  exact apartN_ok this.1.1.2 h1
theorem lay_names {e m : Ent C} (he : e ∈ ents) (hm : m ∈ ents) (hne : e.ix ≠ m.ix) (hno : has tab m.ix e.ix = false) {id : Nat} (h1 : id ∈ e.newK) : id ∉ m.names ∧ id ∉ m.dels := by
  have := hL.pair e m he hm hne
  simp only [pairB, Bool.and_eq_true, hno, Bool.false_or] at this
  exact ⟨apartN_ok this.1.2.1 h1, apartN_ok this.1.2.2 h1⟩
theorem lay_need {e m : Ent C} (he : e ∈ ents) (hm : m ∈ ents) (hne : e.ix ≠ m.ix) (h0 : has tab e.ix m.ix = false) (hno : has tab m.ix e.ix = false) {id : Nat} (h1 : id ∈ m.dels) : id ∉ e.need := by
  have := hL.pair e m he hm hne
  simp only [pairB, Bool.and_eq_true, hno, h0, Bool.false_or] at this
  exact apartN_ok this.2 h1
theorem lay_self {e : Ent C} (he : e ∈ ents) {id : Nat} (h1 : id ∈ e.newK) : id ∉ e.dels ∧ Unnamed S0 id := by
  have := hL.self e he
  simp only [selfB, Bool.and_eq_true] at this
  have h2 := apartN_ok this.1.2 h1
  exact ⟨apartN_ok this.1.1.1 h1, fun h => h2 (by simp [h]), fun h => h2 (by simp [h])⟩
theorem lay_nodup {e : Ent C} (he : e ∈ ents) : nodupN e.newK = true := by
  have := hL.self e he
  simp only [selfB, Bool.and_eq_true] at this
  exact this.1.1.2
theorem lay_free {e : Ent C} (he : e ∈ ents) {t : Nat} (h1 : e.dst = some t) : lk S0.env t = none := by
  have := hL.self e he
  simp only [selfB, Bool.and_eq_true, h1] at this
  simpa using this.2

theorem val_env : ∀ {es : List (Ent C)}, Valid tab es → (∀ e, e ∈ es → e ∈ ents) → ∀ t v, lk (SD S0 es).env t = some v ↔ (∃ m, m ∈ es ∧ m.dst = some t ∧ m.val = some v) ∨ ((∀ m, m ∈ es → m.dst = some t → m.val = none) ∧ lk S0.env t = some v)
  | [], _, _, t, v => by simp [SD]
  | e :: es, hv, hs, t, v => by
    have hv' := List.pairwise_cons.1 hv
    have ih := val_env (es := es) hv'.2 (fun m hm => hs m (by simp [hm])) t v
    rw [SD, app_env]
    have he := hs e (by simp)
    by_cases hc : e.dst = some t ∧ e.val.isSome
    · rw [if_pos hc]
      constructor
      · intro h; exact .inl ⟨e, by simp, hc.1, h⟩
      · rintro (⟨m, hm, h1, h2⟩ | ⟨h1, h2⟩)
        · rcases List.mem_cons.1 hm with e' | hm
          · subst e'; exact h2
          · exact absurd h1 (lay_dst hL he (hs m (by simp [hm])) (fun h => (hv'.1 m hm).1 h.symm) hc.1)
        · have := h1 e (by simp) hc.1
          rw [this] at hc
          simp at hc
    · rw [if_neg hc, ih]
      constructor
      · rintro (⟨m, hm, h⟩ | ⟨h1, h2⟩)
        · exact .inl ⟨m, by simp [hm], h⟩
        · refine .inr ⟨fun m hm h => ?_, h2⟩
          rcases List.mem_cons.1 hm with e' | hm
          · subst e'
            cases hval : m.val with
            | none => rfl
            | some x => exact absurd ⟨h, by simp [hval]⟩ hc
          · exact h1 m hm h
      · rintro (⟨m, hm, h1, h2⟩ | ⟨h1, h2⟩)
        · rcases List.mem_cons.1 hm with e' | hm
          · subst e'; exact absurd ⟨h1, by simp [h2]⟩ hc
          · exact .inl ⟨m, hm, h1, h2⟩
        · exact .inr ⟨fun m hm => h1 m (by simp [hm]), h2⟩

def ValO (S0 : St C) (es : List (Ent C)) (id : Nat) (ob : Ob C) : Prop :=
  (∀ m, m ∈ es → id ∉ m.dels) ∧ ((∃ m, m ∈ es ∧ lk m.news id = some ob) ∨ ((∀ m, m ∈ es → id ∉ m.newK) ∧ lk S0.objs id = some ob))
theorem val_objs : ∀ {es : List (Ent C)}, Valid tab es → (∀ e, e ∈ es → e ∈ ents) → ∀ id ob, lk (SD S0 es).objs id = some ob ↔ ValO S0 es id ob
  | [], _, _, id, ob => by simp [SD, ValO]
  | e :: es, hv, hs, id, ob => by
    have hv' := List.pairwise_cons.1 hv
    have ih := val_objs (es := es) hv'.2 (fun m hm => hs m (by simp [hm])) id ob
    have he := hs e (by simp)
    rw [SD, app_objs, lk_append]
    cases hn : lk e.news id with
    | some ob' =>
      simp only [Option.some.injEq]
      have hk : id ∈ e.newK := by rw [newK_news]; exact lk_keys hn
      constructor
      · intro h
        subst h
        refine ⟨fun m hm => ?_, .inl ⟨e, by simp, hn⟩⟩
        rcases List.mem_cons.1 hm with e' | hm
        · subst e'; exact (lay_self hL he hk).1
        · exact (lay_names hL he (hs m (by simp [hm])) (fun h => (hv'.1 m hm).1 h.symm) (hv'.1 m hm).2 hk).2
      · rintro ⟨h1, ⟨m, hm, h2⟩ | ⟨h2, h3⟩⟩
        · rcases List.mem_cons.1 hm with e' | hm
          · subst e'; rw [hn] at h2; exact Option.some.inj h2
          · refine absurd ?_ (lay_new hL he (hs m (by simp [hm])) (fun h => (hv'.1 m hm).1 h.symm) hk)
            rw [newK_news]; exact lk_keys h2
        · exact absurd hk (h2 e (by simp))
    | none =>
      simp only [lk_rmAll]
      have hk : id ∉ e.newK := by
        rw [newK_news]
        intro h
        obtain ⟨ob', h'⟩ := keys_lk h
        rw [hn] at h'
        cases h'
      by_cases hd : id ∈ e.dels
      · rw [if_pos hd]
        constructor
        · intro h; cases h
        · rintro ⟨h1, _⟩; exact absurd hd (h1 e (by simp))
      · rw [if_neg hd, ih]
        constructor
        · rintro ⟨h1, h2⟩
          refine ⟨fun m hm => ?_, ?_⟩
          · rcases List.mem_cons.1 hm with e' | hm
            · subst e'; exact hd
            · exact h1 m hm
          · rcases h2 with ⟨m, hm, h⟩ | ⟨h2, h3⟩
            · exact .inl ⟨m, by simp [hm], h⟩
            · refine .inr ⟨fun m hm => ?_, h3⟩
              rcases List.mem_cons.1 hm with e' | hm
              · subst e'; exact hk
              · exact h2 m hm
        · rintro ⟨h1, h2⟩
          refine ⟨fun m hm => h1 m (by simp [hm]), ?_⟩
          rcases h2 with ⟨m, hm, h⟩ | ⟨h2, h3⟩
          · rcases List.mem_cons.1 hm with e' | hm
            · subst e'; rw [hn] at h; cases h
            · exact .inl ⟨m, hm, h⟩
          · exact .inr ⟨fun m hm => h2 m (by simp [hm]), h3⟩
end

theorem idsE_app {S : St C} {e : Ent C} {id : Nat} (h : id ∈ idsE0 (e.app S).env) : id ∈ idsE0 S.env ∨ id ∈ e.names := by
  obtain ⟨ix, dst, ef, need⟩ := e
  cases ef with
  | none => exact .inl h
  | some x =>
    obtain ⟨v, news, dels⟩ := x
    cases dst with
    | none => exact .inl h
    | some d =>
      simp only [Ent.app, St.put, idsE0, List.mem_append] at h
      rcases h with h | h
      · exact .inr (by simp [Ent.names, h])
      · exact .inl h
theorem idsO_append {l m : Objs C} {id : Nat} (h : id ∈ idsO (l ++ m)) : id ∈ idsO l ∨ id ∈ idsO m := by
  induction l with
  | nil => exact .inr h
  | cons x l ih =>
    obtain ⟨n, o⟩ := x
    cases o <;> simp only [List.cons_append, idsO, List.mem_cons, List.mem_append] at h ⊢
    · rcases h with h | h | h
      · exact .inl (.inl h)
      · exact .inl (.inr (.inl h))
      · rcases ih h with h | h
        · exact .inl (.inr (.inr h))
        · exact .inr h
    · rcases h with h | h
      · exact .inl (.inl h)
      · rcases ih h with h | h
        · exact .inl (.inr h)
        · exact .inr h
    · rcases h with h | h
      · exact .inl (.inl h)
      · rcases ih h with h | h
        · exact .inl (.inr h)
        · exact .inr h
    · rcases h with h | h
      · exact .inl (.inl h)
      · rcases ih h with h | h
        · exact .inl (.inr h)
        · exact .inr h
theorem idsO_app {S : St C} {e : Ent C} {id : Nat} (h : id ∈ idsO (e.app S).objs) : id ∈ idsO S.objs ∨ id ∈ e.names := by
  rw [app_objs] at h
  rcases idsO_append h with h | h
  · refine .inr ?_
    obtain ⟨ix, dst, ef, need⟩ := e
    cases ef with
    | none => simp [Ent.news, idsO] at h
    | some x => simp only [Ent.news] at h; simp [Ent.names, h]
  · exact .inl (idsO_rmAll (l := S.objs) h)
theorem SD_named {id : Nat} : ∀ {es : List (Ent C)}, (id ∈ idsE0 (SD S0 es).env ∨ id ∈ idsO (SD S0 es).objs) → id ∈ idsE0 S0.env ∨ id ∈ idsO S0.objs ∨ ∃ m, m ∈ es ∧ id ∈ m.names
  | [], h => by
    rcases h with h | h
    · exact .inl h
    · exact .inr (.inl h)
  | e :: es, h => by
    have : (id ∈ idsE0 (SD S0 es).env ∨ id ∈ idsO (SD S0 es).objs) ∨ id ∈ e.names := by
      rcases h with h | h
      · rcases idsE_app h with h | h
        · exact .inl (.inl h)
        · exact .inr h
      · rcases idsO_app h with h | h
        · exact .inl (.inr h)
        · exact .inr h
    rcases this with h | h
    · rcases SD_named h with h | h | ⟨m, hm, h⟩
      · exact .inl h
      · exact .inr (.inl h)
      · exact .inr (.inr ⟨m, by simp [hm], h⟩)
    · exact .inr (.inr ⟨e, by simp, h⟩)

theorem lk_tidyA {α : Type} (E : List (Nat × α)) : ∀ (keep : List Nat) t v, lk (tidyA E keep) t = some v → lk E t = some v ∧ t ∈ keep
  | [], t, v, h => by simp [tidyA, lk] at h
  | d :: r, t, v, h => by
    simp only [tidyA] at h
    cases hd : lk E d with
    | none =>
      rw [hd] at h
      obtain ⟨h1, h2⟩ := lk_tidyA E r t v h
      exact ⟨h1, by simp [h2]⟩
    | some u =>
      rw [hd] at h
      simp only [lk_cons] at h
      by_cases e : t = d
      · subst e; simp at h; subst h; exact ⟨hd, by simp⟩
      · rw [if_neg e] at h
        obtain ⟨h1, h2⟩ := lk_tidyA E r t v h
        exact ⟨h1, by simp [h2]⟩

/-- Two orders of the same operations. -/
theorem sim_perm {P : Program} {K : Cd C} {w0 w : World} {nt : Nat} {a : Act} {ents es fs : List (Ent C)} (hL : LayP S0 tab ents) (he : Valid tab es) (hf : Valid tab fs) (hes : ∀ e, e ∈ es → e ∈ ents) (hsame : ∀ e, e ∈ fs ↔ e ∈ es)
    (h : SimE K w0 nt (SD S0 es) a w) : SimE K w0 nt (SD S0 fs) a w := by
  obtain ⟨β, fp, h⟩ := h
  have hfs : ∀ e, e ∈ fs → e ∈ ents := fun e h => hes e ((hsame e).1 h)
  have h2 := (h.sub (O := (SD S0 fs).objs) (fun id ob hi => (val_objs hL he hes id ob).2 (by
    have := (val_objs hL hf hfs id ob).1 hi
    simpa only [ValO, hsame] using this))).less (SD S0 fs).env (fun t v ht => (val_env hL he hes t v).2 (by
      have := (val_env hL hf hfs t v).1 ht
      simpa only [hsame] using this))
  have e : ({ ({ (SD S0 es) with objs := (SD S0 fs).objs } : St C) with env := (SD S0 fs).env } : St C) = SD S0 fs := by
    have : (SD S0 es).base = (SD S0 fs).base := by rw [SD_base, SD_base]
    rw [St.mk.injEq]
    exact ⟨rfl, rfl, this⟩
  rw [e] at h2
  exact ⟨β, fp, h2⟩
end
end Go.Proofs.YtjodpeldfebhfaaGreat.Ab

/- The abstract machine, part 25: regions whose order is drawn. -/
set_option linter.unusedVariables false
set_option linter.unusedSimpArgs false
set_option linter.unusedSectionVars false
namespace Go.Proofs.YtjodpeldfebhfaaGreat.Ab
open Go Go.RowKit

section
variable {Ty : Type} [DecidableEq Ty] {C : Ty → Type}
variable {P : Program} {X : Cx C} {w0 : World} {nt : Nat} {S0 S S' : St C} {R : Type} {k : St C → Option R} {r : R} {tab : List (Nat × Nat)} {all : Array Oper} {Q : Exit → Act → World → Prop}

/-! ### Who comes before whom -/
theorem anc1_has {j : Nat} : ∀ {l : List Edge}, Nat.testBit (anc1 tab l) j = true → ∃ e, e ∈ l ∧ Region.binds .any e = true ∧ (e.on = j ∨ has tab e.on j = true)
  | [], h => by simp [anc1] at h
  | e :: l, h => by
    simp only [anc1] at h
    cases hb : Region.binds .any e with
    | false =>
      rw [hb] at h
      obtain ⟨e', h1, h2⟩ := anc1_has (l := l) h
      exact ⟨e', by simp [h1], h2⟩
    | true =>
      rw [hb] at h
      have h : Nat.testBit ((2 ^ e.on ||| (lk tab e.on).getD 0) ||| anc1 tab l) j = true := h
      rw [Nat.testBit_or, Nat.testBit_or, Nat.testBit_two_pow, Bool.or_eq_true, Bool.or_eq_true, decide_eq_true_eq] at h
      rcases h with (h | h) | h
      · exact ⟨e, by simp, hb, .inl h⟩
      · exact ⟨e, by simp, hb, .inr h⟩
      · obtain ⟨e', h1, h2⟩ := anc1_has (l := l) h
        exact ⟨e', by simp [h1], h2⟩

theorem mem_below : ∀ {n j : Nat}, j < n → j ∈ Ab.below n
  | n + 1, j, h => by
    simp only [Ab.below, List.mem_cons]
    rcases Nat.lt_succ_iff_lt_or_eq.1 h with h | h
    · exact .inr (mem_below h)
    · exact .inl h

structure PreP (all : Array Oper) (tab : List (Nat × Nat)) : Prop where
  edge : ∀ (i : Nat) (o : Oper), all[i]? = some o → ∀ e, e ∈ o.after.toList → Region.binds .any e = true → e.on < i
  anc : ∀ (i : Nat) (o : Oper), all[i]? = some o → ∀ j, has tab i j = true → ∃ e, e ∈ o.after.toList ∧ Region.binds .any e = true ∧ (e.on = j ∨ has tab e.on j = true)
  eff : ∀ (i : Nat) (o : Oper), all[i]? = some o → ∀ j, j < i → isEat all j = true → has tab i j = true
  grd : ∀ (i : Nat) (o : Oper), all[i]? = some o → isE o = true → o.guard = none
theorem preP_list : ∀ (l : List Oper) (n : Nat), preOps all tab n l = true → ∀ (i : Nat) (o : Oper), l[i]? = some o → preOp all tab (n + i) o = true
  | [], n, h, i, o, hi => by simp at hi
  | x :: l, n, h, i, o, hi => by
    simp only [preOps, Bool.and_eq_true] at h
    cases i with
    | zero => simp at hi; subst hi; exact h.1
    | succ i =>
      have := preP_list l (n + 1) h.2 i o (by simpa using hi)
      rwa [Nat.add_assoc, Nat.add_comm 1 i] at this
theorem preP_of (h : preOps all tab 0 all.toList = true) : PreP all tab := by
  have key : ∀ (i : Nat) (o : Oper), all[i]? = some o → preOp all tab i o = true := fun i o hi => by
    have := preP_list all.toList 0 h i o (by simpa using hi)
    simpa using this
  refine ⟨fun i o hi e he hb => ?_, fun i o hi j hj => ?_, fun i o hi j hj hE => ?_, fun i o hi hE => ?_⟩
  · have := key i o hi
    simp only [preOp, Bool.and_eq_true, List.all_eq_true] at this
    have := this.1.1.1 e he
    rw [hb] at this
    simp only [Bool.not_true, Bool.false_or] at this
    have h2 : Nat.ble (e.on + 1) i = true := this
    exact Nat.le_of_ble_eq_true h2
  · have := key i o hi
    simp only [preOp, Bool.and_eq_true] at this
    have e := Nat.eq_of_beq_eq_true this.1.1.2
    unfold has at hj
    rw [e] at hj
    exact anc1_has hj
  · have := key i o hi
    simp only [preOp, Bool.and_eq_true, List.all_eq_true] at this
    have := this.1.2 j (mem_below hj)
    rw [hE] at this
    simpa using this
  · have := key i o hi
    simp only [preOp, Bool.and_eq_true] at this
    have := this.2
    rw [hE] at this
    simpa using this

theorem has_lt (hp : PreP all tab) : ∀ i, i < all.size → ∀ j, has tab i j = true → j < i := by
  intro i
  induction i using Nat.strongRecOn with
  | _ i ih =>
    intro hi j hj
    obtain ⟨e, he, hb, h⟩ := hp.anc i all[i] (by simp [hi]) j hj
    have hlt := hp.edge i all[i] (by simp [hi]) e he hb
    rcases h with h | h
    · omega
    · have := ih e.on hlt (by omega) j h
      omega

def Listed (listed : Array Bool) (i : Nat) : Prop := listed.getD i false = true
def Closed (all : Array Oper) (listed : Array Bool) : Prop := ∀ (i : Nat) (o : Oper), all[i]? = some o → Listed listed i → ∀ e, e ∈ o.after.toList → Region.binds .any e = true → Listed listed e.on
theorem has_listed (hp : PreP all tab) {listed : Array Bool} (hc : Closed all listed) : ∀ i, (o : Oper) → all[i]? = some o → (∀ e, e ∈ o.after.toList → Region.binds .any e = true → Listed listed e.on) → ∀ j, has tab i j = true → Listed listed j := by
  intro i
  induction i using Nat.strongRecOn with
  | _ i ih =>
    intro o hi hl j hj
    obtain ⟨e, he, hb, h⟩ := hp.anc i o hi j hj
    have hlt := hp.edge i o hi e he hb
    rcases h with h | h
    · subst h; exact hl e he hb
    · have hi' : i < all.size := by
        rcases Nat.lt_or_ge i all.size with h | h
        · exact h
        · simp [Array.getElem?_eq_none h] at hi
      have he' : all[e.on]? = some all[e.on] := by simp [show e.on < all.size by omega]
      exact ih e.on hlt _ he' (fun e2 h2 hb2 => hc e.on _ he' (hl e he hb) e2 h2 hb2) j h

/-! ### A layer -/
def wantB (o : Oper) (b : Bool) : Prop := match o.guard with
  | none => True
  | some (_, want) => b = want
/-- What is known of an operation of a layer. -/
structure EntOk (X : Cx C) (all : Array Oper) (tab : List (Nat × Nat)) (S0 : St C) (ents : List (Ent C)) (e : Ent C) : Prop where
  ex : ∃ o, all[e.ix]? = some o ∧ e.dst = o.dst ∧
    (match o.guard with
      | none => e.ran = true
      | some (j, want) => has tab e.ix j = true ∧ ∃ (m : Ent C), m ∈ ents ∧ m.ix = j ∧ m.dst.isSome = true ∧ ((∃ b, m.val = some (.one (.bool b)) ∧ (e.ran = true ↔ b = want)) ∨ (m.val = some .und ∧ e.ran = false))) ∧
    (e.ran = false → e.eff = some (.und, [], [])) ∧ e.eff.isSome = true ∧
    ∀ v news dels, e.ran = true → e.eff = some (v, news, dels) → ∃ (fs : List (Ent C)) (mn : St C), Valid tab fs ∧ (∀ m, m ∈ fs → m ∈ ents ∧ has tab e.ix m.ix = true) ∧ (∀ m, m ∈ ents → has tab e.ix m.ix = true → m ∈ fs) ∧
      (∀ t v, lk mn.env t = some v → lk (SD S0 fs).env t = some v) ∧ (∀ id ob, lk mn.objs id = some ob → lk (SD S0 fs).objs id = some ob ∧ id ∈ e.need) ∧ mn.base = S0.base ∧
      ∀ S', Le mn S' → (∀ id, id ∈ keysO news → Unnamed S' id) → nodupN (keysO news) = true → ∀ {R' : Type} (k' : St C → Option R'), ev X o S' k' = k' (eff S' o.dst v news dels)
theorem EntOk.mono {ents ents' : List (Ent C)} {e : Ent C} (h : EntOk X all tab S0 ents e) (hm : ∀ m, m ∈ ents → m ∈ ents') (hx : ∀ m, m ∈ ents' → m ∈ ents ∨ has tab e.ix m.ix = false) : EntOk X all tab S0 ents' e := by
  obtain ⟨o, h1, h2, h3, h5, h6, h4⟩ := h.ex
  refine ⟨o, h1, h2, ?_, h5, h6, fun v news dels hr he => ?_⟩
  · split at h3
    · exact h3
    · obtain ⟨a, m, q1, q2⟩ := h3
      exact ⟨a, m, hm m q1, q2⟩
  · obtain ⟨fs, mn, q1, q2, q3, q4⟩ := h4 v news dels hr he
    refine ⟨fs, mn, q1, fun m h => ⟨hm m (q2 m h).1, (q2 m h).2⟩, fun m h h' => ?_, q4⟩
    rcases hx m h with hx | hx
    · exact q3 m hx h'
    · rw [hx] at h'; cases h'

structure Lay (X : Cx C) (all : Array Oper) (tab : List (Nat × Nat)) (S0 : St C) (ents : List (Ent C)) : Prop where
  desc : ents.Pairwise fun e m => m.ix < e.ix
  rng : ∀ e, e ∈ ents → e.ix < all.size
  ok : ∀ e, e ∈ ents → EntOk X all tab S0 ents e
theorem Lay.valid (hp : PreP all tab) {ents : List (Ent C)} (h : Lay X all tab S0 ents) : Valid tab ents := by
  refine h.desc.imp_of_mem ?_
  intro e m he hm hlt
  refine ⟨by omega, ?_⟩
  cases hb : has tab m.ix e.ix with
  | false => rfl
  | true =>
    have := has_lt hp m.ix (h.rng m hm) e.ix hb
    omega
theorem Lay.push (hp : PreP all tab) {ents : List (Ent C)} (h : Lay X all tab S0 ents) {e : Ent C} (hqs : e.ix < all.size) (hq : ∀ m, m ∈ ents → m.ix < e.ix) (he : EntOk X all tab S0 (e :: ents) e) : Lay X all tab S0 (e :: ents) := by
  refine ⟨List.pairwise_cons.2 ⟨fun m hm => hq m hm, h.desc⟩, fun m hm => ?_, fun m hm => ?_⟩
  · rcases List.mem_cons.1 hm with e' | hm
    · subst e'; exact hqs
    · exact h.rng m hm
  · rcases List.mem_cons.1 hm with e' | hm1
    · subst e'; exact he
    · refine (h.ok m hm1).mono (fun x hx => by simp [hx]) fun x hx => ?_
      rcases List.mem_cons.1 hx with e' | hx
      · subst e'
        refine .inr ?_
        cases hb : has tab m.ix x.ix with
        | false => rfl
        | true =>
          have := has_lt hp m.ix (h.rng m hm1) x.ix hb
          have := hq m hm1
          omega
      · exact .inl hx

theorem setGrd_same : ∀ {ents : List (Ent C)} {j : Nat} {b : Bool}, grdOf ents j = some (.one (.bool b)) → setGrd ents j b = ents ∧ ∃ m, m ∈ ents ∧ m.ix = j ∧ m.dst.isSome = true ∧ m.val = some (.one (.bool b))
  | [], j, b, h => by simp [grdOf] at h
  | e :: es, j, b, h => by
    obtain ⟨ix, dst, ef, need, ran⟩ := e
    simp only [grdOf] at h
    cases hb : Nat.beq ix j with
    | true =>
      rw [hb] at h
      cases ef with
      | none => simp at h
      | some x =>
        obtain ⟨v, news, dels⟩ := x
        cases dst with
        | none => simp at h
        | some d =>
          simp at h
          subst h
          exact ⟨by simp [setGrd, hb], ⟨ix, some d, some (.one (.bool b), news, dels), need, ran⟩, by simp, Nat.eq_of_beq_eq_true hb, rfl, rfl⟩
    | false =>
      rw [hb] at h
      obtain ⟨h1, m, h2, h3⟩ := setGrd_same (ents := es) h
      exact ⟨by simp [setGrd, hb, h1], m, by simp [h2], h3⟩

theorem grd_und : ∀ {ents : List (Ent C)} {j : Nat}, grdOf ents j = some .und → ∃ m, m ∈ ents ∧ m.ix = j ∧ m.dst.isSome = true ∧ m.val = some .und
  | [], j, h => by simp [grdOf] at h
  | e :: es, j, h => by
    obtain ⟨ix, dst, ef, need, ran⟩ := e
    simp only [grdOf] at h
    cases hb : Nat.beq ix j with
    | true =>
      rw [hb] at h
      cases ef with
      | none => simp at h
      | some x =>
        obtain ⟨v, news, dels⟩ := x
        cases dst with
        | none => simp at h
        | some d =>
          simp at h
          subst h
          exact ⟨⟨ix, some d, some (.und, news, dels), need, ran⟩, by simp, Nat.eq_of_beq_eq_true hb, rfl, rfl⟩
    | false =>
      rw [hb] at h
      obtain ⟨m, h2, h3⟩ := grd_und (ents := es) h
      exact ⟨m, by simp [h2], h3⟩

theorem min_ok (hp : PreP all tab) {n : Nat} {ents : List (Ent C)} (hl : Lay X all tab S0 ents) (o : Oper) {v : SV C} {news : List (Nat × Ob C)} {dels : List Nat}
    (ho : all[n]? = some o) (hg : match o.guard with
      | none => True
      | some (j, want) => has tab n j = true ∧ ∃ (m : Ent C), m ∈ ents ∧ m.ix = j ∧ m.dst.isSome = true ∧ m.val = some (.one (.bool want)))
    (h : ∀ S', Le (minS S0 ents tab n o) S' → (∀ id, id ∈ keysO news → Unnamed S' id) → nodupN (keysO news) = true → ∀ {R' : Type} (k' : St C → Option R'), ev X o S' k' = k' (eff S' o.dst v news dels)) :
    EntOk X all tab S0 (⟨n, o.dst, some (v, news, dels), minI S0 ents tab n o, true⟩ :: ents) ⟨n, o.dst, some (v, news, dels), minI S0 ents tab n o, true⟩ := by
  refine ⟨o, ho, rfl, ?_, (fun h => by cases h), rfl, fun v' news' dels' _ he => ?_⟩
  · split at hg
    · rename_i e; simp [e]
    · rename_i j want e
      obtain ⟨h1, m, h2, h3, h5, h4⟩ := hg
      simp only [e]
      exact ⟨h1, m, by simp [h2], h3, h5, .inl ⟨want, h4, by simp⟩⟩
  · cases he
    refine ⟨ents.filter fun e => has tab n e.ix, minS S0 ents tab n o, (hl.valid hp).sublist (List.filter_sublist), fun m hm => ?_, fun m hm ha => ?_, fun t v ht => (lk_tidyA _ _ t v ht).1, fun id ob hi => lk_tidyA _ _ id ob hi, rfl, h⟩
    · obtain ⟨h1, h2⟩ := List.mem_filter.1 hm
      exact ⟨by simp [h1], h2⟩
    · rcases List.mem_cons.1 hm with e' | hm
      · subst e'
        have hlt : n < all.size := by
          rcases Nat.lt_or_ge n all.size with h | h
          · exact h
          · simp [Array.getElem?_eq_none h] at ho
        exact absurd (has_lt hp n hlt n ha) (Nat.lt_irrefl _)
      · exact List.mem_filter.2 ⟨hm, ha⟩

/-- What the check finds behind the operations of a layer. -/
def Tail (X : Cx C) (all : Array Oper) (tab : List (Nat × Nat)) (k : St C → Option R) (r : R) (S0 : St C) (rest : List (Nat × Oper)) (ents : List (Ent C)) : Prop := match rest with
  | [] => k (SD S0 ents) = some r
  | (q, o) :: rest => isE o = true ∧ ∃ f, altsL ((ups tab (lagIx tab q ents)).map fun L => ev X o (SD S0 (ents.filter fun e => !L.any (Nat.beq e.ix))) (fun S' => dlay X all tab k f (opsAt all L ++ rest) S' [])) = some r

/-- Operations in the text's order, all behind these. -/
def Asc (all : Array Oper) (l : List (Nat × Oper)) : Prop := (l.Pairwise fun x y => x.1 < y.1) ∧ ∀ x, x ∈ l → all[x.1]? = some x.2

def OutP (X : Cx C) (all : Array Oper) (tab : List (Nat × Nat)) (k : St C → Option R) (r : R) (S0 : St C) (l : List (Nat × Oper)) (ents : List (Ent C)) : Prop :=
    ∃ (rest : List (Nat × Oper)) (ents' : List (Ent C)), Lay X all tab S0 ents' ∧ LayP S0 tab ents' ∧ Tail X all tab k r S0 rest ents' ∧ Asc all rest ∧ (∀ x, x ∈ rest → x ∈ l) ∧ (∀ e, e ∈ ents' → e ∈ ents ∨ ∃ x, x ∈ l ∧ x.1 = e.ix) ∧
      (∀ x, x ∈ l → x ∈ rest ∨ ∃ e, e ∈ ents' ∧ e.ix = x.1) ∧ (∀ e, e ∈ ents → e ∈ ents') ∧ ∀ e, e ∈ ents' → ∀ x, x ∈ rest → e.ix < x.1

theorem dlay_out (hp : PreP all tab) : ∀ (f : Nat) (l : List (Nat × Oper)) (S0 : St C) (ents : List (Ent C)), Asc all l → (∀ e, e ∈ ents → ∀ x, x ∈ l → e.ix < x.1) → Lay X all tab S0 ents → dlay X all tab k f l S0 ents = some r →
    OutP X all tab k r S0 l ents
  | 0, l, S0, ents, _, _, _, h => by simp [dlay] at h
  | f + 1, [], S0, ents, ha, hb, hlay, h => by
    simp only [dlay] at h
    obtain ⟨hc, h⟩ := cond_some h
    exact ⟨[], ents, hlay, layP_of hc, h, ha, fun x hx => hx, fun e he => .inl he, fun x hx => (by cases hx), fun e he => he, fun e he x hx => (by cases hx)⟩
  | f + 1, (n, o) :: l, S0, ents, ha, hb, hlay, h => by
    have ho : all[n]? = some o := ha.2 (n, o) (by simp)
    have hn : n < all.size := by
      rcases Nat.lt_or_ge n all.size with h | h
      · exact h
      · simp [Array.getElem?_eq_none h] at ho
    obtain ⟨ha1, ha2⟩ := List.pairwise_cons.1 ha.1
    have hasc : Asc all l := ⟨ha2, fun x hx => ha.2 x (by simp [hx])⟩
    simp only [dlay] at h
    cases hE : isE o with
    | true =>
      rw [hE] at h
      obtain ⟨hc, h⟩ := cond_some h
      exact ⟨(n, o) :: l, ents, hlay, layP_of hc, ⟨hE, f, h⟩, ha, fun x hx => hx, fun e he => .inl he, fun x hx => .inl hx, fun e he => he, hb⟩
    | false =>
      rw [hE] at h
      simp only at h
      have fin : ∀ {e : Ent C}, e.ix = n → EntOk X all tab S0 (e :: ents) e → dlay X all tab k f l S0 (e :: ents) = some r →
          OutP X all tab k r S0 ((n, o) :: l) ents := by
        intro e he hok h
        obtain ⟨rest, ents', h1, h2, h3, h4, h5, h6, h7, h8, h9⟩ := dlay_out hp f l S0 (e :: ents) hasc (fun m hm x hx => by
          rcases List.mem_cons.1 hm with e' | hm
          · subst e'; rw [he]; exact ha1 x hx
          · exact hb m hm x (by simp [hx])) (hlay.push hp (by omega) (fun m hm => by rw [he]; exact hb m hm (n, o) (by simp)) hok) h
        refine ⟨rest, ents', h1, h2, h3, h4, fun x hx => by simp [h5 x hx], fun m hm => ?_, fun x hx => ?_, fun m hm => h8 m (by simp [hm]), h9⟩
        · rcases h6 m hm with h | ⟨x, hx, hx2⟩
          · rcases List.mem_cons.1 h with e' | h
            · subst e'; exact .inr ⟨(n, o), by simp, he.symm⟩
            · exact .inl h
          · exact .inr ⟨x, by simp [hx], hx2⟩
        · rcases List.mem_cons.1 hx with e' | hx
          · subst e'; exact .inr ⟨e, h8 e (by simp), he⟩
          · exact h7 x hx
      cases hg : o.guard with
      | none =>
        rw [hg] at h
        simp only at h
        obtain ⟨v, news, dels, hk, hto⟩ := evq_le h
        exact fin rfl (min_ok hp hlay o ho (by simp [hg]) hto) hk
      | some g =>
        obtain ⟨j, want⟩ := g
        rw [hg] at h
        simp only at h
        obtain ⟨hj, h⟩ := cond_some h
        split at h
        · rename_i b hbv
          obtain ⟨e1, m, hm1, hm2, hm4, hm3⟩ := setGrd_same hbv
          have skip : b ≠ want → dlay X all tab k f l S0 (⟨n, o.dst, some (.und, [], []), [], false⟩ :: ents) = some r → OutP X all tab k r S0 ((n, o) :: l) ents := by
            intro hne h
            refine fin rfl ⟨o, ho, rfl, ?_, (fun _ => rfl), rfl, fun v news dels hr he => by cases hr⟩ h
            simp only [hg]
            exact ⟨hj, m, by simp [hm1], hm2, hm4, .inl ⟨b, hm3, by simp [hne]⟩⟩
          have step : ∀ {kk : SV C → List (Nat × Ob C) → List Nat → Option R}, b = want → evq X o (minS S0 ents tab n o) kk = some r →
              (∀ v news dels, kk v news dels = dlay X all tab k f l S0 (⟨n, o.dst, some (v, news, dels), minI S0 ents tab n o, true⟩ :: ents)) → OutP X all tab k r S0 ((n, o) :: l) ents := by
            intro kk he h hkk
            obtain ⟨v, news, dels, hk, hto⟩ := evq_le h
            rw [hkk] at hk
            refine fin rfl (min_ok hp hlay o ho ?_ hto) hk
            simp only [hg]
            exact ⟨hj, m, hm1, hm2, hm4, by rw [← he]; exact hm3⟩
          cases b with
          | true =>
            simp only [cond_true, e1] at h
            cases want with
            | true => exact step rfl h (fun _ _ _ => rfl)
            | false => exact skip (by simp) h
          | false =>
            simp only [cond_false, e1] at h
            cases want with
            | true => exact skip (by simp) h
            | false => exact step rfl h (fun _ _ _ => rfl)
        · rename_i hbv
          obtain ⟨m, hm1, hm2, hm4, hm3⟩ := grd_und hbv
          refine fin rfl ⟨o, ho, rfl, ?_, (fun _ => rfl), rfl, fun v news dels hr he => by cases hr⟩ h
          simp only [hg]
          exact ⟨hj, m, by simp [hm1], hm2, hm4, .inr ⟨hm3, trivial⟩⟩
        · cases h

theorem alt_some {a b : Option R} {x : R} (h : alt a b = some x) : a = some x ∧ b = some x := by
  unfold alt at h
  cases a with
  | none => cases h
  | some u =>
    cases b with
    | none => cases h
    | some v =>
      simp only [Option.bind_some] at h
      split at h
      · rename_i e; cases h; exact ⟨rfl, by rw [e]⟩
      · cases h
theorem altsL_mem : ∀ {l : List (Option R)} {x : R} {y : Option R}, altsL l = some x → y ∈ l → y = some x
  | [], x, y, _, hm => by cases hm
  | [a], x, y, h, hm => by simp only [List.mem_singleton] at hm; subst hm; exact h
  | a :: b :: l, x, y, h, hm => by
    simp only [altsL] at h
    obtain ⟨h1, h2⟩ := alt_some h
    rcases List.mem_cons.1 hm with e | hm
    · rw [e]; exact h1
    · exact altsL_mem h2 hm
theorem mem_ups {p : Nat → Bool} : ∀ {l : List Nat}, (∀ j d, j ∈ l → d ∈ l → p j = true → has tab d j = true → p d = true) → l.filter p ∈ ups tab l
  | [], _ => by simp [ups]
  | j :: r, h => by
    have ih := mem_ups (p := p) (l := r) fun a b ha hb => h a b (by simp [ha]) (by simp [hb])
    simp only [ups, List.mem_append, List.mem_map, List.mem_filter]
    cases hj : p j with
    | false => left; simpa [List.filter_cons, hj] using ih
    | true =>
      right
      refine ⟨r.filter p, ⟨ih, ?_⟩, by simp [List.filter_cons, hj]⟩
      simp only [List.all_eq_true, Bool.or_eq_true, Bool.not_eq_true']
      intro d hd
      cases hb : has tab d j with
      | false => exact .inl rfl
      | true =>
        right
        have := h j d (by simp) (by simp [hd]) hj hb
        exact List.any_eq_true.2 ⟨d, List.mem_filter.2 ⟨hd, this⟩, Nat.beq_refl d⟩
end
end Go.Proofs.YtjodpeldfebhfaaGreat.Ab

/- The abstract machine, part 26: a drawn region, in whatever order. -/
set_option linter.unusedVariables false
set_option linter.unusedSimpArgs false
set_option linter.unusedSectionVars false
namespace Go.Proofs.YtjodpeldfebhfaaGreat.Ab
open Go Go.RowKit

section
variable {Ty : Type} [DecidableEq Ty] {C : Ty → Type}
variable {P : Program} {X : Cx C} {w0 : World} {nt : Nat} {R : Type} {k : St C → Option R} {r : R} {tab : List (Nat × Nat)} {all : Array Oper} {Q : Exit → Act → World → Prop}

/-- Where a drawn region stands. -/
structure At (P : Program) (X : Cx C) (w0 : World) (nt : Nat) (k : St C → Option R) (r : R) (tab : List (Nat × Nat)) (all : Array Oper) (listed : Array Bool) (a : Act) (w : World) (rest : List (Nat × Oper)) (S0 : St C) (ents es : List (Ent C)) : Prop where
  lay : Lay X all tab S0 ents
  chk : LayP S0 tab ents
  tail : Tail X all tab k r S0 rest ents
  asc : Asc all rest
  bef : ∀ e, e ∈ ents → ∀ x, x ∈ rest → e.ix < x.1
  valid : Valid tab es
  sub : ∀ e, e ∈ es → e ∈ ents
  mem : ∀ e, e ∈ ents → (Listed listed e.ix ↔ e ∈ es)
  cov : ∀ i, i < all.size → Listed listed i ∨ (∃ e, e ∈ ents ∧ e.ix = i) ∨ ∃ x, x ∈ rest ∧ x.1 = i
  hi : ∀ x, x ∈ rest → ¬ Listed listed x.1
  sim : SimE X.K w0 nt (SD S0 es) a w

theorem ready_mem {listed : Array Bool} {i : Nat} : i ∈ Region.ready .any all listed ↔ i < all.size ∧ listed.getD i true = false ∧ ∀ o, all[i]? = some o → ∀ e, e ∈ o.after.toList → Region.binds .any e = true → Listed listed e.on := by
  unfold Region.ready
  rw [List.mem_filter, List.mem_range]
  constructor
  · rintro ⟨h1, h2⟩
    simp only [Bool.and_eq_true, Bool.not_eq_true'] at h2
    refine ⟨h1, h2.1, fun o ho e he hb => ?_⟩
    rw [ho] at h2
    have h3 := h2.2
    simp only [Option.map_some, Option.getD_some, Array.all_eq_true'] at h3
    have := h3 e (by simpa using he)
    rw [hb] at this
    simpa [Listed] using this
  · rintro ⟨h1, h2, h3⟩
    refine ⟨h1, ?_⟩
    have ho : all[i]? = some all[i] := by simp [h1]
    simp only [h2, ho, Option.map_some, Option.getD_some, Bool.not_false, Bool.true_and, Array.all_eq_true']
    intro e he
    cases hb : Region.binds .any e with
    | false => simp
    | true => simpa [Listed] using h3 _ ho e (by simpa using he) hb

theorem listed_set {listed : Array Bool} {i j : Nat} (hi : i < listed.size) : Listed (listed.setIfInBounds i true) j ↔ j = i ∨ Listed listed j := by
  unfold Listed
  simp only [Array.getD_eq_getD_getElem?, Array.getElem?_setIfInBounds]
  by_cases e : i = j
  · subst e; simp [hi]
  · have : j ≠ i := fun h => e h.symm
    simp [e, this]

theorem all_listed (hp : PreP all tab) {listed : Array Bool} (hs : listed.size = all.size) (h : Region.ready .any all listed = []) : ∀ i, i < all.size → Listed listed i := by
  intro i
  induction i using Nat.strongRecOn with
  | _ i ih =>
    intro hi
    cases hl : listed.getD i true with
    | true =>
      unfold Listed
      simp only [Array.getD_eq_getD_getElem?, Array.getElem?_eq_getElem (hs ▸ hi : i < listed.size), Option.getD_some] at hl ⊢
      exact hl
    | false =>
      have : i ∈ Region.ready .any all listed := ready_mem.2 ⟨hi, hl, fun o ho e he hb => by
        have := hp.edge i o ho e he hb
        exact ih e.on this (by omega)⟩
      rw [h] at this
      cases this

theorem at_end (hp : PreP all tab) {listed : Array Bool} {a : Act} {w : World} {rest : List (Nat × Oper)} {S0 : St C} {ents es fs : List (Ent C)} (h : At P X w0 nt k r tab all listed a w rest S0 ents es) (hv : Valid tab fs) (hfs : ∀ e, e ∈ fs ↔ e ∈ ents ∧ Listed listed e.ix) :
    SimE X.K w0 nt (SD S0 fs) a w :=
  sim_perm (P := P) h.chk h.valid hv h.sub (fun e => ⟨fun he => (h.mem e ((hfs e).1 he).1).1 ((hfs e).1 he).2, fun he => (hfs e).2 ⟨h.sub e he, (h.mem e (h.sub e he)).2 he⟩⟩) h.sim

theorem asc_drop {q : Nat} {o : Oper} {l : List (Nat × Oper)} (h : Asc all ((q, o) :: l)) : Asc all l ∧ ∀ x, x ∈ l → q < x.1 :=
  ⟨⟨(List.pairwise_cons.1 h.1).2, fun x hx => h.2 x (by simp [hx])⟩, fun x hx => (List.pairwise_cons.1 h.1).1 x hx⟩
theorem opsAt_mem {L : List Nat} {x : Nat × Oper} : x ∈ opsAt all L ↔ x.1 ∈ L ∧ all[x.1]? = some x.2 := by
  unfold opsAt
  rw [List.mem_filterMap]
  constructor
  · rintro ⟨i, hi, h⟩
    cases e : all[i]? with
    | none => rw [e] at h; cases h
    | some o => rw [e] at h; cases h; exact ⟨hi, e⟩
  · rintro ⟨h1, h2⟩
    exact ⟨x.1, h1, by rw [h2]; rfl⟩
theorem asc_opsAt : ∀ {L : List Nat}, L.Pairwise (· < ·) → Asc all (opsAt all L)
  | [], _ => ⟨List.Pairwise.nil, fun x hx => by simp [opsAt] at hx⟩
  | j :: r, h => by
    obtain ⟨h1, h2⟩ := List.pairwise_cons.1 h
    obtain ⟨a1, a2⟩ := asc_opsAt (L := r) h2
    refine ⟨?_, fun x hx => (opsAt_mem.1 hx).2⟩
    unfold opsAt at a1 ⊢
    rw [List.filterMap_cons]
    cases e : (all[j]?).map fun o => (j, o) with
    | none => exact a1
    | some y =>
      refine List.pairwise_cons.2 ⟨fun x hx => ?_, a1⟩
      have hy : y.1 = j := by
        cases e2 : all[j]? with
        | none => rw [e2] at e; cases e
        | some o => rw [e2] at e; cases e; rfl
      rw [hy]
      have : x ∈ opsAt all r := hx
      exact h1 x.1 (opsAt_mem.1 this).1
theorem asc_append {l m : List (Nat × Oper)} (hl : Asc all l) (hm : Asc all m) (h : ∀ x, x ∈ l → ∀ y, y ∈ m → x.1 < y.1) : Asc all (l ++ m) :=
  ⟨List.pairwise_append.2 ⟨hl.1, hm.1, fun x hx y hy => h x hx y hy⟩, fun x hx => (List.mem_append.1 hx).elim (hl.2 x) (hm.2 x)⟩

theorem draw_any (hX : XOk P X) (hC : Cons P X) (hp : PreP all tab) (hall : ∀ o, o ∈ all.toList → slot o.dst nt) (hQ : ∀ a w, Next X.K w0 nt k r a w → Q .normal a w) :
    ∀ (fuel : Nat) (listed : Array Bool) (a : Act) (w : World) (rest : List (Nat × Oper)) (S0 : St C) (ents es : List (Ent C)), listed.size = all.size → listed.toList.count false = fuel → Closed all listed →
      At P X w0 nt k r tab all listed a w rest S0 ents es → wpAny P .any all Q fuel listed a w := by
  have done : ∀ {listed : Array Bool} {a : Act} {w : World} {rest : List (Nat × Oper)} {S0 : St C} {ents es : List (Ent C)}, (∀ i, i < all.size → Listed listed i) → At P X w0 nt k r tab all listed a w rest S0 ents es → Q .normal a w := by
    intro listed a w rest S0 ents es hl h
    have ht := h.tail
    cases rest with
    | nil => exact hQ a w ⟨_, at_end hp h (h.lay.valid hp) (fun e => ⟨fun he => ⟨he, hl e.ix (h.lay.rng e he)⟩, fun he => he.1⟩), ht⟩
    | cons x rest =>
      have hx := h.asc.2 x (by simp)
      have : x.1 < all.size := by
        rcases Nat.lt_or_ge x.1 all.size with h | h
        · exact h
        · simp [Array.getElem?_eq_none h] at hx
      exact absurd (hl x.1 this) (h.hi x (by simp))
  intro fuel
  induction fuel with
  | zero =>
    intro listed a w rest S0 ents es hs hf hc h
    have hl : ∀ i, i < all.size → Listed listed i := by
      intro i hi
      have h1 : i < listed.toList.length := by simpa [hs] using hi
      have h2 := List.count_eq_zero.1 hf
      have h3 : listed.toList[i] ≠ false := fun e => h2 (e ▸ List.getElem_mem h1)
      unfold Listed
      simp only [Array.getD_eq_getD_getElem?, Array.getElem?_eq_getElem (hs ▸ hi : i < listed.size), Option.getD_some]
      simpa using h3
    refine ⟨?_, done hl h⟩
    cases hr : Region.ready .any all listed with
    | nil => rfl
    | cons x l =>
      have hx : x ∈ Region.ready .any all listed := by rw [hr]; simp
      obtain ⟨h1, h2, _⟩ := ready_mem.1 hx
      have := hl x h1
      unfold Listed at this
      simp only [Array.getD_eq_getD_getElem?, Array.getElem?_eq_getElem (hs ▸ h1 : x < listed.size), Option.getD_some] at this h2
      rw [this] at h2
      cases h2
  | succ fuel ih =>
    intro listed a w rest S0 ents es hs hf hc h
    refine ⟨fun hr => done (all_listed hp hs hr) h, fun i hi => ?_⟩
    obtain ⟨h1, h2, h3⟩ := ready_mem.1 hi
    have hil : i < listed.size := by omega
    have ho : all[i]? = some all[i] := by simp [h1]
    generalize all[i] = o at ho
    have h3' := h3 o ho
    have hnl : ¬ Listed listed i := by
      unfold Listed
      simp only [Array.getD_eq_getD_getElem?, Array.getElem?_eq_getElem hil, Option.getD_some] at h2 ⊢
      rw [h2]; simp
    have hslot : slot o.dst nt := hall o (by simpa using Array.mem_of_getElem? ho)
    have hanc : ∀ j, has tab i j = true → Listed listed j := has_listed hp hc i o ho h3'
    -- what is so behind it
    have hs' : (listed.setIfInBounds i true).size = all.size := by simp [hs]
    have hf' : (listed.setIfInBounds i true).toList.count false = fuel := by
      have hv : listed.toList[i]'(by simpa using hil) = false := by
        simp only [Array.getD_eq_getD_getElem?, Array.getElem?_eq_getElem hil, Option.getD_some] at h2
        simpa using h2
      rw [Array.toList_setIfInBounds, List.count_set (by simpa using hil), hv, hf]
      simp
    have hc' : Closed all (listed.setIfInBounds i true) := by
      intro j o' ho' hj e he hb
      rw [listed_set hil] at hj ⊢
      rcases hj with e' | hj
      · subst e'
        rw [ho] at ho'
        have ho' := Option.some.inj ho'
        subst ho'
        exact .inr (h3' e he hb)
      · exact .inr (hc j o' ho' hj e he hb)
    unfold wpOp
    simp only [ho]
    rcases h.cov i h1 with hl | ⟨e, he, hei⟩ | ⟨x, hx, hxi⟩
    · exact absurd hl hnl
    · -- one that writes into nothing
      subst hei
      have hne : e ∉ es := fun hm => hnl ((h.mem e he).2 hm)
      obtain ⟨o', q1, q2, q3, q5, q6, q4⟩ := (h.lay.ok e he).ex
      rw [ho] at q1
      cases q1
      have hval : Valid tab (e :: es) := by
        refine List.pairwise_cons.2 ⟨fun m hm => ?_, h.valid⟩
        have hml : Listed listed m.ix := (h.mem m (h.sub m hm)).2 hm
        refine ⟨fun e' => hnl (e' ▸ hml), ?_⟩
        cases hb : has tab m.ix e.ix with
        | false => rfl
        | true =>
          have hmlt : m.ix < all.size := h.lay.rng m (h.sub m hm)
          have hmo : all[m.ix]? = some all[m.ix] := by simp [hmlt]
          exact absurd (has_listed hp hc m.ix _ hmo (fun e2 he2 hb2 => hc m.ix _ hmo hml e2 he2 hb2) e.ix hb) hnl
      have hne_ix : ∀ m, m ∈ es → e.ix ≠ m.ix ∧ has tab m.ix e.ix = false := fun m hm => ⟨fun e' => ((List.pairwise_cons.1 hval).1 m hm).1 e'.symm, ((List.pairwise_cons.1 hval).1 m hm).2⟩
      have next : ∀ a' w', SimE X.K w0 nt (SD S0 (e :: es)) a' w' → wpAny P .any all Q fuel (listed.setIfInBounds e.ix true) a' w' := by
        intro a' w' hsim
        refine ih _ a' w' rest S0 ents (e :: es) hs' hf' hc' ⟨h.lay, h.chk, h.tail, h.asc, h.bef, hval, fun m hm => ?_, fun m hm => ?_, fun j hj => ?_, fun y hy => ?_, hsim⟩
        · rcases List.mem_cons.1 hm with e' | hm
          · subst e'; exact he
          · exact h.sub m hm
        · rw [listed_set hil, List.mem_cons, h.mem m hm]
          constructor
          · rintro (e' | h')
            · left
              -- same place, same entry
              have : ∀ {l : List (Ent C)}, (l.Pairwise fun e m => m.ix < e.ix) → m ∈ l → e ∈ l → m = e := by
                intro l
                induction l with
                | nil => intro _ hm; cases hm
                | cons x l ihl =>
                  intro hpw hm he
                  obtain ⟨p1, p2⟩ := List.pairwise_cons.1 hpw
                  rcases List.mem_cons.1 hm with e1 | hm1 <;> rcases List.mem_cons.1 he with e2 | he1
                  · rw [e1, e2]
                  · subst e1; have := p1 e he1; omega
                  · subst e2; have := p1 m hm1; omega
                  · exact ihl p2 hm1 he1
              exact this h.lay.desc hm he
            · exact .inr h'
          · rintro (e' | h')
            · subst e'; exact .inl rfl
            · exact .inr h'
        · rw [listed_set hil]
          rcases h.cov j hj with h' | h' | h'
          · exact .inl (.inr h')
          · exact .inr (.inl h')
          · exact .inr (.inr h')
        · rw [listed_set hil]
          rintro (e' | h')
          · have := h.bef e he y hy; omega
          · exact h.hi y hy h'
      -- its guard
      have hw : Region.wanted o (yielded all a.tmps) = e.ran := by
        unfold Region.wanted
        cases hg : o.guard with
        | none => rw [hg] at q3; simp only at q3; rw [q3]
        | some g =>
          obtain ⟨j, want⟩ := g
          rw [hg] at q3
          simp only at q3
          obtain ⟨ha, m, hm, hmj, hmd, hmv⟩ := q3
          subst hmj
          have hml : m ∈ es := (h.mem m hm).1 (hanc _ ha)
          obtain ⟨om, qm1, qm2, _⟩ := (h.lay.ok m hm).ex
          obtain ⟨β, fp, hsim⟩ := h.sim
          have hdm : ∃ d, m.dst = some d := by
            cases hd : m.dst with
            | some d => exact ⟨d, rfl⟩
            | none => rw [hd] at hmd; cases hmd
          obtain ⟨d, hd⟩ := hdm
          rcases hmv with ⟨b, hmv, hiff⟩ | ⟨hmv, hran⟩
          case inr =>
            have hlk : lk (SD S0 es).env d = some .und := (val_env h.chk h.valid h.sub d _).2 (.inl ⟨m, hml, hd, hmv⟩)
            have hy := yield_und (all := all) (j := m.ix) hsim (d := d) (by rw [qm1]; simp [← qm2, hd]) hlk
            simp only [hy, hran]
            rfl
          have hlk : lk (SD S0 es).env d = some (.one (.bool b)) := (val_env h.chk h.valid h.sub d _).2 (.inl ⟨m, hml, hd, hmv⟩)
          have hy := yield_ok (all := all) (j := m.ix) hsim (d := d) (b := b) (by rw [qm1]; simp [← qm2, hd]) (hall om (by simpa using Array.mem_of_getElem? qm1) d (by rw [← qm2]; exact hd)) hlk
          simp only [hy]
          cases hx : e.ran with
          | true => simp [hiff.1 hx]
          | false =>
            have : b ≠ want := fun h' => by rw [hiff.2 h'] at hx; cases hx
            simpa using this
      rw [hw]
      cases hef : e.eff with
      | none => rw [hef] at q6; cases q6
      | some x =>
        obtain ⟨v, news, dels⟩ := x
        cases hran : e.ran with
        | false =>
          simp only [Bool.false_eq_true, if_false]
          have hu := q5 hran
          rw [hef] at hu
          cases hu
          obtain ⟨β, fp, hsim⟩ := h.sim
          refine next _ _ ⟨β, fp, ?_⟩
          have := hsim.put (v := .und) (u := undef) o.dst hslot rfl
          have e1 : SD S0 (e :: es) = (SD S0 es).put o.dst .und := by
            simp [SD, Ent.app, hef, q2, rmAll]
          rw [e1]
          exact this
        | true =>
        simp only [if_true]
        obtain ⟨fs, mn, f1, f2, f7, f3, f4, f5, f6⟩ := q4 v news dels hran hef
        have ffs : ∀ m, m ∈ fs → m ∈ es := fun m hm => (h.mem m (f2 m hm).1).1 (hanc _ (f2 m hm).2)
        have hle : Le mn (SD S0 es) := by
          refine ⟨by rw [SD_base, f5], fun t v ht => ?_, fun id ob hi => ?_⟩
          · rcases (val_env h.chk f1 (fun m hm => (f2 m hm).1) t v).1 (f3 t v ht) with ⟨m, hm, h4⟩ | ⟨h4, h5⟩
            · exact (val_env h.chk h.valid h.sub t v).2 (.inl ⟨m, ffs m hm, h4⟩)
            · refine (val_env h.chk h.valid h.sub t v).2 (.inr ⟨fun m hm hd => ?_, h5⟩)
              rw [lay_free h.chk (h.sub m hm) hd] at h5
              cases h5
          · obtain ⟨g1, g2⟩ := f4 id ob hi
            obtain ⟨g3, g4⟩ := (val_objs h.chk f1 (fun m hm => (f2 m hm).1) id ob).1 g1
            refine (val_objs h.chk h.valid h.sub id ob).2 ⟨fun m hm hd => ?_, ?_⟩
            · by_cases ha : has tab e.ix m.ix = true
              · exact g3 m (f7 m (h.sub m hm) ha) hd
              · exact lay_need h.chk he (h.sub m hm) (hne_ix m hm).1 (by simpa using ha) (hne_ix m hm).2 hd g2
            · rcases g4 with ⟨m, hm, h4⟩ | ⟨h4, h5⟩
              · exact .inl ⟨m, ffs m hm, h4⟩
              · refine .inr ⟨fun m hm hk => ?_, h5⟩
                exact (lay_self h.chk (h.sub m hm) hk).2.2 (keys_ids (lk_keys h5))
        have hfresh : ∀ id, id ∈ keysO news → Unnamed (SD S0 es) id := by
          intro id hid
          have hk : id ∈ e.newK := by simp [Ent.newK, hef, hid]
          have hno : ¬ (id ∈ idsE0 (SD S0 es).env ∨ id ∈ idsO (SD S0 es).objs) := by
            intro hn
            rcases SD_named hn with h4 | h4 | ⟨m, hm, h4⟩
            · exact (lay_self h.chk he hk).2.1 h4
            · exact (lay_self h.chk he hk).2.2 h4
            · exact (lay_names h.chk he (h.sub m hm) (hne_ix m hm).1 (hne_ix m hm).2 hk).1 h4
          exact ⟨fun h' => hno (.inl h'), fun h' => hno (.inr h')⟩
        have hnd : nodupN (keysO news) = true := by
          have := lay_nodup h.chk he
          simpa [Ent.newK, hef] using this
        have hev := f6 (SD S0 es) hle hfresh hnd (fun S' => some S')
        have e1 : eff (SD S0 es) o.dst v news dels = SD S0 (e :: es) := by
          simp [SD, Ent.app, hef, eff, q2]
        rw [e1] at hev
        obtain ⟨β, fp, hsim⟩ := h.sim
        refine .inl (Oper.wp_mono ?_ (ev_sound (Q := Q) hX hC hsim hslot hev))
        rintro a' w' ⟨S', hs2, hk2⟩
        cases hk2
        exact next a' w' hs2
    · obtain ⟨i', o'⟩ := x
      have hxi : i' = i := hxi
      subst hxi
      have ho' : all[i']? = some o' := h.asc.2 _ hx
      rw [ho] at ho'
      cases ho'
      cases rest with
      | nil => cases hx
      | cons y rest =>
        obtain ⟨q, oq⟩ := y
        obtain ⟨hE, f, hev⟩ := h.tail
        obtain ⟨hasc, hlt⟩ := asc_drop h.asc
        have hoq : all[q]? = some oq := h.asc.2 (q, oq) (by simp)
        by_cases hiq : i' = q
        · -- the one that writes
          subst hiq
          rw [ho] at hoq
          cases hoq
          let lag : Nat → Bool := fun j => !listed.getD j false
          have hlag : ∀ j, lag j = true ↔ ¬ Listed listed j := fun j => by simp [lag, Listed]
          let L := (lagIx tab i' ents).filter lag
          have hLm : ∀ j, j ∈ L ↔ (∃ e, e ∈ ents ∧ e.ix = j) ∧ ¬ Listed listed j := fun j => by
            simp only [L, List.mem_filter, hlag, lagIx, List.mem_reverse, List.mem_map]
            constructor
            · rintro ⟨⟨e, ⟨he, _⟩, hej⟩, hn⟩; exact ⟨⟨e, he, hej⟩, hn⟩
            · rintro ⟨⟨e, he, hej⟩, hn⟩
              refine ⟨⟨e, ⟨he, ?_⟩, hej⟩, hn⟩
              cases hb : has tab i' e.ix with
              | false => rfl
              | true => exact absurd (hanc e.ix hb) (hej ▸ hn)
          have hup : L ∈ ups tab (lagIx tab i' ents) := mem_ups fun j d hj hd hlj hdj => by
            rw [hlag] at hlj ⊢
            intro hld
            simp only [lagIx, List.mem_reverse, List.mem_map, List.mem_filter] at hd
            obtain ⟨e, ⟨he, _⟩, hed⟩ := hd
            have hdlt : d < all.size := by rw [← hed]; exact h.lay.rng e he
            have hdo : all[d]? = some all[d] := by simp [hdlt]
            exact hlj (has_listed hp hc d _ hdo (fun e2 he2 hb2 => hc d _ hdo hld e2 he2 hb2) j hdj)
          have hev2 := altsL_mem hev (List.mem_map.2 ⟨L, hup, rfl⟩)
          have hfs : ∀ e, e ∈ (ents.filter fun e => !L.any (Nat.beq e.ix)) ↔ e ∈ ents ∧ Listed listed e.ix := fun e => by
            rw [List.mem_filter]
            constructor
            · rintro ⟨he, hn⟩
              refine ⟨he, ?_⟩
              by_cases hl : Listed listed e.ix
              · exact hl
              · have : e.ix ∈ L := (hLm _).2 ⟨⟨e, he, rfl⟩, hl⟩
                have : L.any (Nat.beq e.ix) = true := List.any_eq_true.2 ⟨e.ix, this, Nat.beq_refl _⟩
                rw [this] at hn; cases hn
            · rintro ⟨he, hl⟩
              refine ⟨he, ?_⟩
              cases hb : L.any (Nat.beq e.ix) with
              | false => rfl
              | true =>
                obtain ⟨j, hj, hbj⟩ := List.any_eq_true.1 hb
                have := Nat.eq_of_beq_eq_true hbj
                subst this
                exact absurd hl ((hLm _).1 hj).2
          obtain ⟨β, fp, hsim⟩ := at_end hp h ((h.lay.valid hp).sublist List.filter_sublist) hfs
          have hw : Region.wanted o (yielded all a.tmps) = true := by simp [Region.wanted, hp.grd i' o ho hE]
          rw [hw]
          simp only [if_true]
          refine .inl (Oper.wp_mono ?_ (ev_sound (Q := Q) hX hC hsim hslot hev2))
          rintro a' w' ⟨S', hs2, hk2⟩
          have hLasc : L.Pairwise (· < ·) := by
            refine List.Pairwise.filter _ ?_
            unfold lagIx
            rw [List.pairwise_reverse, List.pairwise_map]
            exact (h.lay.desc.sublist List.filter_sublist).imp fun h => h
          have hA : Asc all (opsAt all L ++ rest) := asc_append (asc_opsAt hLasc) hasc fun x hx y hy => by
            obtain ⟨⟨e, he, hej⟩, _⟩ := (hLm _).1 (opsAt_mem.1 hx).1
            rw [← hej]
            exact h.bef e he y (by simp [hy])
          obtain ⟨rest', ents', g1, g2, g3, g4, g5, g6, g7, _, g9⟩ := dlay_out hp f _ S' [] hA (fun e he => (by cases he)) ⟨List.Pairwise.nil, fun e he => (by cases he), fun e he => (by cases he)⟩ hk2
          have hun : ∀ x, x ∈ opsAt all L ++ rest → x.1 ≠ i' ∧ ¬ Listed listed x.1 := fun x hx => by
            rcases List.mem_append.1 hx with hx | hx
            · obtain ⟨⟨e, he, hej⟩, hn⟩ := (hLm _).1 (opsAt_mem.1 hx).1
              have := h.bef e he (i', o) (by simp)
              exact ⟨by simp at this; omega, hn⟩
            · have := hlt x hx
              exact ⟨by omega, h.hi x (by simp [hx])⟩
          have hun' : ∀ x, x ∈ opsAt all L ++ rest → ¬ Listed (listed.setIfInBounds i' true) x.1 := fun x hx => by
            rw [listed_set hil]
            rintro (e' | h')
            · exact (hun x hx).1 e'
            · exact (hun x hx).2 h'
          refine ih _ a' w' rest' S' ents' [] hs' hf' hc' ⟨g1, g2, g3, g4, g9, List.Pairwise.nil, fun e he => (by cases he), fun e he => ?_, fun j hj => ?_, fun x hx => hun' x (g5 x hx), hs2⟩
          · constructor
            · intro hl
              rcases g6 e he with h' | ⟨x, hx, hxe⟩
              · cases h'
              · exact absurd hl (hxe ▸ hun' x hx)
            · intro h'; cases h'
          · rw [listed_set hil]
            by_cases e1 : j = i'
            · exact .inl (.inl e1)
            · by_cases hl : Listed listed j
              · exact .inl (.inr hl)
              · have hmem : ∃ x, x ∈ opsAt all L ++ rest ∧ x.1 = j := by
                  rcases h.cov j hj with h' | ⟨e, he, hej⟩ | ⟨x, hx, hxj⟩
                  · exact absurd h' hl
                  · exact ⟨(j, all[j]), List.mem_append.2 (.inl (opsAt_mem.2 ⟨(hLm j).2 ⟨⟨e, he, hej⟩, hl⟩, by simp [hj]⟩)), rfl⟩
                  · rcases List.mem_cons.1 hx with e2 | hx
                    · rw [e2] at hxj; exact absurd hxj.symm e1
                    · exact ⟨x, List.mem_append.2 (.inr hx), hxj⟩
                obtain ⟨x, hx, hxj⟩ := hmem
                rcases g7 x hx with h' | ⟨e, he, hex⟩
                · exact .inr (.inr ⟨x, h', hxj⟩)
                · exact .inr (.inl ⟨e, he, hex.trans hxj⟩)
        · -- one behind the one that writes
          exfalso
          have hx' : (i', o) ∈ rest := (List.mem_cons.1 hx).resolve_left fun e => hiq (by cases e; rfl)
          have hql : q < i' := hlt _ hx'
          have hE' : isEat all q = true := by simp [isEat, hoq, hE]
          exact h.hi (q, oq) (by simp) (hanc q (hp.eff i' o ho q hql hE'))
end
end Go.Proofs.YtjodpeldfebhfaaGreat.Ab

/- The abstract machine, part 20: code. -/
set_option linter.unusedVariables false
set_option linter.unusedSimpArgs false
set_option linter.unusedSectionVars false
namespace Go.Proofs.YtjodpeldfebhfaaGreat.Ab
open Go Go.RowKit

section
variable {Ty : Type} [DecidableEq Ty] {C : Ty → Type}
variable {P : Program} {X : Cx C} {w0 w : World} {nt : Nat} {S : St C} {β : Nat → Value} {fp : Nat → Nat → Prop} {a : Act} {R : Type} {r : R}

def slotB (nt : Nat) : Option Tmp → Bool
  | some t => Nat.blt t nt
  | none => true
def opsB (nt : Nat) : List Oper → Bool
  | [] => true
  | o :: r => slotB nt o.dst && opsB nt r
/-- Every slot is one of the frame's. -/
def codeB (nt : Nat) : Code → Bool
  | .region _ ops _ => opsB nt ops.toList
  | .seq a b => codeB nt a && codeB nt b
  | .cond _ a b => codeB nt a && codeB nt b
  | .block _ c => codeB nt c
  | .loop c => codeB nt c
  | .scope c => codeB nt c
  | _ => true
theorem opsB_ok : ∀ {l : List Oper}, opsB nt l = true → ∀ o, o ∈ l → slot o.dst nt
  | [], _, o, h => by cases h
  | x :: l, hb, o, h => by
    simp only [opsB, Bool.and_eq_true] at hb
    rcases List.mem_cons.1 h with e | h
    · subst e
      intro t ht
      have := hb.1
      rw [ht] at this
      simp only [slotB] at this
      have h2 : Nat.ble (t + 1) nt = true := this
      exact Nat.le_of_ble_eq_true h2
    · exact opsB_ok hb.2 o h

theorem Sim.drawn {K : Cd C} (h : Sim K w0 nt S β fp a w) : Sim K w0 nt S β fp a { w with drawn := w.drawn + 1 } := by
  have hst : ∀ k, stbOf S.objs fp w k → stbOf S.objs fp { w with drawn := w.drawn + 1 } k ∧ ({ w with drawn := w.drawn + 1 } : World).heap[k]? = w.heap[k]? := fun k hk => ⟨hk, rfl⟩
  have hid : ∀ id, Keeps w { w with drawn := w.drawn + 1 } S.objs S.objs β β fp fp id := fun id => ⟨rfl, fun _ _ _ ho => ⟨ho, fun k hk => ⟨hk, rfl⟩⟩⟩
  exact ⟨h.below.trans ⟨rfl, rfl, rfl, Nat.le_refl _, fun _ _ => rfl⟩, h.defers, h.size, h.fresh, h.disj, fun id ob ho => (h.objs id ob ho).tr hst (fun _ _ => rfl) (fun _ _ _ id _ => hid id), fun t v ht => (h.env t v ht).tr hst fun id _ => hid id⟩

theorem num_all : ∀ {l : List Oper} {n : Nat}, ∀ x, x ∈ numbered n l → l[x.1 - n]? = some x.2
  | [], n, x, h => by cases h
  | o :: l, n, x, h => by
    rcases List.mem_cons.1 h with e | h
    · subst e; simp
    · have h1 := num_all (l := l) (n := n + 1) x h
      have h2 : ∀ {l : List Oper} {n : Nat}, ∀ x, x ∈ numbered n l → n ≤ x.1 := by
        intro l
        induction l with
        | nil => intro n x h; cases h
        | cons o l ih => intro n x h; rcases List.mem_cons.1 h with e | h; subst e; exact Nat.le_refl _; have := ih x h; omega
      have h3 := h2 x h
      have e : x.1 - n = (x.1 - (n + 1)) + 1 := by omega
      rw [e]
      simpa using h1
theorem num_asc : ∀ {l : List Oper} {n : Nat}, (numbered n l).Pairwise (fun x y => x.1 < y.1) ∧ ∀ x, x ∈ numbered n l → n ≤ x.1
  | [], n => ⟨List.Pairwise.nil, fun x h => by cases h⟩
  | o :: l, n => by
    obtain ⟨h1, h2⟩ := num_asc (l := l) (n := n + 1)
    refine ⟨List.pairwise_cons.2 ⟨fun x hx => ?_, h1⟩, fun x hx => ?_⟩
    · have := h2 x hx
      show n < x.1
      omega
    · rcases List.mem_cons.1 hx with e | hx
      · subst e; exact Nat.le_refl _
      · have := h2 x hx; omega
theorem num_has : ∀ {l : List Oper} {n i : Nat}, i < l.length → ∃ x, x ∈ numbered n l ∧ x.1 = n + i
  | [], n, i, h => by simp at h
  | o :: l, n, i, h => by
    cases i with
    | zero => exact ⟨(n, o), by simp [numbered], rfl⟩
    | succ i =>
      obtain ⟨x, h1, h2⟩ := num_has (l := l) (n := n + 1) (i := i) (by simpa using h)
      exact ⟨x, by simp [numbered, h1], by omega⟩

theorem draw_sound (hX : XOk P X) (hC : Cons P X) (hm : P.follows .mixedOrders = true) {all : Array Oper} {tab : List (Nat × Nat)} {k : St C → Option R} {Q : Exit → Act → World → Prop} {id : Nat} (hall : ∀ o, o ∈ all.toList → slot o.dst nt)
    (hQ : ∀ a w, Next X.K w0 nt k r a w → Q .normal a w) (hs : Sim X.K w0 nt S β fp a w) (h : drun X all tab S k = some r) : (Code.region id all true).wp P Q a w := by
  obtain ⟨hb, h⟩ := cond_some h
  have hp := preP_of hb
  have hnum := num_all (l := all.toList) (n := 0)
  have hasc : Asc all (numbered 0 all.toList) := ⟨(num_asc (l := all.toList) (n := 0)).1, fun x hx => by have := hnum x hx; simpa using this⟩
  obtain ⟨rest, ents, g2, g3, g4, g5, g6, g7, g8, _, g9⟩ := dlay_out hp 4096 _ _ [] hasc (fun e he => (by cases he)) ⟨List.Pairwise.nil, fun e he => (by cases he), fun e he => (by cases he)⟩ h
  have hno : ∀ i, ¬ Listed (Array.replicate all.size false) i := by
    intro i hi
    unfold Listed at hi
    simp [Array.getD_eq_getD_getElem?, Array.getElem?_replicate] at hi
    split at hi <;> simp at hi
  refine wp_region_any hm (draw_any hX hC hp hall hQ all.size _ a _ rest _ ents [] (by simp) (by simp) (fun i o _ hi => absurd hi (hno i)) ⟨g2, g3, g4, g5, g9, List.Pairwise.nil, fun e he => (by cases he), fun e he => ⟨fun hi => absurd hi (hno _), fun hi => (by cases hi)⟩, fun i hi => .inr ?_, fun x _ => hno x.1, ?_⟩)
  · obtain ⟨x, hx, hxi⟩ := num_has (l := all.toList) (n := 0) (i := i) (by simpa using hi)
    rcases g8 x hx with h' | ⟨e, he, hex⟩
    · exact .inr ⟨x, h', by omega⟩
    · exact .inl ⟨e, he, by omega⟩
  refine ⟨β, fp, hs.drawn.less _ fun t v ht => ?_⟩
  rw [lk_rmAll] at ht
  split at ht
  · cases ht
  · exact ht

/-- What is so behind a piece of code. -/
def post (K : Cd C) (w0 : World) (nt : Nat) (k : Ex → St C → Option R) (r : R) : Exit → Act → World → Prop
  | .normal, a, w => ∃ S', SimE K w0 nt S' a w ∧ k .norm S' = some r
  | .exit id, a, w => ∃ S', SimE K w0 nt S' a w ∧ k (.exit id) S' = some r
  | .ret, a, w => ∃ S', SimE K w0 nt S' a w ∧ k .ret S' = some r
  | _, _, _ => False

theorem canThen_some {ent : List Nat} {rec : St C → Option R} (h : canThen ent rec S = some r) : ∃ S', S.canon ent = some S' ∧ rec S' = some r := by
  unfold canThen at h
  split at h
  · rename_i S' hS; rw [forceS_eq] at h; exact ⟨S', hS, h⟩
  · cases h

theorem run_sound (hX : XOk P X) (hC : Cons P X) (hm : P.follows .mixedOrders = true) (F : Cf) : ∀ (c : Code) (cur : Nat) (S : St C) (a : Act) (w : World) (k : Ex → St C → Option R), codeB nt c = true → SimE X.K w0 nt S a w →
    run X F c cur S k = some r → c.wp P (post X.K w0 nt k r) a w := by
  intro c
  induction c with
  | skip =>
    intro cur S a w k _ hs h
    exact Go.wp_skip ⟨S, hs, h⟩
  | label l =>
    intro cur S a w k _ hs h
    exact Go.wp_label ⟨S, hs, h⟩
  | exit id =>
    intro cur S a w k _ hs h
    exact Go.wp_exit ⟨S, hs, h⟩
  | ret =>
    intro cur S a w k _ hs h
    exact Go.wp_ret ⟨S, hs, h⟩
  | region id ops draw =>
    intro cur S a w k hb ⟨β, fp, hs⟩ h
    simp only [run, forceS_eq] at h
    cases draw with
    | true =>
      refine draw_sound hX hC hm (opsB_ok hb) (k := fun S' => k .norm (S'.tidy F.keep)) (r := r) ?_ hs h
      rintro a' w' ⟨S', ⟨β', fp', hs'⟩, hk⟩
      exact ⟨_, ⟨β', fp', hs'.tidy F.keep⟩, hk⟩
    | false =>
      refine wp_region_list (evs_sound hX hC (opsB_ok hb) (k := fun S' => k .norm (S'.tidy F.keep)) (r := r) ?_ ops.toList S β fp a w (opsB_ok hb) hs h)
      rintro a' w' ⟨S', ⟨β', fp', hs'⟩, hk⟩
      exact ⟨_, ⟨β', fp', hs'.tidy F.keep⟩, hk⟩
  | seq x y ihx ihy =>
    intro cur S a w k hb hs h
    simp only [codeB, Bool.and_eq_true] at hb
    refine wp_seq (Go.wp_mono (ihx cur S a w _ hb.1 hs h) ?_)
    rintro (_ | _ | _ | _ | _ | _) a' w' hp
    · obtain ⟨S', hs', hk⟩ := hp
      exact ihy cur S' a' w' k hb.2 hs' hk
    · exact hp
    · exact hp.elim
    · exact hp
    · exact hp.elim
    · exact hp.elim
  | cond c x y ihx ihy =>
    intro cur S a w k hb ⟨β, fp, hs⟩ h
    simp only [codeB, Bool.and_eq_true] at hb
    cases c with
    | tmp t =>
      simp only [run] at h
      split at h
      · rename_i b hb'
        have hv : a.tmps.getD t undef = .bool b := hs.env t _ hb'
        refine wp_cond_split (t := b) hv (fun e => ?_) (fun e => ?_)
        · subst e
          exact ihx cur _ a w k hb.1 ⟨β, fp, hs.drop' (some t)⟩ h
        · subst e
          exact ihy cur _ a w k hb.2 ⟨β, fp, hs.drop' (some t)⟩ h
      · cases h
    | _ => cases h
  | block id c ih =>
    intro cur S a w k hb hs h
    refine wp_block (Go.wp_mono (ih id S a w _ hb hs h) ?_)
    rintro (_ | _ | _ | _ | _ | _) a' w' hp
    · exact hp
    · rename_i j
      obtain ⟨S', hs', hk⟩ := hp
      simp only [blkK] at hk
      simp only [Exit.inBlock]
      by_cases e : j = id
      · subst e
        rw [if_pos rfl]
        rw [Nat.beq_refl] at hk
        exact ⟨S', hs', hk⟩
      · rw [if_neg e]
        have : Nat.beq j id = false := by
          cases hq : Nat.beq j id with
          | false => rfl
          | true => exact absurd (Nat.eq_of_beq_eq_true hq) e
        rw [this] at hk
        exact ⟨S', hs', hk⟩
    · exact hp.elim
    · exact hp
    · exact hp.elim
    · exact hp.elim
  | loop c ih =>
    intro cur S a w k hb ⟨β, fp, hs⟩ h
    obtain ⟨S1, hc, h⟩ := canThen_some h
    generalize F.ent cur S = ent at hc h
    have key : ∀ (n : Nat) (S : St C) (a : Act) (w : World), SimE X.K w0 nt S a w → iter (fun rec S => run X F c cur S (lopK rec k)) ent n S = some r → Code.rounds P c (post X.K w0 nt k r) n a w := by
      intro n
      induction n with
      | zero => intro S a w _ h; cases h
      | succ n ihn =>
        intro S a w hs h
        refine Go.wp_mono (ih cur S a w _ hb hs h) ?_
        rintro (_ | _ | _ | _ | _ | _) a' w' hp
        · obtain ⟨S', ⟨β', fp', hs'⟩, hk⟩ := hp
          obtain ⟨S2, hc2, h2⟩ := canThen_some hk
          exact ihn S2 a' w' (canon_sound hs' hc2) h2
        · exact hp
        · exact hp.elim
        · exact hp
        · exact hp.elim
        · exact hp.elim
    exact wp_loop_rounds F.N (key F.N S1 a w (canon_sound hs hc) h)
  | scope c ih =>
    intro cur S a w k hb hs h
    refine wp_scope_straight (Go.wp_mono (ih cur S a w k hb hs h) ?_)
    rintro (_ | _ | _ | _ | _ | _) a' w' hp
    · exact hp
    · exact hp
    · exact hp.elim
    · exact hp
    · exact hp.elim
    · exact hp.elim
  | _ =>
    intro cur S a w k _ hs h
    cases h
end
end Go.Proofs.YtjodpeldfebhfaaGreat.Ab

/- The abstract machine, part 21: a function. -/
set_option linter.unusedVariables false
set_option linter.unusedSimpArgs false
set_option linter.unusedSectionVars false
namespace Go.Proofs.YtjodpeldfebhfaaGreat.Ab
open Go Go.RowKit

section
variable {Ty : Type} [DecidableEq Ty] {C : Ty → Type}
variable {P : Program} {X : Cx C} {w0 w : World} {nt : Nat} {S : St C} {β : Nat → Value} {fp : Nat → Nat → Prop} {a : Act} {R : Type} {r : R}

def resG (tmps : Array Value) : ResultVar → Sem Value
  | .tmp t => pure (tmps.getD t undef)
  | .cell a t => do loadVar t (← asAddr (tmps.getD a undef))
theorem results_eq (fn : Func) (tmps : Array Value) : results fn tmps = (do
    let vs ← fn.results.toList.mapM (resG tmps)
    pure (match vs with
      | [v] => v
      | vs => .tuple vs.toArray)) := by
  have e : results fn tmps = (do
    let vs ← fn.results.mapM (resG tmps)
    pure (if h : vs.size = 1 then vs[0] else .tuple vs)) := by
    unfold results
    congr 1
  rw [e, Array.mapM_eq_mapM_toList]
  simp only [map_eq_pure_bind, bind_assoc, pure_bind]
  congr 1
  funext l
  congr 1
  match l with
  | [] => rfl
  | [v] => rfl
  | v :: v' :: r => simp

theorem resOf_ok (hX : XOk P X) (hs : Sim X.K w0 nt S β fp a w) : ∀ (l : List ResultVar) (rs : List (Bool × List (Lf C))), resOf X S l = some rs →
    ∃ us : List Value, okRes rs = true ∧ LfsOk X.K w S.objs β fp (stbOf S.objs fp w) (flatten rs) us ∧ (l.mapM (resG a.tmps)).run P w = .ok (packAll rs us) w := by
  intro l
  induction l with
  | nil =>
    intro rs h
    simp only [resOf, Option.some.injEq] at h
    subst h
    exact ⟨[], rfl, ⟨rfl, fun i l h => by simp [flatten] at h⟩, by simp [packAll]⟩
  | cons x l ih =>
    intro rs h
    have one : ∀ (c : Lf C) (rs' : List (Bool × List (Lf C))) (u : Value), resOf X S l = some rs' → rs = (false, [c]) :: rs' → LfOk X.K w S.objs β fp (stbOf S.objs fp w) c u → (resG a.tmps x).run P w = .ok u w →
        ∃ us : List Value, okRes rs = true ∧ LfsOk X.K w S.objs β fp (stbOf S.objs fp w) (flatten rs) us ∧ ((x :: l).mapM (resG a.tmps)).run P w = .ok (packAll rs us) w := by
      intro c rs' u hr e hu hrun
      subst e
      obtain ⟨us, h1, h2, h3⟩ := ih rs' hr
      refine ⟨u :: us, by simpa [okRes] using h1, ⟨by simp [flatten, h2.1], fun i l hi => ?_⟩, ?_⟩
      · cases i with
        | zero => simp [flatten] at hi; subst hi; exact hu
        | succ i => exact h2.2 i l (by simpa [flatten] using hi)
      · rw [List.mapM_cons]
        simp [hrun, h3, packAll, packOne]
    have many : ∀ (cs : List (Lf C)) (rs' : List (Bool × List (Lf C))) (us0 : List Value), resOf X S l = some rs' → rs = (true, cs) :: rs' → LfsOk X.K w S.objs β fp (stbOf S.objs fp w) cs us0 → (resG a.tmps x).run P w = .ok (.agg us0.toArray) w →
        ∃ us : List Value, okRes rs = true ∧ LfsOk X.K w S.objs β fp (stbOf S.objs fp w) (flatten rs) us ∧ ((x :: l).mapM (resG a.tmps)).run P w = .ok (packAll rs us) w := by
      intro cs rs' us0 hr e hu hrun
      subst e
      obtain ⟨us, h1, h2, h3⟩ := ih rs' hr
      refine ⟨us0 ++ us, by simpa [okRes] using h1, ⟨by simp [flatten, h2.1, hu.1], fun i l hi => ?_⟩, ?_⟩
      · simp only [flatten] at hi
        by_cases hlt : i < cs.length
        · rw [List.getElem?_append_left hlt] at hi
          have := hu.2 i l hi
          have e : (us0 ++ us).getD i undef = us0.getD i undef := by
            simp [List.getD, List.getElem?_append_left (by rw [hu.1]; exact hlt : i < us0.length)]
          rw [e]; exact this
        · have hge : cs.length ≤ i := Nat.le_of_not_lt hlt
          rw [List.getElem?_append_right hge] at hi
          have := h2.2 _ l hi
          have e : (us0 ++ us).getD i undef = us.getD (i - cs.length) undef := by
            simp [List.getD, List.getElem?_append_right (by rw [hu.1]; exact hge : us0.length ≤ i), hu.1]
          rw [e]; exact this
      · rw [List.mapM_cons]
        have e1 : (us0 ++ us).take cs.length = us0 := by rw [← hu.1]; simp
        have e2 : (us0 ++ us).drop cs.length = us := by rw [← hu.1]; simp
        simp [hrun, h3, packAll, packOne, e1, e2]
    cases x with
    | tmp t =>
      simp only [resOf] at h
      split at h
      · rename_i c hc
        split at h
        · rename_i rs' hr
          cases h
          exact one c rs' _ hr rfl (hs.env t _ hc) rfl
        · cases h
      · rename_i cs hc
        split at h
        · rename_i rs' hr
          cases h
          obtain ⟨us0, e, h0⟩ := hs.env t _ hc
          exact many cs rs' us0 hr rfl h0 (by simp [resG, e])
        · cases h
      · cases h
    | cell b t =>
      simp only [resOf] at h
      split at h
      · rename_i c tk hc ht
        obtain ⟨ls, p, hk, hv, hcell⟩ := cells_ok hs (hs.env b _ hc) h
        split at hk
        · rename_i c1 rs' hm hr
          cases hk
          obtain ⟨u, hu, hok⟩ := load_sv (hX.tk _ _ ht) hm hcell
          exact one c1 rs' u hr rfl hok (by simp [resG, hv, asAddr, hu])
        · rename_i c1 rs' hm hr
          cases hk
          obtain ⟨u, hu, us0, e, h0⟩ := load_sv (hX.tk _ _ ht) hm hcell
          subst e
          exact many c1 rs' us0 hr rfl h0 (by simp [resG, hv, asAddr, hu])
        · cases hk
      · cases h

theorem reshape_flat : ∀ (rs : List (Bool × List (Lf C))) (ls : List (Lf C)), ls.length = (flatten rs).length → flatten (reshape rs ls) = ls ∧ shape1 (reshape rs ls) = shape1 rs
  | [], ls, h => by
    simp [flatten] at h
    subst h
    exact ⟨rfl, rfl⟩
  | (b, l) :: r, ls, h => by
    simp only [flatten, List.length_append] at h
    obtain ⟨h1, h2⟩ := reshape_flat r (ls.drop l.length) (by simp; omega)
    refine ⟨by simp [reshape, flatten, h1], ?_⟩
    simp only [reshape, shape1, h2, List.cons.injEq, Prod.mk.injEq, true_and, and_true]
    simp; omega

theorem outs_ok (hs : Sim X.K w0 nt S β fp a w) {rs rs' : List (Bool × List (Lf C))} (ho : outs S rs = some rs') (hok : okRes rs = true) {us : List Value} (hl : LfsOk X.K w S.objs β fp (stbOf S.objs fp w) (flatten rs) us) :
    ResOk X.K w0 w rs' (pack rs us) := by
  unfold outs at ho
  split at ho
  · rename_i ls' S' ha
    cases ho
    obtain ⟨_, _, _, g3, G, g4, g5, g6⟩ := absorb_ok hs (flatten rs) us S.objs ls' S' false (fun _ _ h => h) ha hl
    obtain ⟨e1, e2⟩ := reshape_flat rs ls' g3
    refine ⟨us, G, (pack_congr e2).symm, by rw [e1, g3, hl.1], by rw [okRes_congr e2]; exact hok, fun m k hk => ?_, fun m m' k h1 h2 => g5 m m' k h1 h2, fun m l hm => ?_⟩
    · obtain ⟨id, ob, h1, h2, h3⟩ := g4 m k hk
      exact hs.fresh id ob k h1 h3
    · rw [e1] at hm
      exact (g6 m l hm).1 rfl
  · cases ho

theorem argEnv_lk : ∀ (vs : List (SV C)) (n t : Nat) (v : SV C), lk (argEnv n vs) t = some v → n ≤ t ∧ vs[t - n]? = some v
  | [], n, t, v, h => by simp [argEnv, lk] at h
  | x :: vs, n, t, v, h => by
    simp only [argEnv, lk_cons] at h
    by_cases e : t = n
    · subst e
      simp at h
      subst h
      exact ⟨Nat.le_refl _, by simp⟩
    · rw [if_neg e] at h
      obtain ⟨h1, h2⟩ := argEnv_lk vs (n + 1) t v h
      refine ⟨by omega, ?_⟩
      have e : t - n = (t - (n + 1)) + 1 := by omega
      rw [e]
      simpa using h2

theorem rep_lf' {K : Cd C} {objs : Objs C} {F : Nat → Prop} {l : Lf C} {u : Value} (h : Rep K w F l u) : LfOk K w objs β fp F l u := by
  cases h with
  | int => rfl
  | bool => rfl
  | str => rfl
  | fnc => rfl
  | row t xs A c a U h1 h2 h3 h4 => exact .row t xs A c a U h1 h2 h3 h4

theorem start_sim {K : Cd C} {vs : List (SV C)} {us : List Value} (hl : us.length = vs.length) (hn : vs.length ≤ nt)
    (ha : ∀ (i : Nat) (v : SV C), vs[i]? = some v → ArgOk K w (fun k => k < w.heap.size) v (us.getD i undef)) :
    SimE K w nt (start vs) { tmps := us.toArray ++ Array.replicate (nt - us.toArray.size) undef, defers := [] } w := by
  refine ⟨fun _ => undef, fun _ _ => False, Below.refl _ _, rfl, by simp; omega, fun id ob k h => by simp [start, lk] at h, fun id id' ob ob' k h => by simp [start, lk] at h, fun id ob h => by simp [start, lk] at h, fun t v h => ?_⟩
  obtain ⟨_, h⟩ := argEnv_lk vs 0 t v h
  simp only [Nat.sub_zero] at h
  have hlt : t < us.length := by
    rw [hl]
    rcases Nat.lt_or_ge t vs.length with h' | h'
    · exact h'
    · simp [List.getElem?_eq_none h'] at h
  have e : (us.toArray ++ Array.replicate (nt - us.toArray.size) undef).getD t undef = us.getD t undef := by
    simp [Array.getD_eq_getD_getElem?, Array.getElem?_append, hlt, List.getD]
  show SVOk K w _ _ _ _ v ((us.toArray ++ Array.replicate (nt - us.toArray.size) undef).getD t undef)
  rw [e]
  have hst : ∀ k, k < w.heap.size → stbOf (start vs).objs (fun _ _ => False) w k := fun k hk => ⟨hk, fun _ _ _ h => h⟩
  have := ha t v h
  cases v with
  | one l =>
    cases l with
    | elt t x o => obtain ⟨p, U, h1, h2, h3, h4⟩ := this; exact ⟨p, U, h1, hst _ h2, h3, fun i l hi => (h4 i l hi).mono hst⟩
    | _ => exact (show LfOk K w (start vs).objs (fun _ => undef) (fun _ _ => False) _ _ (us.getD t undef) from rep_lf' (this.2.mono hst))
  | agg ls =>
    obtain ⟨us', e, h1, h2⟩ := this
    exact ⟨us', e, h1, fun i l hi => rep_lf' ((h2 i l hi).mono hst)⟩
  | _ => exact this.elim

theorem fn_sound (hX : XOk P X) (hC : Cons P X) (hm : P.follows .mixedOrders = true) (F : Cf) {f : Nat} {fn : Func} {c : Code} (hf : P.funcs[f]? = some fn) (hb : fn.body = some c) (hB : codeB fn.ntmps c = true) {vs : List (SV C)} {us : List Value}
    (hl : us.length = vs.length) (hn : vs.length ≤ fn.ntmps) (ha : ∀ (i : Nat) (v : SV C), vs[i]? = some v → ArgOk X.K w (fun k => k < w.heap.size) v (us.getD i undef))
    {k : List (Bool × List (Lf C)) → Option R} (h : runFn X F fn vs k = some r) :
    Calls P f us.toArray w fun e w' => ∃ v, e = .returned v ∧ Below w.heap.size w w' ∧ ∃ rs, k rs = some r ∧ ResOk X.K w w' rs v := by
  unfold runFn at h
  rw [hb] at h
  refine calls_of_wp hf hb (Go.wp_mono (run_sound hX hC hm F c 0 _ _ w _ hB (start_sim hl hn ha) h) ?_)
  have fin : ∀ (a : Act) (w' : World) (S : St C), SimE X.K w fn.ntmps S a w' → (match resOf X S fn.results.toList with
      | some rs => match outs S rs with
        | some rs' => k rs'
        | none => none
      | none => none) = some r → a.defers = [] ∧ ∃ v, (results fn a.tmps).run P w' = .ok v w' ∧ ∃ v_1, Ending.returned v = .returned v_1 ∧ Below w.heap.size w w' ∧ ∃ rs, k rs = some r ∧ ResOk X.K w w' rs v_1 := by
    intro a w' S ⟨β, fp, hs⟩ h
    split at h
    · rename_i rs hr
      split at h
      · rename_i rs' ho
        obtain ⟨us', h1, h2, h3⟩ := resOf_ok hX hs _ rs hr
        refine ⟨hs.defers, pack rs us', ?_, _, rfl, hs.below, rs', h, outs_ok hs ho h1 h2⟩
        rw [results_eq]
        simp only [Sem.run_bind, h3, Result.andThen_ok]
        rfl
      · cases h
    · cases h
  rintro (_ | _ | _ | _ | _ | _) a' w' hp
  · obtain ⟨S', hs', hk⟩ := hp; exact fin a' w' S' hs' hk
  · obtain ⟨S', hs', hk⟩ := hp; cases hk
  · exact hp.elim
  · obtain ⟨S', hs', hk⟩ := hp; exact fin a' w' S' hs' hk
  · exact hp.elim
  · exact hp.elim

theorem con_of (hX : XOk P X) (hC : Cons P X) (hm : P.follows .mixedOrders = true) {f : Nat} {fn : Func} {c : Code} (hf : P.funcs[f]? = some fn) (hb : fn.body = some c) (hB : codeB fn.ntmps c = true) (hname : fn.name ≠ "runtime.NumGoroutine") (co : Con C)
    (h : ∀ vs r0, co.g vs = some r0 → vs.length ≤ fn.ntmps ∧ ∃ F : Cf, runFn X F fn vs some = some (co.ret r0)) : ConOk P X.K f co := by
  refine ⟨⟨fn, hf, by rw [hb]; rfl, hname⟩, fun w vs us r0 hl ha hg => ?_⟩
  obtain ⟨hn, F, hr⟩ := h vs r0 hg
  refine (fn_sound hX hC hm F hf hb hB hl hn ha hr).mono fun e w' ⟨v, he, hbel, rs, hk, hres⟩ => ⟨v, he, hbel, ?_⟩
  cases hk
  exact hres

/-- The same, the results told by what is read off them. -/
theorem con_dec (hX : XOk P X) (hC : Cons P X) (hm : P.follows .mixedOrders = true) {f : Nat} {fn : Func} {c : Code} (hf : P.funcs[f]? = some fn) (hb : fn.body = some c) (hB : codeB fn.ntmps c = true) (hname : fn.name ≠ "runtime.NumGoroutine") (co : Con C)
    (dec : List (Bool × List (Lf C)) → Option co.R0) (hd : ∀ rs r0, dec rs = some r0 → rs = co.ret r0)
    (h : ∀ vs r0, co.g vs = some r0 → vs.length ≤ fn.ntmps ∧ ∃ F : Cf, runFn X F fn vs dec = some r0) : ConOk P X.K f co := by
  refine ⟨⟨fn, hf, by rw [hb]; rfl, hname⟩, fun w vs us r0 hl ha hg => ?_⟩
  obtain ⟨hn, F, hr⟩ := h vs r0 hg
  refine (fn_sound hX hC hm F hf hb hB hl hn ha hr).mono fun e w' ⟨v, he, hbel, rs, hk, hres⟩ => ⟨v, he, hbel, ?_⟩
  rw [hd rs r0 hk] at hres
  exact hres

/-- Rounds of a shallow function. -/
def lpN {A : Type} (rnd : (A → Option R) → A → Option R) : Nat → A → Option R
  | 0, _ => none
  | n + 1, x => rnd (lpN rnd n) x
theorem iter_eq {A : Type} {f : (St C → Option R) → St C → Option R} {ent : List Nat} (st : A → St C) (rnd : (A → Option R) → A → Option R)
    (h : ∀ rec x, f (canThen ent rec) (st x) = rnd (fun x => rec (st x)) x) : ∀ n x, iter f ent n (st x) = lpN rnd n x
  | 0, _ => rfl
  | n + 1, x => by
    rw [iter, h, lpN]
    congr 1
    funext y
    exact iter_eq st rnd h n y
end
end Go.Proofs.YtjodpeldfebhfaaGreat.Ab

/- The abstract machine, part 27: facts of types, out of what the kernel can reckon. -/
set_option linter.unusedVariables false
set_option linter.unusedSimpArgs false
set_option linter.unusedSectionVars false
namespace Go.Proofs.YtjodpeldfebhfaaGreat.Ab
open Go Go.RowKit

section
variable {Ty : Type} [DecidableEq Ty] {C : Ty → Type}
variable {P : Program} {K : Cd C}

theorem tk_of {l : List (Nat × TK Ty)} (h : ∀ x, x ∈ l → TFact P K x.1 x.2) : ∀ T k, lk l T = some k → TFact P K T k := by
  induction l with
  | nil => intro T k h; simp [lk] at h
  | cons x l ih =>
    obtain ⟨m, k0⟩ := x
    intro T k hl
    rw [lk_cons] at hl
    split at hl
    · rename_i e
      cases hl
      subst e
      exact h (T, k0) (by simp)
    · exact ih (fun y hy => h y (by simp [hy])) T k hl

theorem tfact_one {T : TypeId} {z : ZL Ty} {d : TypeDesc} (h1 : (P.info? T).map (fun i => i.size) = some 1) (h2 : (P.info? T).bind (fun i => i.zero) = some z.val) (h3 : P.underlying T = some d) (h4 : z.desc K d) : TFact P K T (.one z) := by
  cases hi : P.info? T with
  | none => rw [hi] at h1; cases h1
  | some i =>
    rw [hi] at h1 h2
    exact ⟨⟨i, hi, by simpa using h1, h2⟩, d, h3, h4⟩

def fieldB (P : Program) (f : Field) (x : Nat × Nat × Bool) : Bool :=
  Nat.beq f.offset x.1 && (match P.info? f.type with
    | some i => Nat.beq i.size x.2.1
    | none => false) && Nat.ble 1 x.2.1 && (match P.underlying f.type with
    | some (.struct _) => x.2.2
    | some (.array ..) => x.2.2
    | some _ => !x.2.2
    | none => false)
def fieldsB (P : Program) : List Field → List (Nat × Nat × Bool) → Bool
  | [], [] => true
  | f :: l, x :: r => fieldB P f x && fieldsB P l r
  | _, _ => false
theorem fieldsB_ok : ∀ {l : List Field} {fs : List (Nat × Nat × Bool)}, fieldsB P l fs = true → l.length = fs.length ∧ ∀ (j : Nat) (x : Nat × Nat × Bool), fs[j]? = some x → ∃ f, l[j]? = some f ∧ fieldB P f x = true
  | [], [], _ => ⟨rfl, fun j x h => by simp at h⟩
  | [], _ :: _, h => by cases h
  | _ :: _, [], h => by cases h
  | f :: l, x :: r, h => by
    simp only [fieldsB, Bool.and_eq_true] at h
    obtain ⟨h1, h2⟩ := fieldsB_ok h.2
    refine ⟨by simp [h1], fun j y hj => ?_⟩
    cases j with
    | zero => simp at hj; subst hj; exact ⟨f, rfl, h.1⟩
    | succ j => exact h2 j y (by simpa using hj)
def structB (P : Program) (T : TypeId) (fs : List (Nat × Nat × Bool)) : Bool := match P.underlying T with
  | some (.struct fields) => fieldsB P fields.toList fs
  | _ => false
theorem tfact_agg {T : TypeId} {fs : List (Nat × Nat × Bool)} {zs : List (ZL Ty)} (h1 : (P.info? T).map (fun i => i.size) = some zs.length) (h2 : (P.info? T).bind (fun i => i.zero) = some (.agg (zs.map ZL.val).toArray))
    (h3 : structB P T fs = true) : TFact P K T (.agg fs zs) := by
  cases hi : P.info? T with
  | none => rw [hi] at h1; cases h1
  | some i =>
    rw [hi] at h1 h2
    refine ⟨⟨i, hi, by simpa using h1, h2⟩, ?_⟩
    unfold structB at h3
    split at h3
    · rename_i fields hu
      obtain ⟨g1, g2⟩ := fieldsB_ok h3
      refine ⟨fields, hu, by simpa using g1, fun j off n ag hj => ?_⟩
      obtain ⟨f, hf, hb⟩ := g2 j _ hj
      simp only [fieldB, Bool.and_eq_true] at hb
      obtain ⟨⟨⟨b1, b2⟩, b3⟩, b4⟩ := hb
      cases hfi : P.info? f.type with
      | none => rw [hfi] at b2; cases b2
      | some fi =>
        rw [hfi] at b2
        refine ⟨f, fi, by simpa using hf, Nat.eq_of_beq_eq_true b1, hfi, Nat.eq_of_beq_eq_true b2, Nat.le_of_ble_eq_true b3, ?_⟩
        cases hd : P.underlying f.type with
        | none => rw [hd] at b4; cases b4
        | some d =>
          rw [hd] at b4
          refine ⟨d, rfl, ?_⟩
          cases d <;> simp at b4 <;> simp [b4]
    · cases h3

theorem tfact_arr {T e : TypeId} {n sz : Nat} {ag : Bool} {zs : List (ZL Ty)} (h1 : (P.info? T).map (fun i => i.size) = some zs.length) (h2 : (P.info? T).bind (fun i => i.zero) = some (.agg (zs.map ZL.val).toArray))
    (h3 : (Nat.beq zs.length (n * sz) && Nat.ble 1 sz) = true) (h4 : P.underlying T = some (.array n e)) (h5 : (P.info? e).map (fun i => i.size) = some sz) (h6 : (P.underlying e).map (fun d => match d with | .struct _ | .array .. => true | _ => false) = some ag) : TFact P K T (.arr n sz ag zs) := by
  rw [Bool.and_eq_true] at h3
  cases hi : P.info? T with
  | none => rw [hi] at h1; cases h1
  | some i =>
    rw [hi] at h1 h2
    cases he : P.info? e with
    | none => rw [he] at h5; cases h5
    | some ie =>
      rw [he] at h5
      cases hd : P.underlying e with
      | none => rw [hd] at h6; cases h6
      | some d =>
        rw [hd] at h6
        refine ⟨⟨i, hi, by simpa using h1, h2⟩, Nat.eq_of_beq_eq_true h3.1, Nat.le_of_ble_eq_true h3.2, e, ie, h4, he, by simpa using h5, d, hd, ?_⟩
        simp only [Option.map_some, Option.some.injEq] at h6
        rw [← h6]
        cases d <;> rfl

def zvL : Lf C → Option Value
  | .int k n => some (.int k n)
  | .bool b => some (.bool b)
  | .str s => some (.string s)
  | .row _ [] => some (.slice none 0 0)
  | .fnc f => some (fnV f)
  | _ => none
theorem efact {t : Ty} {z : Value} (h1 : (P.info? (K.tid t)).map (fun i => (i.size, i.bytes)) = some (K.sz t, K.bytes t)) (h2 : 0 < K.bytes t) (h3 : (P.info? (K.tid t)).bind (fun i => i.zero) = some z)
    (h4 : (K.enc t (K.zero t)).map zvL = z.cells.toList.map some) : EFact P K t := by
  cases hi : P.info? (K.tid t) with
  | none => rw [hi] at h1; cases h1
  | some i =>
    rw [hi] at h1 h3
    simp only [Option.map_some, Option.some.injEq, Prod.mk.injEq] at h1
    have hlen : z.cells.size = K.sz t := by
      have := congrArg List.length h4
      simpa [K.enc_len] using this.symm
    refine ⟨i, z, hi, h1.1, h1.2, h2, h3, hlen, fun j l hj w base F => ?_⟩
    have hz : zvL l = some (z.cells.getD j undef) := by
      have := congrArg (fun x => x[j]?) h4
      simp only [List.getElem?_map, hj, Option.map_some] at this
      have hjl : j < z.cells.size := by
        have : j < (K.enc t (K.zero t)).length := by
          rcases Nat.lt_or_ge j (K.enc t (K.zero t)).length with h | h
          · exact h
          · simp [List.getElem?_eq_none h] at hj
        rw [hlen, ← K.enc_len t (K.zero t)]
        exact this
      rw [Array.getElem?_toList, Array.getElem?_eq_getElem hjl] at this
      rw [Array.getD_eq_getD_getElem?, Array.getElem?_eq_getElem hjl]
      simpa using this
    cases l with
    | int k n => simp only [zvL, Option.some.injEq] at hz; rw [← hz]; exact .int ..
    | bool b => simp only [zvL, Option.some.injEq] at hz; rw [← hz]; exact .bool ..
    | str s => simp only [zvL, Option.some.injEq] at hz; rw [← hz]; exact .str ..
    | fnc f => simp only [zvL, Option.some.injEq] at hz; rw [← hz]; exact .fnc ..
    | row t' xs =>
      cases xs with
      | nil =>
        simp only [zvL, Option.some.injEq] at hz
        rw [← hz]
        exact .row _ t' [] _ [] (fun _ _ _ => False) (World.ownsRow_nil ..) (fun g hg => by simp [Value.ownBlock] at hg) (fun _ _ _ h => h.elim) (fun _ _ _ _ _ h => h.elim) (fun j hj => absurd hj (by simp))
      | cons x xs => simp [zvL] at hz
    | _ => simp [zvL] at hz

/-! ### Words for what gen.py prints -/
def codeAt : Code → List Nat → Code
  | .seq a _, 0 :: r => codeAt a r
  | .seq _ b, 1 :: r => codeAt b r
  | .block _ c, _ :: r => codeAt c r
  | .loop c, _ :: r => codeAt c r
  | .scope c, _ :: r => codeAt c r
  | .cond _ a _, 0 :: r => codeAt a r
  | .cond _ _ b, 1 :: r => codeAt b r
  | c, _ => c
def bodyOf (f : Func) : Code := match f.body with
  | some c => c
  | none => .skip
def kTop {R : Type} (X : Cx C) (fn : Func) (k : List (Bool × List (Lf C)) → Option R) (e : Ex) (S : St C) : Option R := match e with
  | .exit _ => none
  | _ => match resOf X S fn.results.toList with
    | some rs => match outs S rs with
      | some rs' => k rs'
      | none => none
    | none => none
theorem runFn_eq {R : Type} {X : Cx C} {F : Cf} {fn : Func} {c : Code} (hb : fn.body = some c) (vs : List (SV C)) (k : List (Bool × List (Lf C)) → Option R) :
    runFn X F fn vs k = run X F (bodyOf fn) 0 (start vs) (kTop X fn k) := by
  unfold runFn bodyOf
  rw [hb]
  congr 1
end
end Go.Proofs.YtjodpeldfebhfaaGreat.Ab

/- The abstract machine: facts of types of functions, interfaces, maps; of methods: out of what the kernel can reckon. -/
set_option linter.unusedVariables false
set_option linter.unusedSimpArgs false
set_option linter.unusedSectionVars false
namespace Go.Proofs.YtjodpeldfebhfaaGreat.Ab
open Go Go.RowKit

section
variable {Ty : Type} [DecidableEq Ty] {C : Ty → Type}
variable {P : Program} {K : Cd C} {w : World}

def isFn : Option TypeDesc → Bool
  | some (.func ..) => true
  | _ => false
def isIf : Option TypeDesc → Bool
  | some (.interface _) => true
  | _ => false
def isMp : Option TypeDesc → Bool
  | some (.map ..) => true
  | _ => false
theorem tfact_fnc {T : TypeId} (h1 : (P.info? T).map (fun i => i.size) = some 1) (h2 : (P.info? T).bind (fun i => i.zero) = some .nilFunc) (h3 : isFn (P.underlying T) = true) : TFact P K T (.one .fnc) := by
  cases h : P.underlying T with
  | none => rw [h] at h3; cases h3
  | some d =>
    rw [h] at h3
    cases d with
    | func p r v => exact tfact_one h1 h2 h ⟨p, r, v, rfl⟩
    | _ => cases h3
theorem tfact_ifc {T : TypeId} (h1 : (P.info? T).map (fun i => i.size) = some 1) (h2 : (P.info? T).bind (fun i => i.zero) = some .nilIface) (h3 : isIf (P.underlying T) = true) : TFact P K T (.one (.nk .ifc)) := by
  cases h : P.underlying T with
  | none => rw [h] at h3; cases h3
  | some d =>
    rw [h] at h3
    cases d with
    | interface ms => exact tfact_one h1 h2 h ⟨ms, rfl⟩
    | _ => cases h3
theorem tfact_map {T : TypeId} (h1 : (P.info? T).map (fun i => i.size) = some 1) (h2 : (P.info? T).bind (fun i => i.zero) = some (.map none)) (h3 : isMp (P.underlying T) = true) : TFact P K T (.one (.nk .map)) := by
  cases h : P.underlying T with
  | none => rw [h] at h3; cases h3
  | some d =>
    rw [h] at h3
    cases d with
    | map p r => exact tfact_one h1 h2 h ⟨p, r, rfl⟩
    | _ => cases h3

/-! ### Maps -/
theorem ba_beq (a b : ByteArray) : (a == b) = decide (a = b) := by
  obtain ⟨x⟩ := a
  obtain ⟨y⟩ := b
  show (x == y) = _
  rw [Bool.eq_iff_iff]
  simp
theorem chk_int {b : Bool} {n : Nat} {t : TypeId} {k : IntKind} (h : P.underlying t = some (.int k)) (v : Value) : (Instr.checkKey b (n + 1) t v).run P w = .ok () w := by
  simp [Instr.checkKey, run_under h]
theorem chk_str {b : Bool} {n : Nat} {t : TypeId} (h : P.underlying t = some .string) (v : Value) : (Instr.checkKey b (n + 1) t v).run P w = .ok () w := by
  simp [Instr.checkKey, run_under h]
theorem find_now {fl : MK} {kt vt : Ty} {kid : TypeId} {d : TypeDesc} (hd : P.underlying kid = some d) (hs : ∀ x y, Instr.sameNow d (keyV K fl kt x) (keyV K fl kt y) = some (keysEq (K.enc kt y) (K.enc kt x))) (x : C kt) (xs : List (Nat × C kt × C vt)) :
    (Instr.findKey kid (keyV K fl kt x) (xs.map (entV K fl kt vt))).run P w = .ok (mfind K fl kt vt x xs 0) w := by
  have key : ∀ (xs : List (Nat × C kt × C vt)) (i : Nat), Instr.findNow d (keyV K fl kt x) (xs.map (entV K fl kt vt)) i = some (mfind K fl kt vt x xs i) := by
    intro xs
    induction xs with
    | nil => intro i; rfl
    | cons e r ih =>
      intro i
      have h1 : Instr.sameNow d (keyV K fl kt x) (entV K fl kt vt e).key = some (keysEq (K.enc kt e.2.1) (K.enc kt x)) := hs x e.2.1
      simp only [List.map_cons, Instr.findNow, h1, mfind]
      cases keysEq (K.enc kt e.2.1) (K.enc kt x) with
      | true => rfl
      | false => exact ih (i + 1)
  unfold Instr.findKey
  simp only [Sem.run_bind, run_under hd, Result.andThen_ok, key]
  rfl
/-- A map whose keys are whole numbers. -/
theorem mfact_int {T kid eid : TypeId} {m : MT Ty} {k : IntKind} (hu : P.underlying T = some (.map kid eid)) (hk : P.underlying kid = some (.int k)) (henc : ∀ x, ∃ n, K.enc m.kt x = [Lf.int k n]) (hag : m.fl.kag = false)
    (fk : K.flat m.kt = true) (fv : K.flat m.vt = true) (hz : (P.info? eid).bind (fun i => i.zero) = some (valV K m.fl m.vt (K.zero m.vt))) (h1 : m.fl.vag = false → m.fl.un = false → K.sz m.vt = 1) : MFact P K T m := by
  refine ⟨kid, eid, hu, fk, fv, fun w => ?_, fun b x w => chk_int hk _, fun x xs w => find_now hk (fun x y => ?_) x xs, h1, fun x y h => ?_⟩
  · cases hi : P.info? eid with
    | none => rw [hi] at hz; cases hz
    | some i =>
      rw [hi] at hz
      have hz' : i.zero = some (valV K m.fl m.vt (K.zero m.vt)) := hz
      simp [zeroValue, typeInfo, hi, hz']
  · obtain ⟨n, hn⟩ := henc x
    obtain ⟨n', hn'⟩ := henc y
    simp only [keyV, mkV, hag, hn, hn', cond_false, List.map_cons, List.map_nil, plainV, List.headD_cons, Instr.sameNow, keysEq, keyEq, if_true]
    congr 1
    rw [Bool.eq_iff_iff]
    simp only [beq_iff_eq, decide_eq_true_eq]
    exact ⟨fun e => e.symm, fun e => e.symm⟩
  · obtain ⟨n, hn⟩ := henc x
    obtain ⟨n', hn'⟩ := henc y
    rw [hn, hn'] at h
    have e : n' = n := by simpa [keysEq, keyEq] using h
    subst e
    simp [keyV, mkV, hag, hn, hn', plainV, Instr.sameBits]
/-- A map whose keys are texts. -/
theorem mfact_str {T kid eid : TypeId} {m : MT Ty} (hu : P.underlying T = some (.map kid eid)) (hk : P.underlying kid = some .string) (henc : ∀ x, ∃ n, K.enc m.kt x = [Lf.str n]) (hag : m.fl.kag = false)
    (fk : K.flat m.kt = true) (fv : K.flat m.vt = true) (hz : (P.info? eid).bind (fun i => i.zero) = some (valV K m.fl m.vt (K.zero m.vt))) (h1 : m.fl.vag = false → m.fl.un = false → K.sz m.vt = 1) : MFact P K T m := by
  refine ⟨kid, eid, hu, fk, fv, fun w => ?_, fun b x w => chk_str hk _, fun x xs w => find_now hk (fun x y => ?_) x xs, h1, fun x y h => ?_⟩
  · cases hi : P.info? eid with
    | none => rw [hi] at hz; cases hz
    | some i =>
      rw [hi] at hz
      have hz' : i.zero = some (valV K m.fl m.vt (K.zero m.vt)) := hz
      simp [zeroValue, typeInfo, hi, hz']
  · obtain ⟨n, hn⟩ := henc x
    obtain ⟨n', hn'⟩ := henc y
    simp only [keyV, mkV, hag, hn, hn', cond_false, List.map_cons, List.map_nil, plainV, List.headD_cons, Instr.sameNow, keysEq, keyEq]
    congr 1
    rw [ba_beq, Bool.eq_iff_iff]
    simp only [decide_eq_true_eq]
    exact ⟨fun e => e.symm, fun e => e.symm⟩
  · obtain ⟨n, hn⟩ := henc x
    obtain ⟨n', hn'⟩ := henc y
    rw [hn, hn'] at h
    have e : n' = n := by simpa [keysEq, keyEq] using h
    subst e
    simp [keyV, mkV, hag, hn, hn', plainV, Instr.sameBits, ba_beq]
theorem mp_of {l : List (Nat × MT Ty)} (h : ∀ x, x ∈ l → MFact P K x.1 x.2) : ∀ T m, lk l T = some m → MFact P K T m := by
  induction l with
  | nil => intro T m hm; cases hm
  | cons x l ih =>
    intro T m hm
    obtain ⟨n, v⟩ := x
    rw [lk_cons] at hm
    split at hm
    · rename_i e; cases hm; subst e; exact h (T, m) (by simp)
    · exact ih (fun y hy => h y (by simp [hy])) T m hm

def allK (P : Program) (K : Cd C) : List (Nat × TK Ty) → Prop
  | [] => True
  | x :: r => TFact P K x.1 x.2 ∧ allK P K r
theorem tk_all : ∀ {l : List (Nat × TK Ty)}, allK P K l → ∀ T k, lk l T = some k → TFact P K T k
  | [], _, T, k, h => by cases h
  | (n, v) :: l, ha, T, k, h => by
    rw [lk_cons] at h
    split at h
    · rename_i e; cases h; subst e; exact ha.1
    · exact tk_all ha.2 T k h
/-! ### Methods -/
def lkS : List (Nat × String × Nat) → Nat → String → Option Nat
  | [], _, _ => none
  | (T, s, f) :: r, U, t => cond (Nat.beq U T && decide (t = s)) (some f) (lkS r U t)
def isPtr : Option TypeDesc → Bool
  | some (.pointer _) => true
  | some _ => false
  | none => true
def methB (P : Program) (x : Nat × String × Nat) : Bool := match P.info? x.1 with
  | some i => match i.methods.find? (·.name == x.2.1) with
    | some m => m.path.isEmpty && (match m.func with
      | some (g, false) => Nat.beq g x.2.2 && !isPtr (P.underlying x.1)
      | some (g, true) => Nat.beq g x.2.2 && (P.underlying x.1).isSome && isPtr (P.underlying x.1)
      | none => false)
    | none => false
  | none => false
theorem meth_one {x : Nat × String × Nat} (h : methB P x = true) (n : Nat) (v : Value) (w : World) : (method (n + 1) x.1 v x.2.1).run P w = .ok (x.2.2, v) w := by
  obtain ⟨T, s, f⟩ := x
  unfold methB at h
  simp only at h
  split at h
  case h_2 => cases h
  rename_i i hi
  split at h
  case h_2 => cases h
  rename_i m hm
  simp only [Bool.and_eq_true] at h
  obtain ⟨h1, h2⟩ := h
  have hp : m.path = #[] := by simpa using h1
  have hi' : (typeInfo T).run P w = .ok i w := by simp [typeInfo, hi]
  have hf : (follow m.path.toList T (.val v)).run P w = .ok (T, .val v) w := by rw [hp]; rfl
  unfold method
  simp only [Sem.run_bind, hi', Result.andThen_ok, hm, hf]
  split at h2
  · rename_i g hg
    simp only [Bool.and_eq_true] at h2
    have e := Nat.eq_of_beq_eq_true h2.1
    subst e
    rw [hg]
    cases hd : P.underlying T with
    | none => rw [hd] at h2; cases h2.2
    | some d =>
      have : (receiverAt T (.val v) false (if m.path.isEmpty = true then some ((s.splitOn ".").getLastD s) else none)).run P w = .ok v w := by
        unfold receiverAt
        simp only [Sem.run_bind, run_under hd, Result.andThen_ok]
        rw [hd] at h2
        cases d <;> first | rfl | cases h2.2
      simp only [Sem.run_bind, this, Result.andThen_ok]
      rfl
  · rename_i g hg
    simp only [Bool.and_eq_true] at h2
    have e := Nat.eq_of_beq_eq_true h2.1.1
    subst e
    rw [hg]
    cases hd : P.underlying T with
    | none => rw [hd] at h2; cases h2.1.2
    | some d =>
      have : (receiverAt T (.val v) true (if m.path.isEmpty = true then some ((s.splitOn ".").getLastD s) else none)).run P w = .ok v w := by
        unfold receiverAt
        simp only [Sem.run_bind, run_under hd, Result.andThen_ok]
        rw [hd] at h2
        cases d <;> first | rfl | cases h2.2
      simp only [Sem.run_bind, this, Result.andThen_ok]
      rfl
  · cases h2
theorem meth_of {l : List (Nat × String × Nat)} (h : l.all (methB P) = true) : ∀ T name f, lkS l T name = some f → ∀ v w, (method (P.types.size + Made.depth) T v name).run P w = .ok (f, v) w := by
  intro T name f hf v w
  have hd : 0 < Made.depth := by decide
  have hn : ∃ n, P.types.size + Made.depth = n + 1 := ⟨P.types.size + Made.depth - 1, by omega⟩
  obtain ⟨n, hn⟩ := hn
  rw [hn]
  clear hn
  induction l with
  | nil => cases hf
  | cons x l ih =>
    simp only [List.all_cons, Bool.and_eq_true] at h
    obtain ⟨T', s, f'⟩ := x
    simp only [lkS] at hf
    cases hb : Nat.beq T T' && decide (name = s) with
    | true =>
      rw [hb] at hf
      cases hf
      simp only [Bool.and_eq_true, decide_eq_true_eq] at hb
      have e := Nat.eq_of_beq_eq_true hb.1
      obtain ⟨_, rfl⟩ := hb
      subst e
      exact meth_one h.1 n v w
    | false => rw [hb] at hf; exact ih h.2 hf
end
end Go.Proofs.YtjodpeldfebhfaaGreat.Ab

/- The abstract machine: functions that write through what they are handed, part 4: their contracts. -/
set_option linter.unusedVariables false
set_option linter.unusedSimpArgs false
set_option linter.unusedSectionVars false
namespace Go.Proofs.YtjodpeldfebhfaaGreat.Ab
open Go Go.RowKit

section
variable {Ty : Type} [DecidableEq Ty] {C : Ty → Type}
variable {P : Program} {X : Cx C} {w0 w : World} {nt : Nat} {S : St C} {β : Nat → Value} {fp : Nat → Nat → Prop} {a : Act} {R : Type} {r : R}

section
variable {K : Cd C} {kp : Nat → Prop} {kh : Nat → Option Obj} {hd : Nat → Value}
theorem cons_gh (h : Cons P X) : Cons P (X.gh kp kh hd) := ⟨fun f c hc => con_gh (h.1 f c hc), fun f c hc => conw_gh (h.2.1 f c hc), fun f I hI => inl_gh (h.2.2 f I hI)⟩
end

def GB : Nat := 90000
def A0 : Nat := 50000000
def sv1 : Bool × List (Lf C) → SV C
  | (false, l :: _) => .one l
  | (_, ls) => .agg ls
def hdrs : Nat → List (Lf C) → List (Nat × SV C)
  | _, [] => []
  | m, .row _ _ :: r => (GB + 1 + m, .hdr (A0 + m) m) :: hdrs (m + 1) r
  | m, _ :: r => hdrs (m + 1) r
def startW (rs : List (Bool × List (Lf C))) : St C := { env := argEnv 0 ((internAll A0 rs).1.map sv1) ++ (GB, .frame) :: hdrs 0 (flatten rs), objs := (internAll A0 rs).2, base := 0 }
def isRow : Lf C → Bool
  | .row _ _ => true
  | _ => false
def roots (S : St C) : Nat → List Bool → Option (List (Lf C))
  | _, [] => some []
  | m, true :: r => match lk S.env (GB + 1 + m) with
    | some (.hdr id j) => cond (Nat.beq j m) (match roots S (m + 1) r with
      | some l => some (.ref id [] :: l)
      | none => none) none
    | _ => none
  | m, false :: r => roots S (m + 1) r
def kTopW (X : Cx C) (fn : Func) (mask : List Bool) (dec : List (Lf C) → List (Bool × List (Lf C)) → Option R) (e : Ex) (S : St C) : Option R := match e with
  | .exit _ => none
  | _ => match lk S.env GB with
    | some .frame => match resOf X S fn.results.toList, roots S 0 mask with
      | some rs', some rt => match absorb S (rt ++ flatten rs') with
        | some (ls', _, false) => dec (ls'.take rt.length) (reshape rs' (ls'.drop rt.length))
        | _ => none
      | _, _ => none
    | _ => none
noncomputable def runFnW (X : Cx C) (F : Cf) (fn : Func) (rs : List (Bool × List (Lf C))) (dec : List (Lf C) → List (Bool × List (Lf C)) → Option R) : Option R := run X F (bodyOf fn) 0 (startW rs) (kTopW X fn ((flatten rs).map isRow) dec)

theorem hdrs_lk : ∀ {ls : List (Lf C)} {m t : Nat} {v : SV C}, lk (hdrs m ls) t = some v → ∃ i t' xs, ls[i]? = some (.row t' xs) ∧ v = .hdr (A0 + (m + i)) (m + i)
  | [], m, t, v, h => by simp [hdrs, lk] at h
  | l :: ls, m, t, v, h => by
    have up : lk (hdrs (m + 1) ls) t = some v → ∃ i t' xs, (l :: ls)[i]? = some (.row t' xs) ∧ v = .hdr (A0 + (m + i)) (m + i) := fun h => by
      obtain ⟨i, t', xs, h1, h2⟩ := hdrs_lk h
      exact ⟨i + 1, t', xs, by simpa using h1, by rw [h2]; congr 1 <;> omega⟩
    cases l with
    | row t' xs =>
      simp only [hdrs, lk_cons] at h
      split at h
      · cases h; exact ⟨0, t', xs, rfl, rfl⟩
      · exact up h
    | _ => exact up h

theorem startW_sim {K : Cd C} {rs : List (Bool × List (Lf C))} {uls : List Value} {G : Nat → Nat → Prop} (hb0 : Below w0.heap.size w0 w) (hok : okRes rs = true) (hul : uls.length = (flatten rs).length) (hn : rs.length ≤ nt)
    (hfr : ∀ m k, G m k → w0.heap.size ≤ k ∧ k < w.heap.size) (hdj : ∀ m m' k, G m k → G m' k → m = m') (hleaf : ∀ (m : Nat) (l : Lf C), (flatten rs)[m]? = some l → l.plain = true ∧ Own K w w0.heap.size (G m) l (uls.getD m undef))
    (hkp : ∀ k, K.kp (2 * k) → k < w.heap.size ∧ ∀ m, ¬ G m k) (hkh : ∀ k, K.kh k = w.heap[k]?) (hhd : ∀ m, K.hd m = uls.getD m undef) :
    Sim K w0 nt (startW rs) (fun id => uls.getD (id - A0) undef) (fun id => G (id - A0)) { tmps := (packAll rs uls).toArray ++ Array.replicate (nt - (packAll rs uls).toArray.size) undef, defers := [] } w := by
  have hsh := shape_intern rs A0
  have hobj : ∀ id ob, lk (internAll A0 rs).2 id = some ob → ∃ m t xs, id = A0 + m ∧ (flatten rs)[m]? = some (.row t xs) ∧ ob = .row t xs false := fun id ob h => all_lk _ _ _ _ h
  have hlfs : LfsOk K w (startW rs).objs (fun id => uls.getD (id - A0) undef) (fun id => G (id - A0)) (stbOf (startW rs).objs (fun id => G (id - A0)) w) (flatten (internAll A0 rs).1) uls := by
    refine ⟨by rw [hul, flatten_len hsh], fun m l hm => ?_⟩
    rcases all_get rs A0 m l hm with ⟨t, xs, q1, q2, q3⟩ | ⟨q1, q2⟩
    · subst q2
      refine ⟨(hleaf m _ q1).2.one, ?_⟩
      simp
    · exact own_lf (hleaf m l q1).2 q2
  obtain ⟨hpl, hpk⟩ := packAll_ok (by rw [okRes_congr hsh]; exact hok) hlfs
  rw [packAll_congr hsh] at hpl hpk
  have hlen : (internAll A0 rs).1.length = rs.length := by
    have : ∀ (rs : List (Bool × List (Lf C))) (n : Nat), (internAll n rs).1.length = rs.length := by
      intro rs
      induction rs with
      | nil => intro n; rfl
      | cons x r ih => intro n; obtain ⟨b, ls⟩ := x; simp [internAll, ih]
    exact this rs A0
  refine ⟨hb0, rfl, by simp; omega, fun id ob k h hk => hfr _ k hk, fun id id' ob ob' k h h' hk hk' => ?_, fun id ob h => ?_, fun t v h => ?_⟩
  · obtain ⟨m, _, _, e, _⟩ := hobj id ob h
    obtain ⟨m', _, _, e', _⟩ := hobj id' ob' h'
    have := hdj _ _ k hk hk'
    omega
  · obtain ⟨m, t, xs, e, h1, h2⟩ := hobj id ob h
    subst h2
    have e' : id - A0 = m := by omega
    show Own K w w0.heap.size (G (id - A0)) (.row t xs) (uls.getD (id - A0) undef)
    rw [e']
    exact (hleaf m _ h1).2
  · have h' : lk (argEnv 0 ((internAll A0 rs).1.map sv1) ++ (GB, .frame) :: hdrs 0 (flatten rs)) t = some v := h
    rw [lk_append] at h'
    cases e1 : lk (argEnv 0 ((internAll A0 rs).1.map sv1)) t with
    | some v' =>
      rw [e1] at h'
      cases h'
      obtain ⟨_, e2⟩ := argEnv_lk _ 0 t _ e1
      simp only [Nat.sub_zero, List.getElem?_map] at e2
      cases e3 : (internAll A0 rs).1[t]? with
      | none => rw [e3] at e2; cases e2
      | some x =>
        rw [e3] at e2
        simp only [Option.map_some, Option.some.injEq] at e2
        subst e2
        have hlt : t < (packAll rs uls).length := by rw [hpl]; exact idx_lt e3
        have e4 : ((packAll rs uls).toArray ++ Array.replicate (nt - (packAll rs uls).toArray.size) undef).getD t undef = (packAll rs uls).getD t undef := by
          simp [Array.getD_eq_getD_getElem?, Array.getElem?_append, hlt, List.getD]
        show SVOk K w _ _ _ _ (sv1 x) (((packAll rs uls).toArray ++ Array.replicate (nt - (packAll rs uls).toArray.size) undef).getD t undef)
        rw [e4]
        have := hpk t x e3
        obtain ⟨b, ls⟩ := x
        cases b with
        | false => obtain ⟨l, e, h1⟩ := this; subst e; exact h1
        | true => exact this
    | none =>
      rw [e1] at h'
      simp only [lk_cons] at h'
      split at h'
      · cases h'
        intro k hk
        obtain ⟨h1, h2⟩ := hkp k hk
        exact ⟨⟨h1, fun id ob _ => h2 _⟩, (hkh k).symm⟩
      · obtain ⟨i, t', xs, h1, h2⟩ := hdrs_lk h'
        subst h2
        have e : A0 + (0 + i) - A0 = 0 + i := Nat.add_sub_cancel_left ..
        have e2 : uls.getD (A0 + (0 + i) - A0) undef = K.hd (0 + i) := by rw [e, hhd]
        exact e2

theorem roots_ok {K : Cd C} (hs : Sim K w0 nt S β fp a w) : ∀ {ls : List (Lf C)} {us : List Value} {m : Nat} {rt : List (Lf C)}, roots S m (ls.map isRow) = some rt → us.length = ls.length → (∀ (i : Nat) (l : Lf C), ls[i]? = some l → us.getD i undef = K.hd (m + i) ∧ (us.getD i undef).oneCell' = true) →
    LfsOk K w S.objs β fp (stbOf S.objs fp w) rt (rowsOf ls us)
  | [], us, m, rt, h, hl, _ => by
    simp only [List.map_nil, roots, Option.some.injEq] at h
    subst h
    cases us <;> exact ⟨rfl, fun i l h => by simp at h⟩
  | l :: ls, us, m, rt, h, hl, hu => by
    obtain ⟨u, us, rfl⟩ : ∃ u us', us = u :: us' := by
      cases us with
      | nil => simp at hl
      | cons u us => exact ⟨u, us, rfl⟩
    have hl' : us.length = ls.length := by simpa using hl
    have hu' : ∀ (i : Nat) (l : Lf C), ls[i]? = some l → us.getD i undef = K.hd (m + 1 + i) ∧ (us.getD i undef).oneCell' = true := fun i l hi => by
      have := hu (i + 1) l (by simpa using hi)
      rw [show m + 1 + i = m + (i + 1) by omega]
      simpa using this
    cases l with
    | row t xs =>
      simp only [List.map_cons, isRow, roots] at h
      split at h
      · rename_i id j hj
        obtain ⟨hb, h⟩ := cond_some h
        have hb := Nat.eq_of_beq_eq_true hb
        subst hb
        split at h
        · rename_i rt' hr
          cases h
          have ih := roots_ok hs hr hl' hu'
          obtain ⟨h1, h2⟩ := hu 0 _ rfl
          have hβ : β id = K.hd j := hs.env _ _ hj
          refine ⟨by simp [rowsOf, ih.1], fun i l hi => ?_⟩
          cases i with
          | zero => simp at hi; subst hi; exact ⟨h2, by rw [hβ]; simpa [rowsOf] using h1⟩
          | succ i => simpa [rowsOf] using ih.2 i l (by simpa using hi)
        · cases h
      · cases h
    | _ => exact roots_ok (ls := ls) hs h hl' hu'

theorem conw_of (hX : XOk P X) (hC : Cons P X) (hm : P.follows .mixedOrders = true) {f : Nat} {fn : Func} {c : Code} (hf : P.funcs[f]? = some fn) (hb : fn.body = some c) (hB : codeB fn.ntmps c = true) (hname : fn.name ≠ "runtime.NumGoroutine") (co : ConW C)
    (dec : List (Lf C) → List (Bool × List (Lf C)) → Option co.R0) (hd : ∀ os rs r0, dec os rs = some r0 → os = co.out r0 ∧ rs = co.ret r0)
    (h : ∀ rs r0, co.g rs = some r0 → rs.length ≤ fn.ntmps ∧ ∃ F : Cf, ∀ kp kh hd, runFnW (X.gh kp kh hd) F fn rs dec = some r0) : ConWOk P X.K f co := by
  refine ⟨⟨fn, hf, by rw [hb]; rfl, hname⟩, fun w0 w rs uls r0 G hb0 hok hul hfrG hdjG hleaf hg => ?_⟩
  obtain ⟨hn, F, hr⟩ := h rs r0 hg
  let kp : Nat → Prop := fun k => k / 2 < w.heap.size ∧ ∀ m, ¬ G m (k / 2)
  have hkp2 : ∀ k, kp (2 * k) ↔ (k < w.heap.size ∧ ∀ m, ¬ G m k) := fun k => by
    have e : 2 * k / 2 = k := by omega
    simp only [kp, e]
  let kh : Nat → Option Obj := fun k => w.heap[k]?
  let hh : Nat → Value := fun m => uls.getD m undef
  have hr := hr kp kh hh
  have hsim := startW_sim (K := X.K.gh kp kh hh) (nt := fn.ntmps) hb0 hok hul hn hfrG hdjG (fun m l hm => ⟨(hleaf m l hm).1, own_gh (hleaf m l hm).2⟩) (fun k hk => (hkp2 k).1 hk) (fun k => rfl) (fun m => rfl)
  unfold runFnW at hr
  have hbody : bodyOf fn = c := by unfold bodyOf; rw [hb]
  rw [hbody] at hr
  refine calls_of_wp hf hb (Go.wp_mono (run_sound (xok_gh hX) (cons_gh hC) hm F c 0 _ _ w _ hB ⟨_, _, hsim⟩ hr) ?_)
  have fin : ∀ (a : Act) (w' : World) (S' : St C) (e : Ex), SimE (X.gh kp kh hh).K w0 fn.ntmps S' a w' → (e = .norm ∨ e = .ret) → kTopW (X.gh kp kh hh) fn ((flatten rs).map isRow) dec e S' = some r0 →
      a.defers = [] ∧ ∃ v, (results fn a.tmps).run P w' = .ok v w' ∧ ∃ v_1, Ending.returned v = .returned v_1 ∧ Below w0.heap.size w0 w' ∧ (∀ k, k < w.heap.size → (∀ m, ¬ G m k) → k < w'.heap.size ∧ w'.heap[k]? = w.heap[k]?) ∧
      ∃ (rls : List Value) (G' : Nat → Nat → Prop), v_1 = pack (co.ret r0) rls ∧ rls.length = (flatten (co.ret r0)).length ∧ okRes (co.ret r0) = true ∧ (co.out r0).length = (rowsOf (flatten rs) uls).length ∧
        (∀ m k, G' m k → ((∃ m0, G m0 k) ∨ w.heap.size ≤ k) ∧ w0.heap.size ≤ k ∧ k < w'.heap.size) ∧ (∀ m m' k, G' m k → G' m' k → m = m') ∧
        ∀ (m : Nat) (l : Lf C), (co.out r0 ++ flatten (co.ret r0))[m]? = some l → Own X.K w' w0.heap.size (G' m) l ((rowsOf (flatten rs) uls ++ rls).getD m undef) := by
    intro a w' S' e ⟨β', fp', hs'⟩ he h
    have h : (match lk S'.env GB with
      | some .frame => match resOf (X.gh kp kh hh) S' fn.results.toList, roots S' 0 ((flatten rs).map isRow) with
        | some rs', some rt => match absorb S' (rt ++ flatten rs') with
          | some (ls', _, false) => dec (ls'.take rt.length) (reshape rs' (ls'.drop rt.length))
          | _ => none
        | _, _ => none
      | _ => none) = some r0 := by
      rcases he with he | he <;> subst he <;> exact h
    split at h
    case h_2 => cases h
    rename_i hfrm
    split at h
    case h_2 => cases h
    rename_i rs' rt hres hroot
    split at h
    case h_2 => cases h
    rename_i ls' S1 habs
    obtain ⟨us', h1, h2, h3⟩ := resOf_ok (xok_gh hX) hs' _ rs' hres
    have hrt := roots_ok (us := uls) hs' hroot hul (fun i l hi => ⟨by rw [Nat.zero_add]; rfl, (hleaf i l hi).2.one⟩)
    have hall : LfsOk (X.gh kp kh hh).K w' S'.objs β' fp' (stbOf S'.objs fp' w') (rt ++ flatten rs') (rowsOf (flatten rs) uls ++ us') := by
      refine ⟨by simp [hrt.1, h2.1], fun i l hi => ?_⟩
      rcases cat_get hi with ⟨hj, hx⟩ | ⟨hj, hx⟩
      · have := hrt.2 i l hx
        have e : (rowsOf (flatten rs) uls ++ us').getD i undef = (rowsOf (flatten rs) uls).getD i undef := by simp [List.getD, List.getElem?_append_left (by rw [hrt.1]; exact hj : i < (rowsOf (flatten rs) uls).length)]
        rw [e]; exact this
      · have := h2.2 _ l hx
        have e : (rowsOf (flatten rs) uls ++ us').getD i undef = us'.getD (i - rt.length) undef := by
          simp only [List.getD]
          rw [List.getElem?_append_right (by rw [hrt.1]; exact hj), hrt.1]
        rw [e]; exact this
    obtain ⟨_, _, _, g3, G', g4, g5, g6⟩ := absorb_ok hs' (rt ++ flatten rs') _ S'.objs ls' S1 false (fun _ _ h => h) habs hall
    obtain ⟨ho, hret⟩ := hd _ _ _ h
    have hlen : ls'.length = rt.length + (flatten rs').length := by rw [g3]; simp
    obtain ⟨e1, e2⟩ := reshape_flat rs' (ls'.drop rt.length) (by simp [hlen])
    have hsplit : ls' = co.out r0 ++ flatten (co.ret r0) := by rw [← ho, ← hret, e1, List.take_append_drop]
    have hfr : ∀ k, kp (2 * k) → stbOf S'.objs fp' w' k ∧ w'.heap[k]? = w.heap[k]? := fun k hk => hs'.env GB _ hfrm k hk
    refine ⟨hs'.defers, pack rs' us', ?_, _, rfl, hs'.below, fun k h1 h2 => ⟨(hfr k ((hkp2 k).2 ⟨h1, h2⟩)).1.1, (hfr k ((hkp2 k).2 ⟨h1, h2⟩)).2⟩, us', G', ?_, ?_, ?_, ?_, fun m k hk => ?_, fun m m' k h1 h2 => g5 m m' k h1 h2, fun m l hm => ?_⟩
    · rw [results_eq]
      simp only [Sem.run_bind, h3, Result.andThen_ok]
      rfl
    · rw [← hret]; exact (pack_congr e2).symm
    · rw [← hret, e1]; simp [hlen, h2.1]
    · rw [← hret, okRes_congr e2]; exact h1
    · rw [← ho, hrt.1]; simp [hlen]
    · obtain ⟨id, ob, q1, q2, q3⟩ := g4 m k hk
      refine ⟨?_, hs'.fresh id ob k q1 q3⟩
      by_cases hc : ∃ m0, G m0 k
      · exact .inl hc
      · right
        rcases Nat.lt_or_ge k w.heap.size with hlt | hge
        · exact absurd q3 ((hfr k ((hkp2 k).2 ⟨hlt, fun m hm => hc ⟨m, hm⟩⟩)).1.2 id ob q1)
        · exact hge
    · rw [← hsplit] at hm
      exact own_hg ((g6 m l hm).1 rfl)
  rintro (_ | _ | _ | _ | _ | _) a' w' hp
  · obtain ⟨S', hs', hk⟩ := hp; exact fin a' w' S' .norm hs' (.inl rfl) hk
  · obtain ⟨S', hs', hk⟩ := hp; cases hk
  · exact hp.elim
  · obtain ⟨S', hs', hk⟩ := hp; exact fin a' w' S' .ret hs' (.inr rfl) hk
  · exact hp.elim
  · exact hp.elim
end
end Go.Proofs.YtjodpeldfebhfaaGreat.Ab

/- The abstract machine: a function whose code is run in place: what it owes. -/
set_option linter.unusedVariables false
set_option linter.unusedSimpArgs false
set_option linter.unusedSectionVars false
namespace Go.Proofs.YtjodpeldfebhfaaGreat.Ab
open Go Go.RowKit

section
variable {Ty : Type} [DecidableEq Ty] {C : Ty → Type}
variable {P : Program} {X : Cx C} {K : Cd C} {w0 w : World} {nt : Nat} {S : St C} {β : Nat → Value} {fp : Nat → Nat → Prop} {a : Act} {R : Type} {r : R} {objs : Objs C} {stb : Nat → Prop}

theorem ghost_any {v : SV C} {u u' : Value} (hv : (∃ x j, v = .sus x j) ∨ (∃ id j, v = .hdr id j) ∨ v = .frame) (h : SVOk K w objs β fp stb v u) : SVOk K w objs β fp stb v u' := by
  rcases hv with ⟨x, j, rfl⟩ | ⟨id, j, rfl⟩ | rfl <;> exact h

theorem inl_of (hX : XOk P X) (hC : Cons P X) (hm : P.follows .mixedOrders = true) (F : Cf) {f : Nat} {fn : Func} {c : Code} (hf : P.funcs[f]? = some fn) (hb : fn.body = some c) (hB : codeB fn.ntmps c = true) (hname : fn.name ≠ "runtime.NumGoroutine") : InlOk P X.K f (inlOf X F fn) := by
  refine ⟨⟨fn, hf, by rw [hb]; rfl, hname⟩, fun kp kh hd w0 w S β fp vs us R k r hs hkey hul hv h => ?_⟩
  unfold inlOf at h
  simp only [hb] at h
  obtain ⟨hn, h⟩ := cond_some h
  simp only [Bool.and_eq_true] at hn
  have hn1 := Nat.le_of_ble_eq_true hn.1
  have hn2 := Nat.le_of_ble_eq_true hn.2
  rw [← run_gh (kp := kp) (kh := kh) (hd := hd)] at h
  have hsim : Sim (X.gh kp kh hd).K w0 fn.ntmps { env := argEnv 0 vs ++ S.env, objs := S.objs, base := S.base } β fp { tmps := us.toArray ++ Array.replicate (fn.ntmps - us.toArray.size) undef, defers := [] } w := by
    refine ⟨hs.below, rfl, by simp; omega, hs.fresh, hs.disj, hs.objs, fun t v ht => ?_⟩
    have ht' : lk (argEnv 0 vs ++ S.env) t = some v := ht
    rw [lk_append] at ht'
    cases e1 : lk (argEnv 0 vs) t with
    | some v' =>
      rw [e1] at ht'
      cases ht'
      obtain ⟨_, e2⟩ := argEnv_lk _ 0 t _ e1
      simp only [Nat.sub_zero] at e2
      have hlt : t < us.length := by rw [hul]; exact idx_lt e2
      have e4 : (us.toArray ++ Array.replicate (fn.ntmps - us.toArray.size) undef).getD t undef = us.getD t undef := by
        simp [Array.getD_eq_getD_getElem?, Array.getElem?_append, hlt, List.getD]
      show SVOk _ w _ _ _ _ v ((us.toArray ++ Array.replicate (fn.ntmps - us.toArray.size) undef).getD t undef)
      rw [e4]
      exact hv t v e2
    | none =>
      rw [e1] at ht'
      have hge := hkey t v ht'
      have e4 : (us.toArray ++ Array.replicate (fn.ntmps - us.toArray.size) undef).getD t undef = undef := by
        rw [Array.getD_eq_getD_getElem?, Array.getElem?_eq_none (by simp; omega)]
        rfl
      show SVOk _ w _ _ _ _ v ((us.toArray ++ Array.replicate (fn.ntmps - us.toArray.size) undef).getD t undef)
      rw [e4]
      have := hs.env t v ht'
      have e5 : noAct.tmps.getD t undef = undef := by simp [noAct, Array.getD_eq_getD_getElem?]
      rw [e5] at this
      exact this
  refine calls_of_wp hf hb (Go.wp_mono (run_sound (xok_gh hX) (cons_gh hC) hm F c 0 _ _ w _ hB ⟨_, _, hsim⟩ h) ?_)
  have fin : ∀ (a : Act) (w' : World) (S' : St C) (e : Ex), SimE (X.gh kp kh hd).K w0 fn.ntmps S' a w' → (e = .norm ∨ e = .ret) → (match e with
      | .exit _ => none
      | _ => match resOf X S' fn.results.toList with
        | some rs => k rs { S' with env := ghostsE S'.env }
        | none => none) = some r →
      a.defers = [] ∧ ∃ v, (results fn a.tmps).run P w' = .ok v w' ∧ ∃ (v_1 : Value) (rs : List (Bool × List (Lf C))) (rls : List Value) (S' : St C) (β' : Nat → Value) (fp' : Nat → Nat → Prop), Ending.returned v = .returned v_1 ∧ v_1 = pack rs rls ∧ okRes rs = true ∧ k rs S' = some r ∧
      Sim (X.K.gh kp kh hd) w0 0 S' β' fp' noAct w' ∧ LfsOk (X.K.gh kp kh hd) w' S'.objs β' fp' (stbOf S'.objs fp' w') (flatten rs) rls := by
    intro a w' S' e ⟨β', fp', hs'⟩ he h
    have h : (match resOf X S' fn.results.toList with
        | some rs => k rs { S' with env := ghostsE S'.env }
        | none => none) = some r := by
      rcases he with he | he <;> subst he <;> exact h
    split at h
    case h_2 => cases h
    rename_i rs hres
    rw [← resOf_gh (kp := kp) (kh := kh) (hd := hd)] at hres
    obtain ⟨us', h1, h2, h3⟩ := resOf_ok (xok_gh hX) hs' _ rs hres
    refine ⟨hs'.defers, pack rs us', ?_, _, rs, us', { S' with env := ghostsE S'.env }, β', fp', rfl, rfl, h1, h, ⟨hs'.below, rfl, rfl, hs'.fresh, hs'.disj, hs'.objs, fun t v ht => ?_⟩, h2⟩
    · rw [results_eq]
      simp only [Sem.run_bind, h3, Result.andThen_ok]
      rfl
    · obtain ⟨q1, q2⟩ := ghostsE_lk ht
      exact ghost_any q2 (hs'.env t v q1)
  rintro (_ | _ | _ | _ | _ | _) a' w' hp
  · obtain ⟨S', hs', hk⟩ := hp; exact fin a' w' S' .norm hs' (.inl rfl) hk
  · obtain ⟨S', hs', hk⟩ := hp; cases hk
  · exact hp.elim
  · obtain ⟨S', hs', hk⟩ := hp; exact fin a' w' S' .ret hs' (.inr rfl) hk
  · exact hp.elim
  · exact hp.elim
end
end Go.Proofs.YtjodpeldfebhfaaGreat.Ab

/- The abstract machine: names for what comes behind a call in place. -/
set_option linter.unusedVariables false
namespace Go.Proofs.YtjodpeldfebhfaaGreat.Ab
open Go Go.RowKit

section
variable {Ty : Type} {C : Ty → Type} {R : Type}
def opsOf : Code → Array Oper
  | .region _ ops _ => ops
  | _ => #[]
def regK (F : Cf) (k : Ex → St C → Option R) (S : St C) : Option R := forceS (S.tidy F.keep) fun S2 => k .norm S2
def callK (b : Nat) (d : Option Tmp) (k : St C → Option R) (rs : List (Bool × List (Lf C))) (S : St C) : Option R := match toSV rs with
  | some v => k ((resu b S).put d v)
  | none => none
def inlK (X : Cx C) (fn : Func) (k : List (Bool × List (Lf C)) → St C → Option R) (e : Ex) (S : St C) : Option R := match e with
  | .exit _ => none
  | _ => match resOf X S fn.results.toList with
    | some rs => k rs { S with env := ghostsE S.env }
    | none => none
noncomputable def restK [DecidableEq Ty] (X : Cx C) (c : Code) (j : Nat) (k : St C → Option R) (S : St C) : Option R := evs X (opsOf c) ((opsOf c).toList.drop j) S k
def allI (P : Program) (K : Cd C) : List (Nat × Inl C) → Prop
  | [] => True
  | (f, c) :: r => InlOk P K f c ∧ allI P K r
def lkA {α : Type 1} : List (Nat × α) → Nat → Option α
  | [], _ => none
  | (m, v) :: r, n => cond (Nat.beq n m) (some v) (lkA r n)
theorem lkI_ok {P : Program} {K : Cd C} : ∀ {l : List (Nat × Inl C)}, allI P K l → ∀ f c, lkA l f = some c → InlOk P K f c
  | [], _, f, c, h => by cases h
  | (m, v) :: r, ha, f, c, h => by
    simp only [lkA] at h
    cases hb : Nat.beq f m with
    | true => rw [hb] at h; cases h; have := Nat.eq_of_beq_eq_true hb; subst this; exact ha.1
    | false => rw [hb] at h; exact lkI_ok ha.2 f c h
end
end Go.Proofs.YtjodpeldfebhfaaGreat.Ab

/- The abstract machine: a function told by a summary: what it does to the things that it reaches, by their numbers. -/
set_option linter.unusedVariables false
set_option linter.unusedSimpArgs false
set_option linter.unusedSectionVars false
namespace Go.Proofs.YtjodpeldfebhfaaGreat.Ab
open Go Go.RowKit

section
variable {Ty : Type} [DecidableEq Ty] {C : Ty → Type}
variable {P : Program} {X : Cx C} {K : Cd C} {w0 w : World} {nt : Nat} {S : St C} {β : Nat → Value} {fp : Nat → Nat → Prop} {a : Act} {R : Type} {r : R} {objs : Objs C} {stb : Nat → Prop}

def GID : Nat := 77777777
/-- ids: the things that it reaches; out: these behind the call, as canon lays them. -/
structure Sum (C : Ty → Type) where
  ids : List Nat
  roots : List (Lf C)
  rowIds : List Nat
  R0 : Type
  g : List (SV C) → List (Nat × Ob C) → Option R0
  out : R0 → List (Nat × Ob C)
  ret : R0 → List (Bool × List (Lf C))
def pickO (O : Objs C) : List Nat → Option (Objs C)
  | [] => some []
  | id :: r => match lk O id with
    | some ob => match pickO O r with
      | some l => some ((id, ob) :: l)
      | none => none
    | none => none
def rootsO : Objs C → List (Lf C)
  | [] => []
  | (id, .box .mem _) :: r => .ptr id 0 :: rootsO r
  | (id, .box (.clo ..) _) :: r => .vo id :: rootsO r
  | (id, .box (.ifc ..) _) :: r => .vo id :: rootsO r
  | (id, .map ..) :: r => .vo id :: rootsO r
  | _ :: r => rootsO r
def rowsO : Objs C → List Nat
  | [] => []
  | (id, .row ..) :: r => id :: rowsO r
  | _ :: r => rowsO r
def noGh : Objs C → Bool
  | [] => true
  | (_, .ghost) :: _ => false
  | _ :: r => noGh r
def simpleL : Lf C → Bool
  | .int .. => true
  | .bool _ => true
  | .str _ => true
  | .fnc _ => true
  | _ => false
def sumInl (c : Sum C) : Inl C := ⟨fun R vs S k => match pickO S.objs c.ids with
  | some O => cond (apartN c.rowIds (idsE0 S.env ++ idsO (rmAll c.ids S.objs)) && vs.all okV) (Option.bind (c.g vs O) fun r => k (c.ret r) { S with objs := c.out r ++ rmAll c.ids S.objs }) none
  | none => none⟩
def startS (c : Sum C) (vs : List (SV C)) (O : Objs C) : St C := { env := argEnv 0 vs ++ [(GB, .frame), (GB + 1, .sus (true, c.roots) 0)], objs := (GID, .ghost) :: O, base := 0 }
def kTopS {R : Type} (X : Cx C) (fn : Func) (dec : Objs C → List (Lf C) → List (Bool × List (Lf C)) → Option R) (e : Ex) (S : St C) : Option R := match e with
  | .exit _ => none
  | _ => match resOf X S fn.results.toList, S.canon [] with
    | some rs, some S' => match lk S'.env GB, lk S'.env (GB + 1) with
      | some .frame, some (.sus (true, ls) j) => cond (Nat.beq j 0) (dec S'.objs ls rs) none
      | _, _ => none
    | _, _ => none
noncomputable def runFnS {R : Type} (X : Cx C) (F : Cf) (fn : Func) (c : Sum C) (vs : List (SV C)) (O : Objs C) (dec : Objs C → List (Lf C) → List (Bool × List (Lf C)) → Option R) : Option R := run X F (bodyOf fn) 0 (startS c vs O) (kTopS X fn dec)
/-- What is asked of a summary. -/
structure SumFit (c : Sum C) (vs : List (SV C)) (O : Objs C) (r : c.R0) : Prop where
  roots : rootsO O = c.roots
  rows : rowsO O = c.rowIds
  gh : noGh O = true
  gh' : noGh (c.out r) = true
  keys : ∀ id, id ∈ keysO (c.out r) → id ∈ c.ids
  rows' : ∀ id, id ∈ rowsO (c.out r) → id ∈ c.rowIds
  closed : ∀ id, id ∈ idsO (c.out r) → id ∈ c.ids
  nogid : GID ∉ c.ids
  simple : ∀ l, l ∈ flatten (c.ret r) → simpleL l = true

theorem pickO_mem : ∀ {l : List Nat} {O' O : Objs C}, pickO O' l = some O → (∀ id ob, lk O id = some ob ↔ id ∈ l ∧ lk O' id = some ob) ∧ (∀ x, x ∈ O → lk O' x.1 = some x.2) ∧ keysO O = l
  | [], O', O, h => by simp only [pickO, Option.some.injEq] at h; subst h; exact ⟨fun id ob => by simp [lk], fun x hx => (by cases hx), rfl⟩
  | id :: l, O', O, h => by
    simp only [pickO] at h
    split at h
    · rename_i ob ho
      split at h
      · rename_i l' hl
        cases h
        obtain ⟨h1, h2, h3⟩ := pickO_mem hl
        refine ⟨fun i ob' => ?_, fun x hx => ?_, by simpa [keysO] using h3⟩
        · rw [lk_cons]
          by_cases e : i = id
          · subst e
            rw [if_pos rfl, ho]
            simp
          · rw [if_neg e, h1]
            simp [e]
        · rcases List.mem_cons.1 hx with e | hx
          · subst e; exact ho
          · exact h2 x hx
      · cases h
    · cases h
theorem rootsO_mem : ∀ {O : Objs C} {l : Lf C}, l ∈ rootsO O → ∃ id ob, (id, ob) ∈ O ∧ ((l = .ptr id 0 ∧ ∃ ls, ob = .box .mem ls) ∨ (l = .vo id ∧ ((∃ f n sh ls, ob = .box (.clo f n sh) ls) ∨ (∃ t sh ls, ob = .box (.ifc t sh) ls) ∨ ∃ mk kt vt xs c, ob = .map mk kt vt xs c)))
  | [], l, h => by cases h
  | (id, ob) :: O, l, h => by
    have up : l ∈ rootsO O → ∃ i o, (i, o) ∈ (id, ob) :: O ∧ ((l = .ptr i 0 ∧ ∃ ls, o = .box .mem ls) ∨ (l = .vo i ∧ ((∃ f n sh ls, o = .box (.clo f n sh) ls) ∨ (∃ t sh ls, o = .box (.ifc t sh) ls) ∨ ∃ mk kt vt xs c, o = .map mk kt vt xs c))) := fun h => by
      obtain ⟨i, o, h1, h2⟩ := rootsO_mem h
      exact ⟨i, o, List.mem_cons_of_mem _ h1, h2⟩
    cases ob with
    | box kd ls => cases kd with
      | mem =>
        rcases List.mem_cons.1 (show l ∈ .ptr id 0 :: rootsO O from h) with e | h
        · exact ⟨id, _, List.mem_cons_self, .inl ⟨e, ls, rfl⟩⟩
        · exact up h
      | clo f n sh =>
        rcases List.mem_cons.1 (show l ∈ .vo id :: rootsO O from h) with e | h
        · exact ⟨id, _, List.mem_cons_self, .inr ⟨e, .inl ⟨f, n, sh, ls, rfl⟩⟩⟩
        · exact up h
      | ifc t sh =>
        rcases List.mem_cons.1 (show l ∈ .vo id :: rootsO O from h) with e | h
        · exact ⟨id, _, List.mem_cons_self, .inr ⟨e, .inr (.inl ⟨t, sh, ls, rfl⟩)⟩⟩
        · exact up h
    | map mk kt vt xs c =>
      rcases List.mem_cons.1 (show l ∈ .vo id :: rootsO O from h) with e | h
      · exact ⟨id, _, List.mem_cons_self, .inr ⟨e, .inr (.inr ⟨mk, kt, vt, xs, c, rfl⟩)⟩⟩
      · exact up h
    | row t xs sh => exact up h
    | ghost => exact up h
theorem rootsO_of : ∀ {O : Objs C} {id : Nat} {ob : Ob C}, (id, ob) ∈ O → noGh O = true → id ∉ rowsO O → (.ptr id 0 ∈ rootsO O) ∨ (Lf.vo id ∈ rootsO O)
  | [], id, ob, h, _, _ => by cases h
  | (i, o) :: O, id, ob, h, hg, hr => by
    have step : (id, ob) ∈ O → noGh O = true → id ∉ rowsO O → (Lf.ptr id 0 ∈ rootsO O) ∨ (Lf.vo id ∈ rootsO O) := fun h hg hr => rootsO_of h hg hr
    rcases List.mem_cons.1 h with e | h1
    · cases e
      cases o with
      | box kd ls => cases kd with
        | mem => exact .inl List.mem_cons_self
        | clo f n sh => exact .inr List.mem_cons_self
        | ifc t sh => exact .inr List.mem_cons_self
      | map mk kt vt xs c => exact .inr List.mem_cons_self
      | row t xs sh => exact absurd List.mem_cons_self hr
      | ghost => cases hg
    · cases o with
      | box kd ls => cases kd with
        | mem => exact (step h1 hg hr).imp (List.mem_cons_of_mem _) (List.mem_cons_of_mem _)
        | clo f n sh => exact (step h1 hg hr).imp (List.mem_cons_of_mem _) (List.mem_cons_of_mem _)
        | ifc t sh => exact (step h1 hg hr).imp (List.mem_cons_of_mem _) (List.mem_cons_of_mem _)
      | map mk kt vt xs c => exact (step h1 hg hr).imp (List.mem_cons_of_mem _) (List.mem_cons_of_mem _)
      | row t xs sh => exact step h1 hg fun hm => hr (List.mem_cons_of_mem _ hm)
      | ghost => cases hg
theorem rowsO_lk : ∀ {O : Objs C} {id : Nat} {t : Ty} {xs : List (C t)} {sh : Bool}, lk O id = some (.row t xs sh) → id ∈ rowsO O
  | [], id, t, xs, sh, h => by cases h
  | (i, o) :: O, id, t, xs, sh, h => by
    rw [lk_cons] at h
    split at h
    · rename_i e; cases h; subst e; exact List.mem_cons_self
    · have := rowsO_lk h
      cases o with
      | row => exact List.mem_cons_of_mem _ this
      | box kd ls => exact this
      | map => exact this
      | ghost => exact this
theorem noGh_lk : ∀ {O : Objs C} {id : Nat}, noGh O = true → lk O id ≠ some .ghost
  | [], id, _, h => by cases h
  | (i, o) :: O, id, hg, h => by
    rw [lk_cons] at h
    split at h
    · cases h; cases hg
    · cases o with
      | ghost => cases hg
      | row => exact noGh_lk (show noGh O = true from hg) h
      | box kd ls => exact noGh_lk (show noGh O = true from hg) h
      | map => exact noGh_lk (show noGh O = true from hg) h
theorem lk_keys' {O : Objs C} {id : Nat} {ob : Ob C} (h : lk O id = some ob) : id ∈ keysO O := List.mem_map.2 ⟨(id, ob), lk_mem h, rfl⟩
theorem apartN_ok' {l m : List Nat} (h : apartN l m = true) : ∀ i, i ∈ l → i ∉ m := fun i hi hm => by
  have := List.all_eq_true.1 h i hi
  simp only [Bool.not_eq_true'] at this
  exact beq_any this hm
theorem simple_any {l : Lf C} (hs : simpleL l = true) {w w' : World} {K K' : Cd C} {objs objs' : Objs C} {β β' : Nat → Value} {fp fp' : Nat → Nat → Prop} {stb stb' : Nat → Prop} {v : Value} (h : LfOk K w objs β fp stb l v) : LfOk K' w' objs' β' fp' stb' l v := by
  cases l <;> first | exact h | cases hs
theorem ob_gh' {kp : Nat → Prop} {kh : Nat → Option Obj} {hd : Nat → Value} {base : Nat} {F : Nat → Prop} {ob : Ob C} {v : Value} (hne : ob ≠ .ghost) (h : ObOk K w base objs β fp stb F ob v) : ObOk (K.gh kp kh hd) w base objs β fp stb F ob v := by
  cases ob with
  | ghost => exact absurd rfl hne
  | box kd ls => cases kd with
    | mem => obtain ⟨b, cs, e, h1, h2, h3, h4⟩ := h; exact ⟨b, cs, e, h1, h2, h3, lfs_gh h4⟩
    | clo f n sh => obtain ⟨us, h1, h2, h3⟩ := h; exact ⟨us, h1, h2, lfs_gh h3⟩
    | ifc t sh => obtain ⟨us, h1, h2, h3⟩ := h; exact ⟨us, h1, h2, lfs_gh h3⟩
  | map mk kt vt xs c => exact h
  | row t xs sh => cases sh with
    | false => exact own_gh h
    | true => obtain ⟨cells, h1, h2, h3⟩ := h; exact ⟨cells, h1, h2, fun j x hx i l hl => rep_gh (h3 j x hx i l hl)⟩
theorem kTopS_gh {R : Type} {kp : Nat → Prop} {kh : Nat → Option Obj} {hd : Nat → Value} {fn : Func} {dec : Objs C → List (Lf C) → List (Bool × List (Lf C)) → Option R} {e : Ex} {S : St C} : kTopS (X.gh kp kh hd) fn dec e S = kTopS X fn dec e S := by
  unfold kTopS
  cases e <;> simp only [resOf_gh]

section
variable {kp : Nat → Prop} {kh : Nat → Option Obj} {hd : Nat → Value} {c : Sum C} {O : Objs C} {vs : List (SV C)} {us : List Value} {r0 : c.R0}
/-- The blocks of all other things. -/
def others (S : St C) (fp : Nat → Nat → Prop) (ids : List Nat) (k : Nat) : Prop := ∃ id ob, lk S.objs id = some ob ∧ id ∉ ids ∧ fp id k
def kpS (S : St C) (fp : Nat → Nat → Prop) (w : World) (ids : List Nat) (n : Nat) : Prop := (n % 2 = 0 ∧ stbOf S.objs fp w (n / 2)) ∨ (n % 2 = 1 ∧ others S fp ids (n / 2))
def fpS (S : St C) (fp : Nat → Nat → Prop) (ids : List Nat) (id k : Nat) : Prop := (id = GID ∧ others S fp ids k) ∨ (id ≠ GID ∧ fp id k)
def rootV (β : Nat → Value) : Lf C → Value
  | .ptr id _ => β id
  | .vo id => β id
  | _ => undef
theorem kpS_even {ids : List Nat} {k : Nat} : kpS S fp w ids (2 * k) ↔ stbOf S.objs fp w k := by
  have e1 : 2 * k % 2 = 0 := by omega
  have e2 : 2 * k / 2 = k := by omega
  simp [kpS, e1, e2]
theorem kpS_odd {ids : List Nat} {k : Nat} : kpS S fp w ids (2 * k + 1) ↔ others S fp ids k := by
  have e1 : (2 * k + 1) % 2 = 1 := by omega
  have e2 : (2 * k + 1) / 2 = k := by omega
  simp [kpS, e1, e2]
theorem fpS_gid {ids : List Nat} {k : Nat} : fpS S fp ids GID k ↔ others S fp ids k := by simp [fpS]
theorem fpS_ne {ids : List Nat} {id : Nat} (h : id ≠ GID) : fpS S fp ids id = fp id := by funext k; simp [fpS, h]

theorem stb_small (hp : ∀ id ob, lk O id = some ob ↔ id ∈ c.ids ∧ lk S.objs id = some ob) (hg : GID ∉ c.ids) {k : Nat} : stbOf ((GID, .ghost) :: O) (fpS S fp c.ids) w k ↔ stbOf S.objs fp w k := by
  constructor
  · refine fun h => ⟨h.1, fun id ob hi hf => ?_⟩
    by_cases hm : id ∈ c.ids
    · have hne : id ≠ GID := fun e => hg (e ▸ hm)
      refine h.2 id ob ?_ (by rw [fpS_ne hne]; exact hf)
      rw [lk_cons, if_neg hne]
      exact (hp id ob).2 ⟨hm, hi⟩
    · exact h.2 GID .ghost (by rw [lk_cons, if_pos rfl]) (fpS_gid.2 ⟨id, ob, hi, hm, hf⟩)
  · refine fun h => ⟨h.1, fun id ob hi hf => ?_⟩
    rw [lk_cons] at hi
    split at hi
    · rename_i e
      subst e
      obtain ⟨i, o, h1, _, h3⟩ := fpS_gid.1 hf
      exact h.2 i o h1 h3
    · rename_i e
      rw [fpS_ne e] at hf
      exact h.2 id ob ((hp id ob).1 hi).2 hf

theorem start_small (hs : Sim (K.gh kp kh hd) w0 0 S β fp noAct w) (hp : ∀ id ob, lk O id = some ob ↔ id ∈ c.ids ∧ lk S.objs id = some ob) (hmem : ∀ x, x ∈ O → lk S.objs x.1 = some x.2) (hfit : SumFit c vs O r0)
    (hul : us.length = vs.length) (hn : vs.length ≤ nt) (hnt : nt ≤ 1000) (hok : vs.all okV = true)
    (hv : ∀ (i : Nat) (v : SV C), vs[i]? = some v → SVOk (K.gh kp kh hd) w S.objs β fp (stbOf S.objs fp w) v (us.getD i undef)) :
    Sim (K.gh (kpS S fp w c.ids) (fun k => w.heap[k]?) (fun _ => .agg (c.roots.map (rootV β)).toArray)) w0 nt (startS c vs O) β (fpS S fp c.ids) { tmps := us.toArray ++ Array.replicate (nt - us.toArray.size) undef, defers := [] } w := by
  have hst : ∀ k, stbOf S.objs fp w k → stbOf ((GID, Ob.ghost) :: O) (fpS S fp c.ids) w k ∧ w.heap[k]? = w.heap[k]? := fun k hk => ⟨(stb_small hp hfit.nogid).2 hk, rfl⟩
  have hkeep : ∀ i, Keeps w w S.objs ((GID, Ob.ghost) :: O) β β fp (fpS S fp c.ids) i := fun i => by
    refine ⟨rfl, fun t xs sh ho => ?_⟩
    rw [lk_cons] at ho
    split at ho
    · cases ho
    · rename_i e
      exact ⟨((hp i _).1 ho).2, fun k hk => ⟨by rw [fpS_ne e]; exact hk, rfl⟩⟩
  refine ⟨hs.below, rfl, by simp; omega, fun id ob k ho hk => ?_, fun i j oi oj k hi hj hki hkj => ?_, fun id ob ho => ?_, fun t v ht => ?_⟩
  · have ho' : lk ((GID, Ob.ghost) :: O) id = some ob := ho
    rw [lk_cons] at ho'
    split at ho'
    · rename_i e
      subst e
      obtain ⟨i, o, h1, _, h3⟩ := fpS_gid.1 hk
      exact hs.fresh i o k h1 h3
    · rename_i e
      rw [fpS_ne e] at hk
      exact hs.fresh id ob k ((hp id ob).1 ho').2 hk
  · have hi' : lk ((GID, Ob.ghost) :: O) i = some oi := hi
    have hj' : lk ((GID, Ob.ghost) :: O) j = some oj := hj
    rw [lk_cons] at hi' hj'
    by_cases ei : i = GID <;> by_cases ej : j = GID
    · rw [ei, ej]
    · rw [if_neg ej] at hj'
      subst ei
      rw [fpS_ne ej] at hkj
      obtain ⟨q, o, h1, h2, h3⟩ := fpS_gid.1 hki
      obtain ⟨g1, g2⟩ := (hp j oj).1 hj'
      have := hs.disj q j o oj k h1 g2 h3 hkj
      subst this
      exact absurd g1 h2
    · rw [if_neg ei] at hi'
      subst ej
      rw [fpS_ne ei] at hki
      obtain ⟨q, o, h1, h2, h3⟩ := fpS_gid.1 hkj
      obtain ⟨g1, g2⟩ := (hp i oi).1 hi'
      have := hs.disj q i o oi k h1 g2 h3 hki
      subst this
      exact absurd g1 h2
    · rw [if_neg ei] at hi'
      rw [if_neg ej] at hj'
      rw [fpS_ne ei] at hki
      rw [fpS_ne ej] at hkj
      exact hs.disj i j oi oj k ((hp i oi).1 hi').2 ((hp j oj).1 hj').2 hki hkj
  · have ho' : lk ((GID, Ob.ghost) :: O) id = some ob := ho
    rw [lk_cons] at ho'
    split at ho'
    · rename_i e
      cases ho'
      subst e
      exact fun k hk => ⟨fpS_gid.2 (kpS_odd.1 hk), rfl⟩
    · rename_i e
      rw [fpS_ne e]
      have hne : ob ≠ .ghost := fun e' => noGh_lk hfit.gh (e' ▸ ho')
      exact (ob_gh' hne (hs.objs id ob ((hp id ob).1 ho').2)).tr hst (fun _ _ => rfl) (fun _ ls _ i _ => hkeep i)
  · have ht' : lk (argEnv 0 vs ++ [(GB, .frame), (GB + 1, .sus (true, c.roots) 0)]) t = some v := ht
    rw [lk_append] at ht'
    cases e1 : lk (argEnv 0 vs) t with
    | some v' =>
      rw [e1] at ht'
      cases ht'
      obtain ⟨_, e2⟩ := argEnv_lk _ 0 t _ e1
      simp only [Nat.sub_zero] at e2
      have hlt : t < us.length := by rw [hul]; exact idx_lt e2
      have e4 : (us.toArray ++ Array.replicate (nt - us.toArray.size) undef).getD t undef = us.getD t undef := by
        simp [Array.getD_eq_getD_getElem?, Array.getElem?_append, hlt, List.getD]
      show SVOk _ w _ _ _ _ v ((us.toArray ++ Array.replicate (nt - us.toArray.size) undef).getD t undef)
      rw [e4]
      have hvv := hv t v e2
      have hokv := List.all_eq_true.1 hok v (List.mem_of_getElem? e2)
      cases v with
      | one l => exact (lf_gh (show LfOk _ _ _ _ _ _ l _ from hvv)).tr hst fun i _ => hkeep i
      | agg ls => obtain ⟨us', q1, q2⟩ := hvv; exact ⟨us', q1, (lfs_gh q2).tr hst fun i _ => hkeep i⟩
      | _ => cases hokv
    | none =>
      rw [e1] at ht'
      rw [lk_cons] at ht'
      by_cases e2 : t = GB
      · rw [if_pos e2] at ht'
        cases ht'
        exact fun k hk => ⟨(stb_small hp hfit.nogid).2 (kpS_even.1 hk), rfl⟩
      · rw [if_neg e2, lk_cons] at ht'
        by_cases e3 : t = GB + 1
        · rw [if_pos e3] at ht'
          cases ht'
          refine ⟨c.roots.map (rootV β), rfl, by simp, fun i l hl => ?_⟩
          have e5 : (c.roots.map (rootV β)).getD i undef = rootV β l := by simp [List.getD, hl]
          rw [e5]
          have hm := List.mem_of_getElem? hl
          rw [← hfit.roots] at hm
          obtain ⟨id, ob, h1, ⟨rfl, ls, rfl⟩ | ⟨rfl, h2⟩⟩ := rootsO_mem hm
          · obtain ⟨b, cs, e, q1, _⟩ := hs.objs id _ (hmem _ h1)
            exact ⟨b, q1, q1⟩
          · refine ⟨?_, rfl⟩
            have ho := hs.objs id _ (hmem _ h1)
            show (β id).oneCell' = true
            rcases h2 with ⟨f, n, sh, ls, rfl⟩ | ⟨t, sh, ls, rfl⟩ | ⟨mk, kt, vt, xs, c, rfl⟩
            · obtain ⟨us, q1, _⟩ := ho; rw [q1]; rfl
            · obtain ⟨us, q1, _⟩ := ho; rw [q1]; rfl
            · obtain ⟨b, es, q1, _⟩ := ho; rw [q1]; rfl
        · rw [if_neg e3] at ht'
          cases ht'

/-- Behind the call: the things as the summary tells them, all others as they were. -/
theorem back_big (hs : Sim (K.gh kp kh hd) w0 0 S β fp noAct w) (hp : ∀ id ob, lk O id = some ob ↔ id ∈ c.ids ∧ lk S.objs id = some ob) (hmem : ∀ x, x ∈ O → lk S.objs x.1 = some x.2) (hkO : keysO O = c.ids) (hfit : SumFit c vs O r0)
    (hap : ∀ i, i ∈ c.rowIds → i ∉ idsE0 S.env ++ idsO (rmAll c.ids S.objs)) {w' : World} {a' : Act} {S2 : St C} {β2 : Nat → Value} {fp2 : Nat → Nat → Prop}
    (h2 : Sim (K.gh (kpS S fp w c.ids) (fun k => w.heap[k]?) (fun _ => .agg (c.roots.map (rootV β)).toArray)) w0 nt S2 β2 fp2 a' w') (ho : S2.objs = c.out r0 ++ [(GID, .ghost)]) (hf : lk S2.env GB = some .frame) (hsu : lk S2.env (GB + 1) = some (.sus (true, c.roots) 0)) :
    ∃ β' fp', Sim (K.gh kp kh hd) w0 0 { S with objs := c.out r0 ++ rmAll c.ids S.objs } β' fp' noAct w' := by
  have hg : GID ∉ c.ids := hfit.nogid
  have hfrm : ∀ k, stbOf S.objs fp w k → stbOf S2.objs fp2 w' k ∧ w'.heap[k]? = w.heap[k]? := fun k hk => (h2.env GB _ hf) k (kpS_even.2 hk)
  have hlk2 : ∀ id, id ∈ c.ids → lk S2.objs id = lk (c.out r0) id := fun id hi => by
    rw [ho, lk_append]
    cases e : lk (c.out r0) id with
    | some x => rfl
    | none =>
      show lk [(GID, Ob.ghost)] id = none
      have hne : id ≠ GID := fun e => hg (by rw [← e]; exact hi)
      rw [lk_cons, if_neg hne]
      rfl
  have hgid : lk S2.objs GID = some .ghost := by
    rw [ho, lk_append]
    cases e : lk (c.out r0) GID with
    | some x => exact absurd (hfit.keys GID (lk_keys' e)) hg
    | none => simp [lk_cons]
  have hghost : ∀ k, others S fp c.ids k → fp2 GID k ∧ w'.heap[k]? = w.heap[k]? := fun k hk => (h2.objs GID _ hgid) k (kpS_odd.2 hk)
  have hroot : ∀ id, id ∈ c.ids → id ∉ c.rowIds → β2 id = β id := fun id hi hr => by
    obtain ⟨vals, q1, q2, q3⟩ := h2.env (GB + 1) _ hsu
    have q1' : (c.roots.map (rootV β)) = vals := by
      have : Value.agg (c.roots.map (rootV β)).toArray = Value.agg vals.toArray := q1
      simpa using this
    have hin : ∃ ob, (id, ob) ∈ O := by
      rw [← hkO] at hi
      obtain ⟨x, hx, e⟩ := List.mem_map.1 hi
      exact ⟨x.2, by rw [← e]; exact hx⟩
    obtain ⟨ob, hin⟩ := hin
    have := rootsO_of hin hfit.gh (by rw [hfit.rows]; exact hr)
    rw [hfit.roots] at this
    rcases this with hm | hm
    · obtain ⟨j, hj, e⟩ := List.getElem_of_mem hm
      have hl : c.roots[j]? = some (.ptr id 0) := by rw [List.getElem?_eq_getElem hj, e]
      obtain ⟨b, g1, g2⟩ := q3 j _ hl
      rw [← q1'] at g2
      have e5 : (c.roots.map (rootV β)).getD j undef = β id := by simp [List.getD, hl, rootV]
      rw [e5] at g2
      rw [g1, g2]
    · obtain ⟨j, hj, e⟩ := List.getElem_of_mem hm
      have hl : c.roots[j]? = some (.vo id) := by rw [List.getElem?_eq_getElem hj, e]
      have g2 := (q3 j _ hl).2
      rw [← q1'] at g2
      have e5 : (c.roots.map (rootV β)).getD j undef = β id := by simp [List.getD, hl, rootV]
      rw [e5] at g2
      exact g2.symm
  let β3 : Nat → Value := fun id => if id ∈ c.ids then β2 id else β id
  let fp3 : Nat → Nat → Prop := fun id k => if id ∈ c.ids then fp2 id k else fp id k
  let O3 : Objs C := c.out r0 ++ rmAll c.ids S.objs
  have hlk3 : ∀ id, lk O3 id = if id ∈ c.ids then lk (c.out r0) id else lk S.objs id := fun id => by
    show lk (c.out r0 ++ rmAll c.ids S.objs) id = _
    rw [lk_append, lk_rmAll]
    by_cases hi : id ∈ c.ids
    · rw [if_pos hi, if_pos hi]
      cases lk (c.out r0) id <;> rfl
    · rw [if_neg hi, if_neg hi]
      cases e : lk (c.out r0) id with
      | some x => exact absurd (hfit.keys id (lk_keys' e)) hi
      | none => rfl
  have hsame : ∀ id ob k, id ∉ c.ids → lk S.objs id = some ob → fp id k → k < w'.heap.size ∧ w'.heap[k]? = w.heap[k]? := fun id ob k hi ho' hk => by
    obtain ⟨_, e⟩ := hghost k ⟨id, ob, ho', hi, hk⟩
    have hlt := (hs.fresh id ob k ho' hk).2
    refine ⟨?_, e⟩
    rw [Array.getElem?_eq_getElem hlt] at e
    exact (Array.getElem?_eq_some_iff.1 e).1
  have hst3 : ∀ k, stbOf S2.objs fp2 w' k → stbOf O3 fp3 w' k := fun k hk => by
    refine ⟨hk.1, fun id ob hi hkk => ?_⟩
    rw [hlk3] at hi
    by_cases hm : id ∈ c.ids
    · rw [if_pos hm, ← hlk2 id hm] at hi
      simp only [fp3, if_pos hm] at hkk
      exact hk.2 id ob hi hkk
    · rw [if_neg hm] at hi
      simp only [fp3, if_neg hm] at hkk
      exact hk.2 GID .ghost hgid (hghost k ⟨id, ob, hi, hm, hkk⟩).1
  have hstO : ∀ k, stbOf S.objs fp w k → stbOf O3 fp3 w' k ∧ w'.heap[k]? = w.heap[k]? := fun k hk => ⟨hst3 k (hfrm k hk).1, (hfrm k hk).2⟩
  -- names outside of the things
  have keepO : ∀ i, i ∉ c.rowIds → Keeps w w' S.objs O3 β β3 fp fp3 i := fun i hi => by
    by_cases hm : i ∈ c.ids
    · refine ⟨by simp only [β3, if_pos hm]; exact hroot i hm hi, fun t xs sh h => ?_⟩
      rw [hlk3, if_pos hm] at h
      exact absurd (hfit.rows' i (rowsO_lk h)) hi
    · refine ⟨by simp only [β3, if_neg hm], fun t xs sh h => ?_⟩
      rw [hlk3, if_neg hm] at h
      exact ⟨h, fun k hk => ⟨by simp only [fp3, if_neg hm]; exact hk, (hsame i _ k hm h hk).2⟩⟩
  have keepI : ∀ i, i ∈ c.ids → Keeps w' w' S2.objs O3 β2 β3 fp2 fp3 i := fun i hm => by
    refine ⟨by simp only [β3, if_pos hm], fun t xs sh h => ?_⟩
    rw [hlk3, if_pos hm, ← hlk2 i hm] at h
    exact ⟨h, fun k hk => ⟨by simp only [fp3, if_pos hm]; exact hk, rfl⟩⟩
  refine ⟨β3, fp3, h2.below, rfl, rfl, fun id ob k hi hk => ?_, fun i j oi oj k hi hj hki hkj => ?_, fun id ob hi => ?_, fun t v ht => ?_⟩
  · have hi' : lk O3 id = some ob := hi
    rw [hlk3] at hi'
    by_cases hm : id ∈ c.ids
    · rw [if_pos hm, ← hlk2 id hm] at hi'
      simp only [fp3, if_pos hm] at hk
      exact h2.fresh id ob k hi' hk
    · rw [if_neg hm] at hi'
      simp only [fp3, if_neg hm] at hk
      exact ⟨(hs.fresh id ob k hi' hk).1, (hsame id ob k hm hi' hk).1⟩
  · have hi' : lk O3 i = some oi := hi
    have hj' : lk O3 j = some oj := hj
    rw [hlk3] at hi' hj'
    by_cases mi : i ∈ c.ids <;> by_cases mj : j ∈ c.ids
    · rw [if_pos mi, ← hlk2 i mi] at hi'
      rw [if_pos mj, ← hlk2 j mj] at hj'
      simp only [fp3, if_pos mi] at hki
      simp only [fp3, if_pos mj] at hkj
      exact h2.disj i j oi oj k hi' hj' hki hkj
    · rw [if_pos mi, ← hlk2 i mi] at hi'
      rw [if_neg mj] at hj'
      simp only [fp3, if_pos mi] at hki
      simp only [fp3, if_neg mj] at hkj
      have := h2.disj i GID oi .ghost k hi' hgid hki (hghost k ⟨j, oj, hj', mj, hkj⟩).1
      exact absurd (this ▸ mi) hg
    · rw [if_neg mi] at hi'
      rw [if_pos mj, ← hlk2 j mj] at hj'
      simp only [fp3, if_neg mi] at hki
      simp only [fp3, if_pos mj] at hkj
      have := h2.disj j GID oj .ghost k hj' hgid hkj (hghost k ⟨i, oi, hi', mi, hki⟩).1
      exact absurd (this ▸ mj) hg
    · rw [if_neg mi] at hi'
      rw [if_neg mj] at hj'
      simp only [fp3, if_neg mi] at hki
      simp only [fp3, if_neg mj] at hkj
      exact hs.disj i j oi oj k hi' hj' hki hkj
  · have hi' : lk O3 id = some ob := hi
    rw [hlk3] at hi'
    by_cases hm : id ∈ c.ids
    · rw [if_pos hm] at hi'
      have hne : ob ≠ .ghost := fun e => noGh_lk hfit.gh' (e ▸ hi')
      have h3 := (ob_gh' (kp := kp) (kh := kh) (hd := hd) hne (h2.objs id ob ((hlk2 id hm).trans hi'))).tr (fun k hk => ⟨hst3 k hk, rfl⟩) (fun _ _ => rfl) (fun kd ls e i hil => keepI i (hfit.closed i ((mem_idsO hi').2 kd ls e i hil)))
      have e1 : fp3 id = fp2 id := by funext k; simp only [fp3, if_pos hm]
      have e2 : β3 id = β2 id := by simp only [β3, if_pos hm]
      rw [e1, e2]
      exact h3
    · rw [if_neg hm] at hi'
      have h3 := (hs.objs id ob hi').tr hstO (fun k hk => (hsame id ob k hm hi' hk).2) (fun kd ls e i hil => keepO i fun hr => hap i hr (List.mem_append.2 (.inr ((mem_idsO (O := rmAll c.ids S.objs) (n := id) (by rw [lk_rmAll, if_neg hm]; exact hi')).2 kd ls e i hil))))
      have e1 : fp3 id = fp id := by funext k; simp only [fp3, if_neg hm]
      have e2 : β3 id = β id := by simp only [β3, if_neg hm]
      rw [e1, e2]
      exact h3
  · exact (hs.env t v ht).tr hstO fun i hi => keepO i fun hr => hap i hr (List.mem_append.2 (.inl (mem_idsE ht hi)))
end

theorem sum_of (hX : XOk P X) (hC : Cons P X) (hm : P.follows .mixedOrders = true) {f : Nat} {fn : Func} {c : Code} (hf : P.funcs[f]? = some fn) (hb : fn.body = some c) (hB : codeB fn.ntmps c = true) (hname : fn.name ≠ "runtime.NumGoroutine") (su : Sum C) (hnt : fn.ntmps ≤ 1000)
    (dec : Objs C → List (Lf C) → List (Bool × List (Lf C)) → Option su.R0) (hdec : ∀ os ls rs r0, dec os ls rs = some r0 → os = su.out r0 ++ [(GID, .ghost)] ∧ ls = su.roots ∧ rs = su.ret r0)
    (h : ∀ vs O r0, keysO O = su.ids → su.g vs O = some r0 → SumFit su vs O r0 ∧ vs.length ≤ fn.ntmps ∧ ∃ F : Cf, runFnS X F fn su vs O dec = some r0) : InlOk P X.K f (sumInl su) := by
  refine ⟨⟨fn, hf, by rw [hb]; rfl, hname⟩, fun kp kh hd w0 w S β fp vs us R k r hs hkey hul hv hgo => ?_⟩
  unfold sumInl at hgo
  simp only at hgo
  split at hgo
  case h_2 => cases hgo
  rename_i O hO
  obtain ⟨hb1, hgo⟩ := cond_some hgo
  simp only [Bool.and_eq_true] at hb1
  cases hg : su.g vs O with
  | none => rw [hg] at hgo; cases hgo
  | some r0 =>
  rw [hg] at hgo
  simp only [Option.bind_some] at hgo
  obtain ⟨hp, hmem, hkO⟩ := pickO_mem hO
  obtain ⟨hfit, hn, F, hrun⟩ := h vs O r0 hkO hg
  have hsim := start_small (nt := fn.ntmps) hs hp hmem hfit hul hn hnt hb1.2 hv
  unfold runFnS at hrun
  have hbody : bodyOf fn = c := by unfold bodyOf; rw [hb]
  rw [hbody, ← run_gh (kp := kpS S fp w su.ids) (kh := fun k => w.heap[k]?) (hd := fun _ => .agg (su.roots.map (rootV β)).toArray)] at hrun
  refine calls_of_wp hf hb (Go.wp_mono (run_sound (xok_gh hX) (cons_gh hC) hm F c 0 _ _ w _ hB ⟨_, _, hsim⟩ hrun) ?_)
  have fin : ∀ (a : Act) (w' : World) (S' : St C) (e : Ex), SimE (X.gh (kpS S fp w su.ids) (fun k => w.heap[k]?) (fun _ => .agg (su.roots.map (rootV β)).toArray)).K w0 fn.ntmps S' a w' → (e = .norm ∨ e = .ret) → kTopS X fn dec e S' = some r0 →
      a.defers = [] ∧ ∃ v, (results fn a.tmps).run P w' = .ok v w' ∧ ∃ (v_1 : Value) (rs : List (Bool × List (Lf C))) (rls : List Value) (S' : St C) (β' : Nat → Value) (fp' : Nat → Nat → Prop), Ending.returned v = .returned v_1 ∧ v_1 = pack rs rls ∧ okRes rs = true ∧ k rs S' = some r ∧
      Sim (X.K.gh kp kh hd) w0 0 S' β' fp' noAct w' ∧ LfsOk (X.K.gh kp kh hd) w' S'.objs β' fp' (stbOf S'.objs fp' w') (flatten rs) rls := by
    intro a w' S' e ⟨β', fp', hs'⟩ he hk
    have hk : (match resOf X S' fn.results.toList, S'.canon [] with
      | some rs, some S' => match lk S'.env GB, lk S'.env (GB + 1) with
        | some .frame, some (.sus (true, ls) j) => cond (Nat.beq j 0) (dec S'.objs ls rs) none
        | _, _ => none
      | _, _ => none) = some r0 := by rcases he with rfl | rfl <;> exact hk
    split at hk
    case h_2 => cases hk
    rename_i rs S2 hres hcan
    split at hk
    case h_2 => cases hk
    rename_i ls j hfr hsu
    obtain ⟨hj, hk⟩ := cond_some hk
    have hj := Nat.eq_of_beq_eq_true hj
    subst hj
    obtain ⟨d1, d2, d3⟩ := hdec _ _ _ _ hk
    subst d2 d3
    rw [← resOf_gh (kp := kpS S fp w su.ids) (kh := fun k => w.heap[k]?) (hd := fun _ => .agg (su.roots.map (rootV β)).toArray)] at hres
    obtain ⟨us', h1, h2, h3⟩ := resOf_ok (xok_gh hX) hs' _ _ hres
    obtain ⟨β2, fp2, hs2⟩ := canon_sound hs' hcan
    obtain ⟨β3, fp3, hs3⟩ := back_big hs hp hmem hkO hfit (apartN_ok' hb1.1) hs2 d1 hfr hsu
    refine ⟨hs'.defers, pack (su.ret r0) us', ?_, _, _, us', _, β3, fp3, rfl, rfl, h1, hgo, hs3, h2.1, fun i l hl => simple_any (hfit.simple l (List.mem_of_getElem? hl)) (h2.2 i l hl)⟩
    rw [results_eq]
    simp only [Sem.run_bind, h3, Result.andThen_ok]
    rfl
  rintro (_ | _ | _ | _ | _ | _) a' w' hp'
  · obtain ⟨S', hs', hk⟩ := hp'; exact fin a' w' S' .norm hs' (.inl rfl) hk
  · obtain ⟨S', hs', hk⟩ := hp'; cases hk
  · exact hp'.elim
  · obtain ⟨S', hs', hk⟩ := hp'; exact fin a' w' S' .ret hs' (.inr rfl) hk
  · exact hp'.elim
  · exact hp'.elim
def rootB : Lf C → Lf C → Bool
  | .ptr a b, .ptr c d => Nat.beq a c && Nat.beq b d
  | .vo a, .vo b => Nat.beq a b
  | _, _ => false
def rootsB : List (Lf C) → List (Lf C) → Bool
  | [], [] => true
  | a :: r, b :: s => rootB a b && rootsB r s
  | _, _ => false
theorem rootsB_ok : ∀ {l m : List (Lf C)}, rootsB l m = true → l = m
  | [], [], _ => rfl
  | [], _ :: _, h => by cases h
  | _ :: _, [], h => by cases h
  | a :: r, b :: s, h => by
    simp only [rootsB, Bool.and_eq_true] at h
    rw [rootsB_ok h.2]
    have h1 := h.1
    unfold rootB at h1
    split at h1
    · simp only [Bool.and_eq_true] at h1
      rw [Nat.eq_of_beq_eq_true h1.1, Nat.eq_of_beq_eq_true h1.2]
    · rw [Nat.eq_of_beq_eq_true h1]
    · cases h1
def subB' (l m : List Nat) : Bool := l.all fun i => m.any (Nat.beq i)
theorem subB'_ok {l m : List Nat} (h : subB' l m = true) : ∀ i, i ∈ l → i ∈ m := fun i hi => by
  obtain ⟨j, hj, e⟩ := List.any_eq_true.1 (List.all_eq_true.1 h i hi)
  rw [Nat.eq_of_beq_eq_true e]
  exact hj
theorem fit_of {c : Sum C} {vs : List (SV C)} {O : Objs C} {r0 : c.R0} (h1 : rootsB (rootsO O) c.roots = true) (h2 : decide (rowsO O = c.rowIds) = true) (h3 : noGh O = true) (h4 : noGh (c.out r0) = true) (h5 : subB' (keysO (c.out r0)) c.ids = true)
    (h6 : subB' (rowsO (c.out r0)) c.rowIds = true) (h7 : subB' (idsO (c.out r0)) c.ids = true) (h8 : c.ids.any (Nat.beq GID) = false) (h9 : (flatten (c.ret r0)).all simpleL = true) : SumFit c vs O r0 :=
  ⟨rootsB_ok h1, of_decide_eq_true h2, h3, h4, subB'_ok h5, subB'_ok h6, subB'_ok h7, beq_any h8, fun l hl => List.all_eq_true.1 h9 l hl⟩
/-- The summary that tells nothing. -/
theorem sum_none {f : Nat} {fn : Func} (hf : P.funcs[f]? = some fn) (hb : fn.body.isNone = false) (hname : fn.name ≠ "runtime.NumGoroutine") (su : Sum C) (hg : ∀ vs O, su.g vs O = none) : InlOk P K f (sumInl su) := by
  refine ⟨⟨fn, hf, hb, hname⟩, fun kp kh hd w0 w S β fp vs us R k r hs hkey hul hv hgo => ?_⟩
  unfold sumInl at hgo
  simp only at hgo
  split at hgo
  case h_2 => cases hgo
  obtain ⟨_, hgo⟩ := cond_some hgo
  rw [hg] at hgo
  cases hgo
end
end Go.Proofs.YtjodpeldfebhfaaGreat.Ab

/- Contracts told by kinds: what a function takes and hands back, of each its kind; the decoding is the same for all. -/
set_option linter.unusedVariables false
namespace Go.Proofs.YtjodpeldfebhfaaGreat.Ab
open Go Go.RowKit

inductive PK (Ty : Type) : Type where
  | int (k : IntKind)
  | bool
  | str
  | fnc
  | row (t : Ty)
  | el (t : Ty)
  | ptr (t : Ty)
  | imm (b : Bool) (l : List Nat)
section
variable {Ty : Type} [DecidableEq Ty] {C : Ty → Type} (K : Cd C)
abbrev PK.T (C : Ty → Type) : PK Ty → Type
  | .int _ => Int
  | .bool => Bool
  | .str => ByteArray
  | .fnc => Option Nat
  | .row t => List (C t)
  | .el t => C t
  | .ptr t => C t
  | .imm .. => Unit
def castE (t t' : Ty) (x : C t) : Option (C t') := match decEq t t' with
  | isTrue h => some (h ▸ x)
  | isFalse _ => none
/-- Values that are what they are: no memory, always the same. -/
def immB : List Nat → List (Lf C) → Bool
  | [], [] => true
  | n :: r, .fnc (some m) :: ls => Nat.beq n m && immB r ls
  | _, _ => false
def immL (l : List Nat) : List (Lf C) := l.map fun n => .fnc (some n)
/-- One cell, or cells, as what its kind says. -/
def PK.deL : (p : PK Ty) → (Bool × List (Lf C)) → Option (p.T C)
  | .int k, (false, [.int k' n]) => cond (decide (k = k')) (some n) none
  | .bool, (false, [.bool b]) => some b
  | .str, (false, [.str s]) => some s
  | .fnc, (false, [.fnc f]) => some f
  | .row t, (false, [.row t' xs]) => castT t' t xs
  | .el t, (true, ls) => K.dec t ls
  | .imm b l, (b', ls) => cond ((b == b') && immB l ls) (some ()) none
  | _, _ => none
def PK.enL : (p : PK Ty) → p.T C → Bool × List (Lf C)
  | .int k, n => (false, [.int k n])
  | .bool, b => (false, [.bool b])
  | .str, s => (false, [.str s])
  | .fnc, f => (false, [.fnc f])
  | .row t, xs => (false, [.row t xs])
  | .el t, x => (true, K.enc t x)
  | .ptr t, x => (false, [.elt t x 0])
  | .imm b l, _ => (b, immL l)
def PK.deS : (p : PK Ty) → SV C → Option (p.T C)
  | .int k, .one (.int k' n) => cond (decide (k = k')) (some n) none
  | .bool, .one (.bool b) => some b
  | .str, .one (.str s) => some s
  | .fnc, .one (.fnc f) => some f
  | .row t, .one (.row t' xs) => castT t' t xs
  | .el t, .agg ls => K.dec t ls
  | .ptr t, .one (.elt t' x 0) => castE t' t x
  | .imm true l, .agg ls => cond (immB l ls) (some ()) none
  | _, _ => none
def PK.enS : (p : PK Ty) → p.T C → SV C
  | .int k, n => .one (.int k n)
  | .bool, b => .one (.bool b)
  | .str, s => .one (.str s)
  | .fnc, f => .one (.fnc f)
  | .row t, xs => .one (.row t xs)
  | .el t, x => .agg (K.enc t x)
  | .ptr t, x => .one (.elt t x 0)
  | .imm _ l, _ => .agg (immL l)
def PK.pt : PK Ty → Option Ty
  | .ptr t => some t
  | _ => none
abbrev Args (C : Ty → Type) : List (PK Ty) → Type
  | [] => Unit
  | [p] => p.T C
  | p :: q :: r => p.T C × Args C (q :: r)
abbrev Fun (C : Ty → Type) : List (PK Ty) → Type → Type
  | [], R => R
  | p :: r, R => p.T C → Fun C r R
def app {R : Type} : (ps : List (PK Ty)) → Fun C ps (Option R) → List (SV C) → Option R
  | [], g, [] => g
  | p :: r, g, v :: vs => match p.deS K v with
    | some x => app r (g x) vs
    | none => none
  | _, _, _ => none
def appL {R : Type} : (ps : List (PK Ty)) → Fun C ps (Option R) → List (Bool × List (Lf C)) → Option R
  | [], g, [] => g
  | p :: r, g, v :: vs => match p.deL K v with
    | some x => appL r (g x) vs
    | none => none
  | _, _, _ => none
/-- What holds of every input that the kinds allow. -/
def Hold {R V : Type} (e : (p : PK Ty) → p.T C → V) : (ps : List (PK Ty)) → Fun C ps (Option R) → (List V → Option R → Prop) → Prop
  | [], g, Φ => Φ [] g
  | p :: r, g, Φ => ∀ x : p.T C, Hold e r (g x) fun vs o => Φ (e p x :: vs) o
def enR : (ps : List (PK Ty)) → Args C ps → List (Bool × List (Lf C))
  | [], _ => []
  | [p], x => [p.enL K x]
  | p :: q :: r, x => p.enL K x.1 :: enR (q :: r) x.2
def deR : (ps : List (PK Ty)) → List (Bool × List (Lf C)) → Option (Args C ps)
  | [], [] => some ()
  | [p], [x] => p.deL K x
  | p :: q :: r, x :: xs => match p.deL K x with
    | some y => match deR (q :: r) xs with
      | some z => some (y, z)
      | none => none
    | none => none
  | _, _ => none
abbrev ArgsW (C : Ty → Type) : List Ty → List (PK Ty) → Type
  | [], rs => Args C rs
  | [t], [] => List (C t)
  | t :: u :: os, rs => List (C t) × ArgsW C (u :: os) rs
  | [t], r :: rs => List (C t) × Args C (r :: rs)
def ouW : (os : List Ty) → (rs : List (PK Ty)) → ArgsW C os rs → List (Lf C)
  | [], _, _ => []
  | [t], [], x => [.row t x]
  | t :: u :: os, rs, x => .row t x.1 :: ouW (u :: os) rs x.2
  | [t], _ :: _, x => [.row t x.1]
def reW : (os : List Ty) → (rs : List (PK Ty)) → ArgsW C os rs → List (Bool × List (Lf C))
  | [], rs, x => enR K rs x
  | [_], [], _ => []
  | _ :: u :: os, rs, x => reW (u :: os) rs x.2
  | [_], r :: rs, x => enR K (r :: rs) x.2
def rowL (t : Ty) : Lf C → Option (List (C t))
  | .row t' xs => castT t' t xs
  | _ => none
def deW : (os : List Ty) → (rs : List (PK Ty)) → List (Lf C) → List (Bool × List (Lf C)) → Option (ArgsW C os rs)
  | [], rs, [], l => deR K rs l
  | [t], [], [x], [] => rowL t x
  | t :: u :: os, rs, x :: xs, l => match rowL t x with
    | some y => match deW (u :: os) rs xs l with
      | some z => some (y, z)
      | none => none
    | none => none
  | [t], r :: rs, [x], l => match rowL t x with
    | some y => match deR K (r :: rs) l with
      | some z => some (y, z)
      | none => none
    | none => none
  | _, _, _, _ => none
variable {K}
theorem castT_eq {t t' : Ty} {xs : List (C t)} {ys : List (C t')} (h : castT t t' xs = some ys) : Lf.row t xs = Lf.row t' ys := by
  unfold castT at h
  split at h
  · rename_i e _; subst e; cases h; rfl
  · cases h
theorem castE_eq {t t' : Ty} {x : C t} {y : C t'} (h : castE t t' x = some y) : Lf.elt t x 0 = Lf.elt t' y 0 := by
  unfold castE at h
  split at h
  · rename_i e _; subst e; cases h; rfl
  · cases h
theorem int_eq {k k' : IntKind} {n m : Int} (h : cond (decide (k = k')) (some n) none = some m) : (Lf.int k' n : Lf C) = Lf.int k m := by
  by_cases e : k = k'
  · subst e; rw [decide_eq_true rfl] at h; cases h; rfl
  · rw [decide_eq_false e] at h; cases h
theorem immB_eq : ∀ {l : List Nat} {ls : List (Lf C)}, immB l ls = true → ls = immL l
  | [], [], _ => rfl
  | [], _ :: _, h => by simp [immB] at h
  | n :: r, [], h => by simp [immB] at h
  | n :: r, x :: ls, h => by
    unfold immB at h
    split at h
    · rename_i e1 e2; cases e1
    · rename_i e1 e2
      cases e1; cases e2
      rw [Bool.and_eq_true] at h
      obtain rfl := Nat.eq_of_beq_eq_true h.1
      rw [immB_eq h.2]
      rfl
    · cases h
theorem deL_eq {p : PK Ty} {x : Bool × List (Lf C)} {y : p.T C} (h : p.deL K x = some y) : x = p.enL K y := by
  unfold PK.deL at h
  split at h
  · simp only [PK.enL]; rw [int_eq h]
  · cases h; rfl
  · cases h; rfl
  · cases h; rfl
  · simp only [PK.enL]; rw [castT_eq h]
  · simp only [PK.enL]; rw [K.enc_dec _ _ _ h]
  · rename_i b l b' ls
    obtain ⟨h1, _⟩ := cond_some h
    rw [Bool.and_eq_true] at h1
    have e1 : b = b' := by simpa using h1.1
    rw [immB_eq h1.2, e1]; rfl
  · cases h
theorem deS_eq {p : PK Ty} {x : SV C} {y : p.T C} (h : p.deS K x = some y) : x = p.enS K y := by
  unfold PK.deS at h
  split at h
  · simp only [PK.enS]; rw [int_eq h]
  · cases h; rfl
  · cases h; rfl
  · cases h; rfl
  · simp only [PK.enS]; rw [castT_eq h]
  · simp only [PK.enS]; rw [K.enc_dec _ _ _ h]
  · simp only [PK.enS]; rw [castE_eq h]
  · obtain ⟨h1, _⟩ := cond_some h
    rw [immB_eq h1]; rfl
  · cases h
theorem app_hold {R : Type} : ∀ (ps : List (PK Ty)) (g : Fun C ps (Option R)) (vs : List (SV C)) (r : R) (Φ : List (SV C) → Option R → Prop), app K ps g vs = some r → Hold (PK.enS K) ps g Φ → Φ vs (some r) ∧ vs.length = ps.length
  | [], g, [], r, Φ, h, t => by
    simp only [app] at h
    subst h
    exact ⟨t, rfl⟩
  | [], g, _ :: _, r, Φ, h, t => by simp [app] at h
  | p :: ps, g, [], r, Φ, h, t => by simp [app] at h
  | p :: ps, g, v :: vs, r, Φ, h, t => by
    simp only [app] at h
    split at h
    · rename_i x hx
      have := app_hold ps (g x) vs r (fun us o => Φ (p.enS K x :: us) o) h (t x)
      rw [deS_eq hx]
      exact ⟨this.1, by simp [this.2]⟩
    · cases h
theorem appL_hold {R : Type} : ∀ (ps : List (PK Ty)) (g : Fun C ps (Option R)) (vs : List (Bool × List (Lf C))) (r : R) (Φ : List (Bool × List (Lf C)) → Option R → Prop), appL K ps g vs = some r → Hold (PK.enL K) ps g Φ → Φ vs (some r) ∧ vs.length = ps.length
  | [], g, [], r, Φ, h, t => by
    simp only [appL] at h
    subst h
    exact ⟨t, rfl⟩
  | [], g, _ :: _, r, Φ, h, t => by simp [appL] at h
  | p :: ps, g, [], r, Φ, h, t => by simp [appL] at h
  | p :: ps, g, v :: vs, r, Φ, h, t => by
    simp only [appL] at h
    split at h
    · rename_i x hx
      have := appL_hold ps (g x) vs r (fun us o => Φ (p.enL K x :: us) o) h (t x)
      rw [deL_eq hx]
      exact ⟨this.1, by simp [this.2]⟩
    · cases h
theorem deR_eq : ∀ (ps : List (PK Ty)) (l : List (Bool × List (Lf C))) (r : Args C ps), deR K ps l = some r → l = enR K ps r
  | [], [], r, h => rfl
  | [], _ :: _, r, h => by simp [deR] at h
  | [p], [], r, h => by simp [deR] at h
  | [p], [x], r, h => by
    simp only [deR] at h
    simp only [enR]
    rw [deL_eq h]
  | [p], x :: y :: z, r, h => by simp [deR] at h
  | p :: q :: ps, [], r, h => by simp [deR] at h
  | p :: q :: ps, x :: xs, r, h => by
    simp only [deR] at h
    split at h
    · rename_i y hy
      split at h
      · rename_i z hz
        cases h
        simp only [enR]
        rw [deL_eq hy, deR_eq (q :: ps) xs z hz]
      · cases h
    · cases h
theorem rowL_eq {t : Ty} {x : Lf C} {y : List (C t)} (h : rowL t x = some y) : x = .row t y := by
  unfold rowL at h
  split at h
  · exact castT_eq h
  · cases h
theorem deW_eq : ∀ (os : List Ty) (rs : List (PK Ty)) (ls : List (Lf C)) (l : List (Bool × List (Lf C))) (r : ArgsW C os rs), deW K os rs ls l = some r → ls = ouW os rs r ∧ l = reW K os rs r
  | [], rs, [], l, r, h => by
    simp only [deW] at h
    exact ⟨rfl, deR_eq rs l r h⟩
  | [], rs, _ :: _, l, r, h => by simp [deW] at h
  | [t], [], [x], [], r, h => by
    simp only [deW] at h
    simp only [ouW, reW]
    exact ⟨by rw [rowL_eq h], trivial⟩
  | [t], [], [], l, r, h => by simp [deW] at h
  | [t], [], [x], _ :: _, r, h => by simp [deW] at h
  | [t], [], _ :: _ :: _, l, r, h => by simp [deW] at h
  | [t], p :: rs, [], l, r, h => by simp [deW] at h
  | [t], p :: rs, [x], l, r, h => by
    simp only [deW] at h
    split at h
    · rename_i y hy
      split at h
      · rename_i z hz
        cases h
        simp only [ouW, reW]
        exact ⟨by rw [rowL_eq hy], deR_eq _ _ _ hz⟩
      · cases h
    · cases h
  | [t], p :: rs, _ :: _ :: _, l, r, h => by simp [deW] at h
  | t :: u :: os, rs, [], l, r, h => by simp [deW] at h
  | t :: u :: os, rs, x :: xs, l, r, h => by
    simp only [deW] at h
    split at h
    · rename_i y hy
      split at h
      · rename_i z hz
        cases h
        have := deW_eq (u :: os) rs xs l z hz
        simp only [ouW, reW]
        exact ⟨by rw [rowL_eq hy, ← this.1], this.2⟩
      · cases h
    · cases h
def mkC (K : Cd C) (ps rs : List (PK Ty)) (G : Fun C ps (Option (Args C rs))) : Con C := { R0 := Args C rs, pt := ps.map PK.pt, ret := fun r => enR K rs r, g := app K ps G }
def mkW (K : Cd C) (ps : List (PK Ty)) (os : List Ty) (rs : List (PK Ty)) (G : Fun C ps (Option (ArgsW C os rs))) : ConW C := { R0 := ArgsW C os rs, out := fun r => ouW os rs r, ret := fun r => reW K os rs r, g := appL K ps G }
variable {P : Program} {X : Cx C}
theorem mkC_ok (hX : XOk P X) (hC : Cons P X) (hm : P.follows .mixedOrders = true) {f : Nat} {fn : Func} (hf : P.funcs[f]? = some fn) (hb : fn.body = some (bodyOf fn)) (hB : codeB fn.ntmps (bodyOf fn) = true) (hname : (fn.name == "runtime.NumGoroutine") = false)
    {ps rs : List (PK Ty)} {G : Fun C ps (Option (Args C rs))} (F : Cf) (hn : Nat.ble ps.length fn.ntmps = true) (t : Hold (PK.enS X.K) ps G fun vs o => runFn X F fn vs (deR X.K rs) = o) : ConOk P X.K f (mkC X.K ps rs G) :=
  con_dec hX hC hm hf hb hB (by simpa using hname) _ (deR X.K rs) (fun l r h => deR_eq rs l r h) fun vs r0 h => by
    have := app_hold ps G vs r0 _ h t
    exact ⟨by rw [this.2]; exact Nat.le_of_ble_eq_true hn, F, this.1⟩
theorem mkW_ok (hX : XOk P X) (hC : Cons P X) (hm : P.follows .mixedOrders = true) {f : Nat} {fn : Func} (hf : P.funcs[f]? = some fn) (hb : fn.body = some (bodyOf fn)) (hB : codeB fn.ntmps (bodyOf fn) = true) (hname : (fn.name == "runtime.NumGoroutine") = false)
    {ps : List (PK Ty)} {os : List Ty} {rs : List (PK Ty)} {G : Fun C ps (Option (ArgsW C os rs))} (F : Cf) (hn : Nat.ble ps.length fn.ntmps = true) (t : ∀ kp kh hd, Hold (PK.enL X.K) ps G fun vs o => runFnW (X.gh kp kh hd) F fn vs (deW X.K os rs) = o) : ConWOk P X.K f (mkW X.K ps os rs G) :=
  conw_of hX hC hm hf hb hB (by simpa using hname) _ (deW X.K os rs) (fun o l r h => deW_eq os rs o l r h) fun vs r0 h => by
    have h1 := fun kp kh hd => appL_hold ps G vs r0 _ h (t kp kh hd)
    exact ⟨by rw [(h1 (fun _ => False) (fun _ => none) (fun _ => undef)).2]; exact Nat.le_of_ble_eq_true hn, F, fun kp kh hd => (h1 kp kh hd).1⟩
end
end Go.Proofs.YtjodpeldfebhfaaGreat.Ab

/- From a law's arguments, as the statements read them, to abstract values. -/
set_option linter.unusedVariables false
set_option linter.unusedSimpArgs false
set_option linter.unusedSectionVars false
namespace Go.Proofs.YtjodpeldfebhfaaGreat.Ab
open Go Go.RowKit

section
variable {Ty : Type} [DecidableEq Ty] {C : Ty → Type}
variable {P : Program} {w : World} {H : Type} {en : TypeId × Value → H} {base : Nat} {spare : Nat → Bool} {held : Bool}

/-- Numbers of their kind; texts and rows no longer than what a machine holds. -/
inductive Sm (K : Cd C) : Lf C → Prop
  | int (k n) (h : (Lit.int k n).wf = true) : Sm K (.int k n)
  | bool (b) : Sm K (.bool b)
  | str (s) (h : s.size ≤ maxLen) : Sm K (.str s)
  | row (t xs) (h : xs.length ≤ maxLen) (h2 : ∀ (j : Nat) (hj : j < xs.length) (i : Nat) (l : Lf C), (K.enc t xs[j])[i]? = some l → Sm K l) : Sm K (.row t xs)

def zls : TK Ty → List (ZL Ty)
  | .one z => [z]
  | .agg _ zs => zs
  | .arr .. => [.ptr]
def kindB : ZL Ty → Lf C → Bool
  | .int k, .int k' _ => decide (k = k')
  | .bool, .bool _ => true
  | .str, .str _ => true
  | .sli t, .row t' _ => decide (t = t')
  | _, _ => false
def kindsB : List (ZL Ty) → List (Lf C) → Bool
  | [], [] => true
  | z :: zs, l :: ls => kindB z l && kindsB zs ls
  | _, _ => false
def notPtr (ok : Ty → Bool) : ZL Ty → Bool
  | .ptr => false
  | .fnc => false
  | .nk _ => false
  | .sli t => ok t
  | _ => true

structure Tab (P : Program) (K : Cd C) (tk : Nat → Option (TK Ty)) (ok : Ty → Bool) : Prop where
  fact : ∀ T k, tk T = some k → TFact P K T k
  el : ∀ t, EFact P K t
  sub : ∀ T fs zs, tk T = some (.agg fs zs) → ∀ fields, P.underlying T = some (.struct fields) → ∀ (j off n : Nat) (ag : Bool) (f : Field), fs[j]? = some (off, n, ag) → fields[j]? = some f → ∃ kf, tk f.type = some kf ∧ zls kf = (zs.drop off).take n
  cov : ∀ T fs zs, tk T = some (.agg fs zs) → ∀ i, i < zs.length → ∃ (j off n : Nat) (ag : Bool), fs[j]? = some (off, n, ag) ∧ off ≤ i ∧ i < off + n
  elk : ∀ t, ok t = true → ∃ kt, tk (K.tid t) = some kt ∧ (zls kt).all (notPtr ok) = true ∧ ∀ ls, kindsB (zls kt) ls = true → ∃ x, K.dec t ls = some x

theorem list_of {α : Type} {Q : Nat → α → Prop} : ∀ n, (∀ i, i < n → ∃ x, Q i x) → ∃ xs : List α, xs.length = n ∧ ∀ (i : Nat) (x : α), xs[i]? = some x → Q i x
  | 0, _ => ⟨[], rfl, fun i x h => by simp at h⟩
  | n + 1, h => by
    obtain ⟨xs, h1, h2⟩ := list_of n fun i hi => h i (by omega)
    obtain ⟨x, hx⟩ := h n (by omega)
    refine ⟨xs ++ [x], by simp [h1], fun i y hy => ?_⟩
    rcases Nat.lt_or_ge i n with hlt | hge
    · rw [List.getElem?_append_left (by omega)] at hy; exact h2 i y hy
    · rw [List.getElem?_append_right (by omega), h1] at hy
      have : i - n = 0 := by
        rcases Nat.eq_zero_or_pos (i - n) with h0 | h0
        · exact h0
        · rw [List.getElem?_eq_none (by simp; omega)] at hy; cases hy
      rw [this] at hy
      simp at hy
      have e : i = n := by omega
      rw [e, ← hy]; exact hx
theorem kinds_of : ∀ {zs : List (ZL Ty)} {ls : List (Lf C)}, ls.length = zs.length → (∀ (i : Nat) (z : ZL Ty) (l : Lf C), zs[i]? = some z → ls[i]? = some l → kindB z l = true) → kindsB zs ls = true
  | [], [], _, _ => rfl
  | [], _ :: _, h, _ => by simp at h
  | _ :: _, [], h, _ => by simp at h
  | z :: zs, l :: ls, h, hk => by
    simp only [kindsB, Bool.and_eq_true]
    exact ⟨hk 0 z l rfl rfl, kinds_of (by simpa using h) fun i z l h1 h2 => hk (i + 1) z l (by simpa using h1) (by simpa using h2)⟩
theorem kinds_get : ∀ {zs : List (ZL Ty)} {ls : List (Lf C)}, kindsB zs ls = true → ls.length = zs.length ∧ ∀ (i : Nat) (z : ZL Ty) (l : Lf C), zs[i]? = some z → ls[i]? = some l → kindB z l = true
  | [], [], _ => ⟨rfl, fun i z l h => by simp at h⟩
  | [], _ :: _, h => by cases h
  | _ :: _, [], h => by cases h
  | z :: zs, l :: ls, h => by
    simp only [kindsB, Bool.and_eq_true] at h
    obtain ⟨h1, h2⟩ := kinds_get h.2
    refine ⟨by simp [h1], fun i z' l' hz hl => ?_⟩
    cases i with
    | zero => simp at hz hl; subst hz hl; exact h.1
    | succ i => exact h2 i z' l' (by simpa using hz) (by simpa using hl)

theorem open_ok {K : Cd C} {tk : Nat → Option (TK Ty)} {ok : Ty → Bool} (ht : Tab P K tk ok) : ∀ (n : Nat) (T : TypeId) (cs : List Value) (x : DataW H × List MemPlace) (k : TK Ty), DataW.trod en P w base spare held n T cs = some x → tk T = some k → (zls k).all (notPtr ok) = true →
    ∃ ls : List (Lf C), kindsB (zls k) ls = true ∧ ls.length = cs.length ∧ ∀ (i : Nat) (l : Lf C), ls[i]? = some l → Rep K w (fun b => b < w.heap.size) l (cs.getD i undef) ∧ Sm K l := by
  intro n
  induction n with
  | zero => intro T cs x k h; simp [DataW.trod] at h
  | succ n ih =>
    intro T cs x k h hT hp
    have one : ∀ (z : ZL Ty) (l : Lf C) (v : Value), kindB z l = true → Rep K w (fun b => b < w.heap.size) l v → Sm K l → ∃ ls : List (Lf C), kindsB (zls (.one z)) ls = true ∧ ls.length = [v].length ∧ ∀ (i : Nat) (l : Lf C), ls[i]? = some l → Rep K w (fun b => b < w.heap.size) l ([v].getD i undef) ∧ Sm K l :=
      fun z l v h1 h2 h3 => ⟨[l], by simp [zls, kindsB, h1], rfl, fun i l' hi => by
        cases i with
        | zero => simp at hi; subst hi; exact ⟨h2, h3⟩
        | succ i => simp at hi⟩
    have hF := ht.fact T k hT
    cases k with
    | one z =>
      obtain ⟨_, d, hd, hz⟩ := hF
      cases z with
      | int ki =>
        have e : d = .int ki := hz
        subst e
        obtain ⟨m, rfl, -, hw⟩ := DataW.trod_int hd h
        exact one _ (.int ki m) _ (by simp [kindB]) (.int ..) (.int _ _ hw)
      | bool =>
        have e : d = .bool := hz
        subst e
        obtain ⟨b, rfl, -⟩ := DataW.trod_bool hd h
        exact one _ (.bool b) _ rfl (.bool ..) (.bool _)
      | str =>
        have e : d = .string := hz
        subst e
        obtain ⟨s, rfl, -, hw⟩ := DataW.trod_string hd h
        exact one _ (.str s) _ rfl (.str ..) (.str _ hw)
      | ptr => simp [zls, notPtr] at hp
      | fnc => simp [zls, notPtr] at hp
      | nk n => simp [zls, notPtr] at hp
      | sli t =>
        have hok : ok t = true := by simpa [zls, notPtr] using hp
        have e : d = .slice (K.tid t) := hz
        subst e
        rcases DataW.trod_slice hd h with ⟨rfl, -⟩ | ⟨a, len, cap, elems, rest, n', hn, rfl, -, hb, hl, hm, hlen, hel, -, -⟩
        · exact one _ (.row t []) _ (by simp [kindB]) (.row t [] none 0 default (fun _ => undef) (Nat.le_refl _) (fun h => absurd rfl h) (fun h => absurd rfl h) (fun j hj => absurd hj (by simp))) (.row t [] (Nat.zero_le _) (fun j hj => absurd hj (by simp)))
        · cases hn
          obtain ⟨i0, z0, hi0, hsz, hby, hpos, hz0, hzs, hzl⟩ := ht.el t
          have hcells : P.cellsOf (K.tid t) = K.sz t := by simp [Program.cellsOf, hi0, hsz]
          obtain ⟨kt, hkt, hnp, hdec⟩ := ht.elk t hok
          have each : ∀ j, j < len → ∃ x : C t, ∀ (i : Nat) (l : Lf C), (K.enc t x)[i]? = some l → ∃ u, w.cell? ((a.add (j * K.sz t)).add i) = some u ∧ Rep K w (fun b => b < w.heap.size) l u ∧ Sm K l := by
            intro j hj
            have h1 := hel j hj
            rw [hcells, List.getElem?_eq_getElem (by omega)] at h1
            rw [Option.bind_eq_some_iff] at h1
            obtain ⟨cs', hc, hd'⟩ := h1
            obtain ⟨_, hcl, hcg⟩ := World.cells?_some hc
            obtain ⟨ls, k1, k2, k3⟩ := ih _ _ _ _ hd' hkt hnp
            obtain ⟨x, hx⟩ := hdec ls k1
            have henc := K.enc_dec t ls x hx
            refine ⟨x, fun i l hi => ?_⟩
            rw [henc] at hi
            have hil := idx_lt hi
            obtain ⟨r1, r2⟩ := k3 i l hi
            refine ⟨cs'.getD i undef, ?_, r1, r2⟩
            rw [hcg i (by omega), List.getD_eq_getElem?_getD, List.getElem?_eq_getElem (by omega)]
            rfl
          obtain ⟨xs, x1, x2⟩ := list_of len each
          have hrow : ∀ (j : Nat) (hj : j < xs.length) (i : Nat) (l : Lf C), (K.enc t xs[j])[i]? = some l → ∃ u, w.cell? (a.add (j * K.sz t + i)) = some u ∧ Rep K w (fun b => b < w.heap.size) l u ∧ Sm K l := fun j hj i l hi => by
            have := x2 j xs[j] (by simp [hj]) i l hi
            rwa [add_add] at this
          have hsome : ∀ m, m < xs.length * K.sz t → ∃ u, w.cell? (a.add m) = some u := fun m hm => by
            have hj : m / K.sz t < xs.length := Nat.div_lt_of_lt_mul (by rw [Nat.mul_comm]; exact hm)
            have hi : m % K.sz t < (K.enc t xs[m / K.sz t]).length := by rw [K.enc_len]; exact Nat.mod_lt _ (K.pos t)
            obtain ⟨u, hu, _⟩ := hrow _ hj (m % K.sz t) (K.enc t xs[m / K.sz t])[m % K.sz t] (by simp [hi])
            rw [Nat.mul_comm, Nat.div_add_mod] at hu
            exact ⟨u, hu⟩
          refine one _ (.row t xs) _ (by simp [kindB]) ?_ (.row t xs (by omega) fun j hj i l hi => (hrow j hj i l hi).elim fun u h => h.2.2)
          have e : (Value.slice (some a) len cap) = .slice (some a) xs.length cap := by rw [x1]
          rw [e]
          refine .row t xs (some a) cap a (fun m => (w.cell? (a.add m)).getD undef) (by omega) (fun hne => ⟨rfl, ?_⟩) (fun hne m hm => ?_) (fun j hj i l hi => ?_)
          · have hp0 : 0 < xs.length * K.sz t := Nat.mul_pos (List.length_pos_iff.2 hne) (K.pos t)
            have hj0 : 0 < len := by have := List.length_pos_iff.2 hne; omega
            have h1 := hel 0 hj0
            rw [hcells, List.getElem?_eq_getElem (by omega), Option.bind_eq_some_iff] at h1
            obtain ⟨cs', hc, _⟩ := h1
            have := World.cells?_block hc (K.pos t)
            rwa [add_block] at this
          · obtain ⟨u, hu⟩ := hsome m hm
            simp [hu]
          · obtain ⟨u, hu, hr, _⟩ := hrow j hj i l hi
            simp only [hu, Option.getD_some]
            exact hr
    | arr n sz ag zs => simp [zls, notPtr] at hp
    | agg fs zs =>
      obtain ⟨⟨i0, hi0, hsz0, _⟩, fields, hu, hl, hF⟩ := hF
      obtain ⟨xs, n', hn, -, hcl, hxl, hxs⟩ := DataW.trod_struct hu h
      cases hn
      have hcl' : cs.length = zs.length := by rw [hcl]; simp [Program.cellsOf, hi0, hsz0]
      have each : ∀ i, i < zs.length → ∃ l : Lf C, (∀ z, zs[i]? = some z → kindB z l = true) ∧ Rep K w (fun b => b < w.heap.size) l (cs.getD i undef) ∧ Sm K l := by
        intro i hi
        obtain ⟨j, off, m, ag, hj, ho1, ho2⟩ := ht.cov T fs zs hT i hi
        obtain ⟨f, fi, q1, q2, q3, q4, q5, _⟩ := hF j off m ag hj
        obtain ⟨kf, hkf, hzk⟩ := ht.sub T fs zs hT fields hu j off m ag f hj q1
        have hc1 : P.cellsOf f.type = m := by simp [Program.cellsOf, q3, q4]
        have h1 := hxs j f q1
        rw [hc1, q2, List.getElem?_eq_getElem (by
          have := idx_lt (xs := fields.toList) (n := j) (x := f) (by simpa using q1)
          rw [hxl]; simpa using this)] at h1
        obtain ⟨ls, k1, k2, k3⟩ := ih _ _ _ _ h1 hkf (by
          rw [hzk]
          refine List.all_eq_true.2 fun z hz => List.all_eq_true.1 hp z ?_
          exact List.mem_of_mem_drop (List.mem_of_mem_take hz))
        obtain ⟨g1, g2⟩ := kinds_get k1
        rw [hzk] at g1 g2
        have hlt : i - off < ls.length := by rw [g1]; simp; omega
        obtain ⟨r1, r2⟩ := k3 (i - off) ls[i - off] (by simp [hlt])
        have e1 : ((cs.drop off).take m).getD (i - off) undef = cs.getD i undef := by
          simp only [List.getD]
          rw [List.getElem?_take, if_pos (by omega), List.getElem?_drop, show off + (i - off) = i by omega]
        rw [e1] at r1
        refine ⟨ls[i - off], fun z hz => g2 (i - off) z _ ?_ (by simp [hlt]), r1, r2⟩
        rw [List.getElem?_take, if_pos (by omega), List.getElem?_drop, show off + (i - off) = i by omega]
        exact hz
      obtain ⟨ls, h1, h2⟩ := list_of zs.length each
      exact ⟨ls, kinds_of h1 fun i z l hz hl => (h2 i l hl).1 z hz, by omega, fun i l hi => (h2 i l hi).2⟩

/-! ### What a kind tells -/
theorem kinds_cons {z : ZL Ty} {zs : List (ZL Ty)} {ls : List (Lf C)} (h : kindsB (z :: zs) ls = true) : ∃ l ls', ls = l :: ls' ∧ kindB z l = true ∧ kindsB zs ls' = true := by
  cases ls with
  | nil => cases h
  | cons l ls => simp only [kindsB, Bool.and_eq_true] at h; exact ⟨l, ls, rfl, h.1, h.2⟩
theorem kinds_nil {ls : List (Lf C)} (h : kindsB ([] : List (ZL Ty)) ls = true) : ls = [] := by
  cases ls with
  | nil => rfl
  | cons l ls => cases h
theorem kind_int {k : IntKind} {l : Lf C} (h : kindB (.int k : ZL Ty) l = true) : ∃ n, l = .int k n := by
  cases l <;> simp [kindB] at h
  subst h; exact ⟨_, rfl⟩
theorem kind_bool {l : Lf C} (h : kindB (.bool : ZL Ty) l = true) : ∃ n, l = .bool n := by
  cases l <;> simp [kindB] at h
  exact ⟨_, rfl⟩
theorem kind_str {l : Lf C} (h : kindB (.str : ZL Ty) l = true) : ∃ n, l = .str n := by
  cases l <;> simp [kindB] at h
  exact ⟨_, rfl⟩
theorem kind_sli {t : Ty} {l : Lf C} (h : kindB (.sli t) l = true) : ∃ xs, l = .row t xs := by
  cases l <;> simp [kindB] at h
  subst h; exact ⟨_, rfl⟩

/-! ### The table, reckoned -/
def zlB : ZL Ty → ZL Ty → Bool
  | .int k, .int k' => decide (k = k')
  | .bool, .bool => true
  | .str, .str => true
  | .ptr, .ptr => true
  | .fnc, .fnc => true
  | .nk .ifc, .nk .ifc => true
  | .nk .map, .nk .map => true
  | .sli t, .sli t' => decide (t = t')
  | _, _ => false
def zlsB : List (ZL Ty) → List (ZL Ty) → Bool
  | [], [] => true
  | z :: zs, y :: ys => zlB z y && zlsB zs ys
  | _, _ => false
theorem zlsB_ok : ∀ {a b : List (ZL Ty)}, zlsB a b = true → a = b
  | [], [], _ => rfl
  | [], _ :: _, h => by cases h
  | _ :: _, [], h => by cases h
  | z :: zs, y :: ys, h => by
    simp only [zlsB, Bool.and_eq_true] at h
    have e : z = y := by
      have h1 := h.1
      cases z <;> cases y <;> first | rfl | (simp [zlB] at h1; done) | (simp [zlB] at h1; subst h1; rfl) | (rename_i n m; cases n <;> cases m <;> first | rfl | (simp [zlB] at h1))
    rw [e, zlsB_ok h.2]
def subB (tk : Nat → Option (TK Ty)) (zs : List (ZL Ty)) : List Field → List (Nat × Nat × Bool) → Bool
  | [], [] => true
  | f :: l, x :: r => (match tk f.type with
    | some kf => zlsB (zls kf) ((zs.drop x.1).take x.2.1)
    | none => false) && subB tk zs l r
  | _, _ => false
theorem subB_ok {tk : Nat → Option (TK Ty)} {zs : List (ZL Ty)} : ∀ {l : List Field} {r : List (Nat × Nat × Bool)}, subB tk zs l r = true → ∀ (j off n : Nat) (ag : Bool) (f : Field), r[j]? = some (off, n, ag) → l[j]? = some f → ∃ kf, tk f.type = some kf ∧ zls kf = (zs.drop off).take n
  | [], [], _, j, off, n, ag, f, h, _ => by simp at h
  | [], _ :: _, h, _, _, _, _, _, _, _ => by cases h
  | _ :: _, [], h, _, _, _, _, _, _, _ => by cases h
  | f0 :: l, x :: r, h, j, off, n, ag, f, hj, hf => by
    simp only [subB, Bool.and_eq_true] at h
    cases j with
    | zero =>
      simp at hj hf
      subst hj hf
      have h1 := h.1
      split at h1
      · rename_i kf hk; exact ⟨kf, hk, zlsB_ok h1⟩
      · cases h1
    | succ j => exact subB_ok h.2 j off n ag f (by simpa using hj) (by simpa using hf)
def rowB (P : Program) (tk : Nat → Option (TK Ty)) (x : Nat × TK Ty) : Bool := match x.2 with
  | .one _ => true
  | .arr .. => true
  | .agg fs zs => (match P.underlying x.1 with
    | some (.struct fields) => subB tk zs fields.toList fs
    | _ => false) && (below zs.length).all fun i => fs.any fun y => Nat.ble y.1 i && Nat.ble (i + 1) (y.1 + y.2.1)
theorem below_mem : ∀ {n j : Nat}, j < n → j ∈ Ab.below n
  | n + 1, j, h => by
    simp only [Ab.below, List.mem_cons]
    rcases Nat.lt_succ_iff_lt_or_eq.1 h with h | h
    · exact .inr (below_mem h)
    · exact .inl h
theorem lk_in {α : Type} : ∀ {l : List (Nat × α)} {n : Nat} {v : α}, lk l n = some v → (n, v) ∈ l
  | [], n, v, h => by simp [lk] at h
  | (m, x) :: l, n, v, h => by
    rw [lk_cons] at h
    split at h
    · rename_i e; cases h; subst e; simp
    · exact List.mem_cons_of_mem _ (lk_in h)
theorem tab_of {K : Cd C} {l : List (Nat × TK Ty)} (hf : ∀ T k, lk l T = some k → TFact P K T k) (he : ∀ t, EFact P K t) (hr : l.all (rowB P (lk l)) = true)
    {ok : Ty → Bool} (hk : ∀ t, ok t = true → ∃ kt, lk l (K.tid t) = some kt ∧ (zls kt).all (notPtr ok) = true ∧ ∀ ls, kindsB (zls kt) ls = true → ∃ x, K.dec t ls = some x) : Tab P K (lk l) ok := by
  refine ⟨hf, he, fun T fs zs hT fields hu j off n ag f hj hf => ?_, fun T fs zs hT i hi => ?_, hk⟩
  · have := List.all_eq_true.1 hr (T, .agg fs zs) (lk_in hT)
    simp only [rowB, hu, Bool.and_eq_true] at this
    exact subB_ok this.1 j off n ag f hj (by simpa using hf)
  · have := List.all_eq_true.1 hr (T, .agg fs zs) (lk_in hT)
    simp only [rowB, Bool.and_eq_true] at this
    have := List.all_eq_true.1 this.2 i (below_mem hi)
    obtain ⟨y, hy, hb⟩ := List.any_eq_true.1 this
    simp only [Bool.and_eq_true] at hb
    obtain ⟨off, n, ag⟩ := y
    obtain ⟨j, hj, e⟩ := List.getElem_of_mem hy
    exact ⟨j, off, n, ag, by rw [List.getElem?_eq_getElem hj, e], Nat.le_of_ble_eq_true hb.1, Nat.le_of_ble_eq_true hb.2⟩
end
end Go.Proofs.YtjodpeldfebhfaaGreat.Ab

