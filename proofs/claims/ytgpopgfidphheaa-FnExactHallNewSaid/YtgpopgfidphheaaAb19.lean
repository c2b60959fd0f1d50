/- The abstract machine, part 19: the head of a loop. -/
import Derived.Test.YtgpopgfidphheaaAb18
set_option linter.unusedVariables false
set_option linter.unusedSimpArgs false
set_option linter.unusedSectionVars false
namespace Go.Proofs.Ytgpopgfidphheaa.Ab
open Go Go.RowKit

section
variable {Ty : Type} [DecidableEq Ty] {C : Ty → Type}
variable {P : Program} {K : Cd C} {w0 w : World} {nt : Nat} {S : St C} {β : Nat → Value} {fp : Nat → Nat → Prop} {a : Act}

abbrev CE (C : Ty → Type) := Nat × Option Nat × Ob C

theorem beq_any {n : Nat} {l : List Nat} (h : l.any (Nat.beq n) = false) : n ∉ l := by
  intro hm
  have := List.any_eq_false.1 h n hm
  exact this (Nat.beq_refl n)

theorem newN_unique : ∀ {os : List (CE C)}, nodupN (newN os) = true → ∀ {n s s' ob ob'}, (n, s, ob) ∈ os → (n, s', ob') ∈ os → s = s' ∧ ob = ob'
  | [], _, n, s, s', ob, ob', h, _ => by cases h
  | (m, t, o) :: os, hn, n, s, s', ob, ob', h, h' => by
    simp only [newN, nodupN, Bool.and_eq_true, Bool.not_eq_true'] at hn
    have hm := beq_any hn.1
    have mem : ∀ {n s ob}, (n, s, ob) ∈ os → n ∈ newN os := by
      clear hn hm h h'
      induction os with
      | nil => intro n s ob h; cases h
      | cons x os ih =>
        intro n s ob h
        obtain ⟨a, b, c⟩ := x
        simp only [newN, List.mem_cons] at h ⊢
        rcases h with h | h
        · cases h; exact .inl rfl
        · exact .inr (ih h)
    rcases List.mem_cons.1 h with e | h
    · cases e
      rcases List.mem_cons.1 h' with e | h'
      · cases e; exact ⟨rfl, rfl⟩
      · exact absurd (mem h') hm
    · rcases List.mem_cons.1 h' with e | h'
      · cases e; exact absurd (mem h) hm
      · exact newN_unique hn.2 h h'
theorem oldN_unique : ∀ {os : List (CE C)}, nodupN (oldN os) = true → ∀ {n n' i ob ob'}, (n, some i, ob) ∈ os → (n', some i, ob') ∈ os → n = n' ∧ ob = ob'
  | [], _, n, n', i, ob, ob', h, _ => by cases h
  | (m, t, o) :: os, hn, n, n', i, ob, ob', h, h' => by
    have mem : ∀ {n i ob}, (n, some i, ob) ∈ os → i ∈ oldN os := by
      clear hn h h'
      induction os with
      | nil => intro n s ob h; cases h
      | cons x os ih =>
        intro n s ob h
        obtain ⟨a, b, c⟩ := x
        rcases List.mem_cons.1 h with h1 | h1
        · cases h1; simp [oldN]
        · cases b with
          | none => simpa [oldN] using ih h1
          | some b => simp only [oldN, List.mem_cons]; exact .inr (ih h1)
    have hn' : nodupN (oldN os) = true := by
      cases t with
      | none => exact hn
      | some t => simp only [oldN, nodupN, Bool.and_eq_true] at hn; exact hn.2
    rcases List.mem_cons.1 h with e | h1
    · cases e
      rcases List.mem_cons.1 h' with e | h2
      · cases e; exact ⟨rfl, rfl⟩
      · simp only [oldN, nodupN, Bool.and_eq_true, Bool.not_eq_true'] at hn
        exact absurd (mem h2) (beq_any hn.1)
    · rcases List.mem_cons.1 h' with e | h2
      · cases e
        simp only [oldN, nodupN, Bool.and_eq_true, Bool.not_eq_true'] at hn
        exact absurd (mem h1) (beq_any hn.1)
      · exact oldN_unique hn' h1 h2

def srcOf : List (CE C) → Nat → Option (Option Nat)
  | [], _ => none
  | (m, s, _) :: r, n => if n = m then some s else srcOf r n
theorem obs_mem : ∀ {os : List (CE C)} {n : Nat} {ob : Ob C}, lk (obsN os) n = some ob → ∃ s, (n, s, ob) ∈ os ∧ srcOf os n = some s
  | [], n, ob, h => by simp [obsN, lk] at h
  | (m, s, o) :: os, n, ob, h => by
    simp only [obsN, lk_cons] at h
    by_cases e : n = m
    · subst e
      simp at h
      subst h
      exact ⟨s, by simp, by simp [srcOf]⟩
    · rw [if_neg e] at h
      obtain ⟨s', h1, h2⟩ := obs_mem h
      exact ⟨s', by simp [h1], by simp [srcOf, e, h2]⟩
theorem src_mem : ∀ {os : List (CE C)} {n : Nat} {s : Option Nat} {ob : Ob C}, (n, s, ob) ∈ os → nodupN (newN os) = true → srcOf os n = some s ∧ lk (obsN os) n = some ob := by
  intro os n s ob h hn
  have : ∃ ob', lk (obsN os) n = some ob' := by
    clear hn
    induction os with
    | nil => cases h
    | cons x os ih =>
      obtain ⟨m, t, o⟩ := x
      simp only [obsN, lk_cons]
      by_cases e : n = m
      · exact ⟨o, by simp [e]⟩
      · rw [if_neg e]
        rcases List.mem_cons.1 h with h | h
        · cases h; exact absurd rfl e
        · exact ih h
  obtain ⟨ob', ho⟩ := this
  obtain ⟨s', h1, h2⟩ := obs_mem ho
  obtain ⟨rfl, rfl⟩ := newN_unique hn h h1
  exact ⟨h2, ho⟩

def nb (β : Nat → Value) (os : List (CE C)) (n : Nat) : Value := match srcOf os n with
  | some (some id) => β id
  | _ => .slice none 0 0
def nf (fp : Nat → Nat → Prop) (os : List (CE C)) (n k : Nat) : Prop := match srcOf os n with
  | some (some id) => fp id k
  | _ => False

/-- What an entry comes from. -/
def GoodE (S : St C) (os : List (CE C)) (x : CE C) : Prop :=
  (∃ n t, x = (n, none, .row t [] false)) ∨
  (∃ n id t xs sh, x = (n, some id, .row t xs sh) ∧ lk S.objs id = some (.row t xs sh)) ∨
  (∃ id ls ls' n0 os', x = (id, some id, .box ls') ∧ lk S.objs id = some (.box ls) ∧ canLs S n0 ls = some (ls', os') ∧ ∀ y, y ∈ os' → y ∈ os)

theorem GoodE.mono {os os' : List (CE C)} {x : CE C} (h : GoodE S os x) (hm : ∀ y, y ∈ os → y ∈ os') : GoodE S os' x := by
  rcases h with h | h | ⟨id, ls, ls', n0, o, h1, h2, h3, h4⟩
  · exact .inl h
  · exact .inr (.inl h)
  · exact .inr (.inr ⟨id, ls, ls', n0, o, h1, h2, h3, fun y hy => hm y (h4 y hy)⟩)

theorem canL_good {n : Nat} {l l' : Lf C} {os : List (CE C)} (h : canL S n l = some (l', os)) : ∀ x, x ∈ os → GoodE S os x := by
  intro x hx
  cases l with
  | ref id p =>
    cases p with
    | cons s p => simp [canL] at h
    | nil =>
      simp only [canL] at h
      split at h
      · rename_i t xs sh ho
        cases h
        rw [List.mem_singleton] at hx
        exact .inr (.inl ⟨n, id, t, xs, sh, hx, ho⟩)
      · cases h
  | nil t =>
    simp only [canL, Option.some.injEq, Prod.mk.injEq] at h
    rw [← h.2, List.mem_singleton] at hx
    exact .inl ⟨n, t, hx⟩
  | _ => first
    | (simp only [canL, Option.some.injEq, Prod.mk.injEq] at h; rw [← h.2] at hx; cases hx)
    | (simp [canL] at h)
theorem canLs_good : ∀ {ls : List (Lf C)} {n : Nat} {ls' : List (Lf C)} {os : List (CE C)}, canLs S n ls = some (ls', os) → ∀ x, x ∈ os → GoodE S os x
  | [], n, ls', os, h, x, hx => by simp only [canLs, Option.some.injEq, Prod.mk.injEq] at h; rw [← h.2] at hx; cases hx
  | l :: ls, n, ls', os, h, x, hx => by
    simp only [canLs] at h
    split at h
    · rename_i l1 o1 h1
      split at h
      · rename_i r' o2 h2
        cases h
        rcases List.mem_append.1 hx with hx | hx
        · exact (canL_good h1 x hx).mono fun y hy => by simp [hy]
        · exact (canLs_good h2 x hx).mono fun y hy => by simp [hy]
      · cases h
    · cases h
theorem canV_good {t : Nat} {v v' : SV C} {os : List (CE C)} (h : canV S t v = some (v', os)) : ∀ x, x ∈ os → GoodE S os x := by
  intro x hx
  unfold canV at h
  split at h
  · rename_i id o
    split at h
    · rename_i ls ho
      split at h
      · rename_i ls' os' h1
        cases h
        rcases List.mem_cons.1 hx with hx | hx
        · exact .inr (.inr ⟨id, ls, ls', _, os', hx, ho, h1, fun y hy => by simp [hy]⟩)
        · exact (canLs_good h1 x hx).mono fun y hy => by simp [hy]
      · cases h
    · cases h
  · split at h
    · rename_i l' os' h1
      cases h
      exact canL_good h1 x hx
    · cases h
  · split at h
    · rename_i l' os' h1
      cases h
      exact canLs_good h1 x hx
    · cases h
  · cases h; cases hx
  · cases h
theorem newOf_mem : ∀ {os : List (CE C)} {id n : Nat}, newOf os id = some n → ∃ ob, (n, some id, ob) ∈ os
  | [], id, n, h => by simp [newOf] at h
  | (m, none, ob) :: r, id, n, h => by
    obtain ⟨ob', h'⟩ := newOf_mem (os := r) h
    exact ⟨ob', by simp [h']⟩
  | (m, some m', ob) :: r, id, n, h => by
    simp only [newOf] at h
    cases hb : Nat.beq m' id with
    | true =>
      rw [hb] at h
      cases h
      have := Nat.eq_of_beq_eq_true hb
      subst this
      exact ⟨ob, by simp⟩
    | false =>
      rw [hb] at h
      obtain ⟨ob', h'⟩ := newOf_mem (os := r) h
      exact ⟨ob', by simp [h']⟩
theorem hdrE_lk : ∀ {os : List (CE C)} {E : List (Nat × SV C)} {t : Nat} {v : SV C}, lk (hdrE os E) t = some v → ∃ id j n, (t, .hdr id j) ∈ E ∧ newOf os id = some n ∧ v = .hdr n j
  | os, [], t, v, h => by simp [hdrE, lk] at h
  | os, (t', x) :: E, t, v, h => by
    have up : lk (hdrE os E) t = some v → ∃ id j n, (t, .hdr id j) ∈ (t', x) :: E ∧ newOf os id = some n ∧ v = .hdr n j := fun h => by
      obtain ⟨id, j, n, h1, h2⟩ := hdrE_lk h
      exact ⟨id, j, n, by simp [h1], h2⟩
    cases x with
    | hdr id j =>
      simp only [hdrE] at h
      split at h
      · rename_i n hn
        rw [lk_cons] at h
        split at h
        · rename_i e
          cases h
          subst e
          exact ⟨id, j, n, by simp, hn, rfl⟩
        · exact up h
      · exact up h
    | _ => exact up h
theorem canE_good : ∀ {E e : List (Nat × SV C)} {os : List (CE C)}, canE S E = (e, os) → (∀ x, x ∈ os → GoodE S os x) ∧ ∀ t v', lk e t = some v' → ∃ v os', (t, v) ∈ E ∧ canV S t v = some (v', os') ∧ ∀ y, y ∈ os' → y ∈ os
  | [], e, os, h => by
    simp only [canE, Prod.mk.injEq] at h
    obtain ⟨h1, h2⟩ := h
    subst h1 h2
    exact ⟨fun x hx => (by cases hx), fun t v' h => by simp [lk] at h⟩
  | (t, v) :: E, e, os, h => by
    simp only [canE] at h
    cases hc : canE S E with
    | mk e0 os0 =>
      rw [hc] at h
      simp only at h
      obtain ⟨g1, g2⟩ := canE_good hc
      split at h
      · rename_i v1 os1 hv
        cases h
        refine ⟨fun x hx => ?_, fun t' v' ht => ?_⟩
        · rcases List.mem_append.1 hx with hx | hx
          · exact (canV_good hv x hx).mono fun y hy => by simp [hy]
          · exact (g1 x hx).mono fun y hy => by simp [hy]
        · rw [lk_cons] at ht
          by_cases e : t' = t
          · subst e
            simp at ht
            subst ht
            exact ⟨v, os1, by simp, hv, fun y hy => by simp [hy]⟩
          · rw [if_neg e] at ht
            obtain ⟨v2, os2, h1, h2, h3⟩ := g2 t' v' ht
            exact ⟨v2, os2, by simp [h1], h2, fun y hy => by simp [h3 y hy]⟩
      · cases h
        refine ⟨g1, fun t' v' ht => ?_⟩
        obtain ⟨v2, os2, h1, h2, h3⟩ := g2 t' v' ht
        exact ⟨v2, os2, by simp [h1], h2, h3⟩

theorem mem_tidyE {E : List (Nat × SV C)} : ∀ {keep : List Nat} {t : Nat} {v : SV C}, (t, v) ∈ tidyE E keep → lk E t = some v
  | [], t, v, h => by cases h
  | d :: r, t, v, h => by
    simp only [tidyE] at h
    cases hd : lk E d with
    | none => rw [hd] at h; exact mem_tidyE h
    | some u =>
      rw [hd] at h
      rcases List.mem_cons.1 h with h | h
      · cases h; exact hd
      · exact mem_tidyE h

section
variable {os : List (CE C)} {objs' : Objs C} {stb' : Nat → Prop}
theorem canL_ok (hn : nodupN (newN os) = true) (hst : ∀ k, stbOf S.objs fp w k → stb' k) {n : Nat} {l l' : Lf C} {os' : List (CE C)} {v : Value} (h : canL S n l = some (l', os')) (hm : ∀ y, y ∈ os' → y ∈ os)
    (hl : LfOk K w S.objs β fp (stbOf S.objs fp w) l v) : LfOk K w objs' (nb β os) (nf fp os) stb' l' v := by
  have triv : ∀ l : Lf C, idsL l = [] → LfOk K w S.objs β fp (stbOf S.objs fp w) l v → LfOk K w objs' (nb β os) (nf fp os) stb' l v := fun l hi h =>
    h.tr (fun k hk => ⟨hst k hk, rfl⟩) (fun id hid => by rw [hi] at hid; cases hid)
  cases l with
  | ref id p =>
    cases p with
    | cons s p => simp [canL] at h
    | nil =>
      simp only [canL] at h
      split at h
      · rename_i t xs sh ho
        cases h
        have := (src_mem (hm _ (by simp : (n, some id, Ob.row t xs sh) ∈ _)) hn).1
        refine ⟨hl.1, hl.2.trans ?_⟩
        simp [nb, this]
      · cases h
  | nil t =>
    simp only [canL, Option.some.injEq, Prod.mk.injEq] at h
    obtain ⟨rfl, rfl⟩ := h
    have := (src_mem (hm _ (by simp : (n, none, Ob.row t [] false) ∈ _)) hn).1
    have e : v = .slice none 0 0 := hl
    subst e
    refine ⟨rfl, ?_⟩
    simp [nb, this]
  | _ => first
    | (simp only [canL, Option.some.injEq, Prod.mk.injEq] at h; obtain ⟨rfl, -⟩ := h; exact triv _ rfl hl)
    | (simp [canL] at h)
theorem canLs_ok (hn : nodupN (newN os) = true) (hst : ∀ k, stbOf S.objs fp w k → stb' k) : ∀ {ls ls' : List (Lf C)} {n : Nat} {os' : List (CE C)} {vs : List Value}, canLs S n ls = some (ls', os') → (∀ y, y ∈ os' → y ∈ os) →
    LfsOk K w S.objs β fp (stbOf S.objs fp w) ls vs → LfsOk K w objs' (nb β os) (nf fp os) stb' ls' vs
  | [], ls', n, os', vs, h, _, hl => by
    simp only [canLs, Option.some.injEq, Prod.mk.injEq] at h
    obtain ⟨rfl, -⟩ := h
    exact ⟨hl.1, fun i l h => by simp at h⟩
  | l :: ls, ls', n, os', vs, h, hm, hl => by
    simp only [canLs] at h
    split at h
    · rename_i l1 o1 h1
      split at h
      · rename_i r' o2 h2
        cases h
        obtain ⟨u, us, rfl⟩ : ∃ u us, vs = u :: us := by
          cases vs with
          | nil => have := hl.1; simp at this
          | cons u us => exact ⟨u, us, rfl⟩
        have hl1 : LfsOk K w S.objs β fp (stbOf S.objs fp w) ls us := ⟨by have := hl.1; simpa using this, fun i l' hi => hl.2 (i + 1) l' (by simpa using hi)⟩
        have ih := canLs_ok hn hst h2 (fun y hy => hm y (by simp [hy])) hl1
        refine ⟨by simp [ih.1], fun i l' hi => ?_⟩
        cases i with
        | zero => simp at hi; subst hi; exact canL_ok hn hst h1 (fun y hy => hm y (by simp [hy])) (hl.2 0 l rfl)
        | succ i => exact ih.2 i l' (by simpa using hi)
      · cases h
    · cases h
end

theorem canon_sound (hs : Sim K w0 nt S β fp a w) {ent : List Nat} {S' : St C} (h : S.canon ent = some S') : SimE K w0 nt S' a w := by
  unfold St.canon at h
  cases hc : canE S (tidyE S.env ent) with
  | mk e os =>
    rw [hc] at h
    simp only at h
    obtain ⟨hn, h⟩ := cond_some h
    simp only [Bool.and_eq_true] at hn
    obtain ⟨hn, ho⟩ := hn
    cases h
    obtain ⟨g1, g2⟩ := canE_good hc
    -- what an entry's footprint is
    have fpE : ∀ {n ob k}, lk (obsN os) n = some ob → nf fp os n k → ∃ id ob0, (n, some id, ob) ∈ os ∧ lk S.objs id = some ob0 ∧ fp id k := by
      intro n ob k hl hk
      obtain ⟨s, h1, h2⟩ := obs_mem hl
      simp only [nf, h2] at hk
      cases s with
      | none => exact hk.elim
      | some id =>
        rcases g1 _ h1 with ⟨n', t, e⟩ | ⟨n', id', t, xs, sh, e, hid⟩ | ⟨id', ls, ls', n0, os', e, hid, _⟩
        · cases e
        · cases e; exact ⟨_, _, h1, hid, hk⟩
        · cases e; exact ⟨_, _, h1, hid, hk⟩
    have hst : ∀ k, stbOf S.objs fp w k → stbOf (obsN os) (nf fp os) w k := by
      intro k hk
      refine ⟨hk.1, fun n ob hl hf => ?_⟩
      obtain ⟨id, ob0, _, h2, h3⟩ := fpE hl hf
      exact hk.2 id ob0 h2 h3
    refine ⟨nb β os, nf fp os, hs.below, hs.defers, hs.size, ?_, ?_, ?_, ?_⟩
    · intro n ob k hl hk
      obtain ⟨id, ob0, _, h2, h3⟩ := fpE hl hk
      exact hs.fresh id ob0 k h2 h3
    · intro n n' ob ob' k hl hl' hk hk'
      obtain ⟨id, ob0, m1, h2, h3⟩ := fpE hl hk
      obtain ⟨id', ob0', m1', h2', h3'⟩ := fpE hl' hk'
      have e := hs.disj id id' ob0 ob0' k h2 h2' h3 h3'
      subst e
      exact (oldN_unique ho m1 m1').1
    · intro n ob hl
      obtain ⟨s, h1, h2⟩ := obs_mem hl
      rcases g1 _ h1 with ⟨n', t, e⟩ | ⟨n', id, t, xs, sh, e, hid⟩ | ⟨id, ls, ls', n0, os', e, hid, hcan, hsub⟩
      · cases e
        have eb : nb β os n = .slice none 0 0 := by simp [nb, h2]
        have ef : ∀ k, ¬ nf fp os n k := fun k hk => by simp [nf, h2] at hk
        rw [eb]
        exact .row _ t [] _ [] (fun _ _ _ => False) (World.ownsRow_nil w w0.heap.size (K.tid t) (K.sz t)) (fun g hg => by simp [Value.ownBlock] at hg) (fun _ _ _ h => h.elim) (fun _ _ _ _ _ h => h.elim) (fun j hj => absurd hj (by simp))
      · cases e
        have eb : nb β os n = β id := by simp [nb, h2]
        have ef : nf fp os n = fp id := by funext k; simp [nf, h2]
        rw [eb, ef]
        exact (hs.objs id _ hid).tr (fun k hk => ⟨hst k hk, rfl⟩) (fun _ _ => rfl) (fun ls e => by cases e)
      · cases e
        have eb : nb β os n = β n := by simp [nb, h2]
        have ef : nf fp os n = fp n := by funext k; simp [nf, h2]
        rw [eb, ef]
        obtain ⟨b, cs, e, q1, q2, q3, q4⟩ := hs.objs n _ hid
        exact ⟨b, cs, e, q1, q2, q3, canLs_ok hn hst hcan hsub q4⟩
    · intro t v' ht
      rw [show ({ S with env := e ++ hdrE os (tidyE S.env ent), objs := obsN os } : St C).env = e ++ hdrE os (tidyE S.env ent) from rfl, lk_append] at ht
      have ht' : lk e t = some v' ∨ lk (hdrE os (tidyE S.env ent)) t = some v' := by
        cases e1 : lk e t with
        | some x => rw [e1] at ht; exact .inl ht
        | none => rw [e1] at ht; exact .inr ht
      clear ht
      rcases ht' with ht | ht
      case inr =>
        obtain ⟨id, j, n, h1, h2, h3⟩ := hdrE_lk ht
        subst h3
        obtain ⟨ob, hm⟩ := newOf_mem h2
        have hval : β id = K.hd j := hs.env t _ (mem_tidyE h1)
        show nb β os n = K.hd j
        simp [nb, (src_mem hm hn).1, hval]
      obtain ⟨v, os', hE, hv, hsub⟩ := g2 t v' ht
      have hval := hs.env t v (mem_tidyE hE)
      unfold canV at hv
      split at hv
      · rename_i id off
        split at hv
        · rename_i ls hid
          split at hv
          · rename_i ls' os1 hc1
            cases hv
            obtain ⟨b, hb, e⟩ := (hval : LfOk K w S.objs β fp _ (.ptr id off) _)
            have hsrc := (src_mem (hsub _ (by simp : (id, some id, Ob.box ls') ∈ _)) hn).1
            exact ⟨b, by simp [nb, hsrc, hb], e⟩
          · cases hv
        · cases hv
      · split at hv
        · rename_i l' os1 hc1
          cases hv
          exact canL_ok hn hst hc1 hsub hval
        · cases hv
      · split at hv
        · rename_i l' os1 hc1
          cases hv
          obtain ⟨vs, e, hl⟩ := hval
          exact ⟨vs, e, canLs_ok hn hst hc1 hsub hl⟩
        · cases hv
      · cases hv
        exact fun k hk => ⟨hst k (hval k hk).1, (hval k hk).2⟩
      · cases hv
end
end Go.Proofs.Ytgpopgfidphheaa.Ab
