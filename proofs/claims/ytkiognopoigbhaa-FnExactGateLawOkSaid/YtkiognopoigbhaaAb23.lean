/- The abstract machine, part 23: what an operation that writes into nothing does elsewhere, one by one. -/
import Derived.Test.YtkiognopoigbhaaAb22
set_option linter.unusedVariables false
set_option linter.unusedSimpArgs false
set_option linter.unusedSectionVars false
namespace Go.Proofs.Ytkiognopoigbhaa.Ab
open Go Go.RowKit

section
variable {Ty : Type} [DecidableEq Ty] {C : Ty → Type}
variable {X : Cx C} {S S' : St C} {R : Type} {r : R}

theorem lk_rmAll {α : Type} : ∀ (d : List Nat) (l : List (Nat × α)) (n : Nat), lk (rmAll d l) n = if n ∈ d then none else lk l n
  | [], l, n => by simp [rmAll]
  | x :: d, l, n => by
    rw [rmAll, lk_rmAll d, lk_rm]
    by_cases h : n ∈ d <;> by_cases e : n = x <;> simp [h, e]
theorem rmAll_append {α : Type} : ∀ (d e : List Nat) (l : List (Nat × α)), rmAll (d ++ e) l = rmAll e (rmAll d l)
  | [], e, l => rfl
  | x :: d, e, l => by simp only [List.cons_append, rmAll, rmAll_append d e]
theorem Le.del (h : Le S S') (d : List Nat) : Le { S with objs := rmAll d S.objs } { S' with objs := rmAll d S'.objs } := by
  refine ⟨h.base, h.env, fun id ob hi => ?_⟩
  simp only [lk_rmAll] at hi ⊢
  split at hi
  · cases hi
  · rename_i e; rw [if_neg e]; exact h.objs id ob hi

theorem absorb_le : ∀ {ls : List (Lf C)} {S S' : St C} {ls' : List (Lf C)} {S1 : St C} {b : Bool}, Le S S' → absorb S ls = some (ls', S1, b) →
    S1 = { S with objs := rmAll (refsL ls) S.objs } ∧ absorb S' ls = some (ls', { S' with objs := rmAll (refsL ls) S'.objs }, b)
  | [], S, S', ls', S1, b, h, ha => by
    simp only [absorb, Option.some.injEq, Prod.mk.injEq] at ha
    obtain ⟨rfl, rfl, rfl⟩ := ha
    exact ⟨rfl, rfl⟩
  | l :: ls, S, S', ls', S1, b, h, ha => by
    cases l with
    | ref id p =>
      cases p with
      | cons s p => simp [absorb] at ha
      | nil =>
        simp only [absorb] at ha ⊢
        split at ha
        · rename_i t xs ho
          split at ha
          · rename_i r' S2 b2 hr
            have hd : Le (S.delObj id) (S'.delObj id) := h.del [id]
            obtain ⟨e1, e2⟩ := absorb_le hd hr
            cases ha
            rw [h.objs id _ ho]
            simp only [e2]
            exact ⟨e1, rfl⟩
          · cases ha
        · cases ha
    | nil t =>
      simp only [absorb] at ha ⊢
      split at ha
      · rename_i r' S2 b2 hr
        obtain ⟨e1, e2⟩ := absorb_le h hr
        cases ha
        simp only [e2]
        exact ⟨e1, rfl⟩
      · cases ha
    | row t xs =>
      simp only [absorb] at ha ⊢
      split at ha
      · rename_i r' S2 b2 hr
        obtain ⟨e1, e2⟩ := absorb_le h hr
        cases ha
        simp only [e2]
        exact ⟨e1, rfl⟩
      · cases ha
    | int k n =>
      simp only [absorb] at ha ⊢
      split at ha
      · rename_i r' S2 b2 hr
        obtain ⟨e1, e2⟩ := absorb_le h hr
        cases ha
        simp only [e2]
        exact ⟨e1, rfl⟩
      · cases ha
    | bool c =>
      simp only [absorb] at ha ⊢
      split at ha
      · rename_i r' S2 b2 hr
        obtain ⟨e1, e2⟩ := absorb_le h hr
        cases ha
        simp only [e2]
        exact ⟨e1, rfl⟩
      · cases ha
    | str c =>
      simp only [absorb] at ha ⊢
      split at ha
      · rename_i r' S2 b2 hr
        obtain ⟨e1, e2⟩ := absorb_le h hr
        cases ha
        simp only [e2]
        exact ⟨e1, rfl⟩
      · cases ha
    | fnc c =>
      simp only [absorb] at ha ⊢
      split at ha
      · rename_i r' S2 b2 hr
        obtain ⟨e1, e2⟩ := absorb_le h hr
        cases ha
        simp only [e2]
        exact ⟨e1, rfl⟩
      · cases ha
    | _ => simp [absorb] at ha

theorem elems_le {t : Ty} : ∀ {ps : List (Nat × Operand)} {n : Nat} {S S' : St C} {es : List (C t)} {S1 : St C} {b : Bool}, Le S S' → elems X t S n ps = some (es, S1, b) →
    S1 = { S with objs := rmAll (refsP X t S ps) S.objs } ∧ elems X t S' n ps = some (es, { S' with objs := rmAll (refsP X t S ps) S'.objs }, b)
  | [], n, S, S', es, S1, b, h, he => by
    simp only [elems, Option.some.injEq, Prod.mk.injEq] at he
    obtain ⟨rfl, rfl, rfl⟩ := he
    exact ⟨rfl, rfl⟩
  | (i, x) :: ps, n, S, S', es, S1, b, h, he => by
    simp only [elems] at he ⊢
    split at he
    · rename_i v hv
      split at he
      · rename_i ls S2 b2 ha
        split at he
        · rename_i e hd
          split at he
          · rename_i es' S3 b3 hes
            obtain ⟨hb, he⟩ := cond_some he
            obtain ⟨rfl, a2⟩ := absorb_le h ha
            obtain ⟨e1, e2⟩ := elems_le (h.del (refsL v.leaves)) hes
            cases he
            rw [opdT_le h hv]
            simp only [a2, hd, e2, hb, cond_true, refsP, hv, rmAll_append]
            exact ⟨e1, trivial⟩
          · cases he
        · cases he
      · cases he
    · cases he

theorem add_of {id : Nat} {ob : Ob C} (h : Unnamed S id) : S.add id ob = some (S.setObj id ob) := by
  unfold St.add
  have : (idsE0 S.env ++ idsO S.objs).any (Nat.beq id) = false := by
    rw [List.any_eq_false]
    intro x hx hb
    have e := Nat.eq_of_beq_eq_true hb
    subst e
    rcases List.mem_append.1 hx with hx | hx
    · exact h.1 hx
    · exact h.2 hx
  rw [this]
  rfl

theorem idsO_rm {id : Nat} {l : Objs C} {n : Nat} (h : n ∈ idsO (rm l id)) : n ∈ idsO l := by
  induction l with
  | nil => simpa [rm] using h
  | cons x l ih =>
    obtain ⟨m, ob⟩ := x
    simp only [rm] at h
    cases hb : Nat.beq id m with
    | true =>
      rw [hb] at h
      simp only [cond_true] at h
      have := ih h
      cases ob <;> simp [idsO, this]
    | false =>
      rw [hb] at h
      simp only [cond_false] at h
      cases ob with
      | box kd ls =>
        simp only [idsO, List.mem_cons, List.mem_append] at h ⊢
        rcases h with h | h | h
        · exact .inl h
        · exact .inr (.inl h)
        · exact .inr (.inr (ih h))
      | row t xs sh =>
        simp only [idsO, List.mem_cons] at h ⊢
        rcases h with h | h
        · exact .inl h
        · exact .inr (ih h)
      | map mk kt vt xs c =>
        simp only [idsO, List.mem_cons] at h ⊢
        rcases h with h | h
        · exact .inl h
        · exact .inr (ih h)
      | ghost =>
        simp only [idsO, List.mem_cons] at h ⊢
        rcases h with h | h
        · exact .inl h
        · exact .inr (ih h)
theorem idsO_rmAll {l : Objs C} {n : Nat} : ∀ {d : List Nat} {l : Objs C}, n ∈ idsO (rmAll d l) → n ∈ idsO l
  | [], l, h => h
  | x :: d, l, h => idsO_rm (idsO_rmAll (l := l) h)
theorem unnamed_del {d : List Nat} {id : Nat} (h : Unnamed S id) : Unnamed { S with objs := rmAll d S.objs } id := ⟨h.1, fun hm => h.2 (idsO_rmAll (l := S.objs) hm)⟩

/-- Many rows at once. -/
theorem addAll_of : ∀ {news : List (Nat × Ob C)} {S : St C}, (∀ id ob, (id, ob) ∈ news → Unnamed S id ∧ ∃ t xs sh, ob = .row t xs sh) → nodupN (keysO news) = true → S.addAll news = some { S with objs := news.reverse ++ S.objs }
  | [], S, _, _ => rfl
  | (id, ob) :: r, S, h, hn => by
    simp only [keysO, List.map_cons, nodupN, Bool.and_eq_true, Bool.not_eq_true'] at hn
    obtain ⟨h1, t, xs, sh, rfl⟩ := h id ob (by simp)
    simp only [St.addAll, add_of h1]
    rw [addAll_of (S := S.setObj id (.row t xs sh)) (fun j ob' hj => ?_) hn.2]
    · simp [St.setObj]
    · obtain ⟨g1, g2⟩ := h j ob' (by simp [hj])
      refine ⟨⟨g1.1, fun hm => ?_⟩, g2⟩
      simp only [St.setObj, idsO, List.mem_cons] at hm
      rcases hm with e | hm
      · subst e
        refine absurd ?_ (beq_any hn.1)
        exact List.mem_map.2 ⟨(j, ob'), hj, rfl⟩
      · exact g1.2 hm

theorem nodupN_rev {l : List Nat} : nodupN l = true ↔ l.Nodup := by
  induction l with
  | nil => simp [nodupN]
  | cons x l ih =>
    simp only [nodupN, Bool.and_eq_true, Bool.not_eq_true', List.nodup_cons, ih]
    constructor
    · exact fun ⟨h1, h2⟩ => ⟨beq_any h1, h2⟩
    · refine fun ⟨h1, h2⟩ => ⟨?_, h2⟩
      rw [List.any_eq_false]
      intro y hy hb
      exact h1 (Nat.eq_of_beq_eq_true hb ▸ hy)

theorem intern_row : ∀ (ls : List (Lf C)) (n id : Nat) (ob : Ob C), (id, ob) ∈ (intern n ls).2 → ∃ t xs sh, ob = .row t xs sh
  | [], n, id, ob, h => by simp [intern] at h
  | l :: ls, n, id, ob, h => by
    cases l with
    | row t xs =>
      simp only [intern, List.mem_cons] at h
      rcases h with h | h
      · cases h; exact ⟨t, xs, false, rfl⟩
      · exact intern_row ls _ id ob h
    | _ => exact intern_row ls (n + 1) id ob (by simpa [intern] using h)
theorem news_row : ∀ (rs : List (Bool × List (Lf C))) (n id : Nat) (ob : Ob C), (id, ob) ∈ (internAll n rs).2 → ∃ t xs sh, ob = .row t xs sh
  | [], n, id, ob, h => by simp [internAll] at h
  | (b, ls) :: r, n, id, ob, h => by
    simp only [internAll, List.mem_append] at h
    rcases h with h | h
    · exact intern_row ls n id ob h
    · exact news_row r _ id ob h

/-- What evq tells of ev at S'. -/
abbrev Told (X : Cx C) (o : Oper) (S : St C) (r : R) (k : SV C → List (Nat × Ob C) → List Nat → Option R) : Prop :=
  ∃ v news dels, k v news dels = some r ∧ ∀ (S' : St C), Le S S' → (∀ id, id ∈ keysO news → Unnamed S' id) → nodupN (keysO news) = true → ∀ {R' : Type} (k' : St C → Option R'), ev X o S' k' = k' (eff S' o.dst v news dels)

theorem newId_le (h : Le S S') (o : Oper) : newId X o = newId X o := rfl

theorem q_apnd {o : Oper} {k : SV C → List (Nat × Ob C) → List Nat → Option R} {t t0 t1 : Ty} {xs : List (C t0)} {ys : List (C t1)} {id0 id1 : Option Nat} {sh : Bool} (hq : apndq X o S t t0 t1 xs ys id0 id1 sh k = some r)
    (hev : ∀ (S' : St C), Le S S' → ∀ {R' : Type} (k' : St C → Option R'), ev X o S' k' = apnd X o S' t t0 t1 xs ys id0 id1 sh k') : Told X o S r k := by
  unfold apndq at hq
  split at hq
  · rename_i xs' ys' hx hy
    obtain ⟨hb, hq⟩ := cond_some hq
    refine ⟨_, _, _, hq, fun S' h hf _ {R'} k' => ?_⟩
    rw [hev S' h]
    have hu : Unnamed (delO (delO S' id0) id1) (newId X o) := by
      have := hf (newId X o) (by simp [keysO])
      have := unnamed_del (d := insList id0 ++ insList id1) this
      rw [rmAll_append] at this
      cases id0 <;> cases id1 <;> exact this
    unfold apnd
    simp only [hx, hy, hb, cond_true, newId_le h o, add_of hu]
    unfold eff
    rw [rmAll_append]
    cases id0 <;> cases id1 <;> rfl
  · cases hq

theorem callCq_le' {c' : Con C} {pre post : List (SV C)} {as : List Operand} {ts : List TypeId} {o o' : Oper} {k : SV C → List (Nat × Ob C) → List Nat → Option R} (hq : callCq X c' S pre as ts post o k = some r) (hoo : o' = o)
    (hev : ∀ (S' : St C), Le S S' → ∀ {R' : Type} (k' : St C → Option R'), ev X o' S' k' = callC X c' S' pre as ts post o k') : Told X o' S r k := by
  subst hoo
  unfold callCq at hq
  split at hq
  case h_2 => cases hq
  rename_i vs hvs
  cases hg : c'.g vs with
  | none => rw [hg] at hq; cases hq
  | some r0 =>
    rw [hg] at hq
    simp only [Option.bind_some] at hq
    split at hq
    case h_2 => cases hq
    rename_i v hv
    refine ⟨_, _, _, hq, fun S' h hf hnd {R'} k' => ?_⟩
    rw [hev S' h]
    unfold callC
    simp only [argsC_le h hvs, hg, Option.bind_some, hv]
    have hnd' : nodupN (keysO (internAll (newId X o') (c'.ret r0)).2) = true := by
      rw [nodupN_rev] at hnd ⊢
      have e : keysO (internAll (newId X o') (c'.ret r0)).2.reverse = (keysO (internAll (newId X o') (c'.ret r0)).2).reverse := by simp [keysO]
      rw [e] at hnd
      exact (List.reverse_perm _).nodup_iff.1 hnd
    rw [addAll_of (fun id ob hm => ⟨hf id ?_, ?_⟩) hnd']
    · rfl
    · exact List.mem_map.2 ⟨(id, ob), by simpa using hm, rfl⟩
    · exact news_row _ _ _ _ hm
theorem callCq_le {c' : Con C} {pre post : List (SV C)} {as : List Operand} {ts : List TypeId} {o o' : Oper} {k : SV C → List (Nat × Ob C) → List Nat → Option R} (hq : callCq X c' S pre as ts post o k = some r) (hoo : o' = o)
    (hev : ∀ (S' : St C) {R' : Type} (k' : St C → Option R'), ev X o' S' k' = callC X c' S' pre as ts post o k') : Told X o' S r k :=
  callCq_le' hq hoo fun S' _ {R'} k' => hev S' k'

theorem evq_le {o : Oper} {k : SV C → List (Nat × Ob C) → List Nat → Option R} (hq : evq X o S k = some r) : Told X o S r k := by
  obtain ⟨dst, op, ty, pos, aft, gd⟩ := o
  cases op with
  | move x =>
    simp only [evq] at hq
    split at hq
    · rename_i v hv
      exact ⟨_, _, _, hq, fun S' h _ _ {R'} k' => by simp only [ev, opdT_le h hv]; rfl⟩
    · cases hq
  | pick c x y =>
    simp only [evq] at hq
    split at hq
    · rename_i c' x' y' h1 h2 h3
      exact ⟨_, _, _, hq, fun S' h _ _ {R'} k' => by simp only [ev, opd_le h h1, opd_le h h2, opd_le h h3]; rfl⟩
    · rename_i v z h1 h2 hno
      refine ⟨_, _, _, hq, fun S' h _ _ {R'} k' => ?_⟩
      simp only [ev, opd_le h h1, opd_le h h2]
      generalize opd S' y = u
      rcases u with _ | (l | ls | vs) <;> rcases z with (l' | _ | _)
      all_goals first | rfl | (cases l' <;> first | rfl | (cases l <;> rfl))
    · rename_i v h1 h2 hno
      refine ⟨_, _, _, hq, fun S' h _ _ {R'} k' => ?_⟩
      simp only [ev, opd_le h h1, opd_le h h2]
      generalize opd S' x = u
      rcases u with _ | (l | ls | vs) <;> rcases v with (l' | _ | _)
      all_goals first | rfl | (cases l' <;> first | rfl | (cases l <;> rfl)) | (cases l <;> rfl)
    · cases hq
  | box e x =>
    simp only [evq] at hq
    split at hq
    · rename_i v tk hv ht
      obtain ⟨hb, hq⟩ := cond_some hq
      refine ⟨_, _, _, hq, fun S' h hf _ {R'} k' => ?_⟩
      have hu := hf (newId X ⟨dst, .box e x, ty, pos, aft, gd⟩) (by simp [keysO])
      simp only [ev, opd_le h hv, ht, hb, cond_true, add_of hu]
      rfl
    · cases hq
  | alloc e =>
    simp only [evq] at hq
    split at hq
    · rename_i z ht
      refine ⟨_, _, _, hq, fun S' h hf _ {R'} k' => ?_⟩
      have hu := hf (newId X ⟨dst, .alloc e, ty, pos, aft, gd⟩) (by simp [keysO])
      simp only [ev, ht, add_of hu]
      rfl
    · rename_i fs zs ht
      refine ⟨_, _, _, hq, fun S' h hf _ {R'} k' => ?_⟩
      have hu := hf (newId X ⟨dst, .alloc e, ty, pos, aft, gd⟩) (by simp [keysO])
      simp only [ev, ht, add_of hu]
      rfl
    · cases hq
  | build t ps =>
    simp only [evq] at hq
    split at hq
    · rename_i fs zs ht
      split at hq
      · rename_i ls hp
        obtain ⟨hb, hq⟩ := cond_some hq
        refine ⟨_, _, _, hq, fun S' h hf _ {R'} k' => ?_⟩
        simp only [ev, ht, parts_le h hp, hb, cond_true]
        rfl
      · cases hq
    · cases hq
  | buildSlice t n ps =>
    simp only [evq] at hq
    split at hq
    · rename_i t1 ht
      split at hq
      · rename_i es S1 b he
        obtain ⟨hb, hq⟩ := cond_some hq
        refine ⟨_, _, _, hq, fun S' h hf _ {R'} k' => ?_⟩
        obtain ⟨_, e2⟩ := elems_le h he
        have hu := unnamed_del (d := refsP X t1 S ps.toList) (hf (newId X ⟨dst, .buildSlice t n ps, ty, pos, aft, gd⟩) (by simp [keysO]))
        simp only [ev, ht, e2, hb, cond_true, add_of hu]
        rfl
      · cases hq
    · cases hq
  | load t x =>
    simp only [evq] at hq
    split at hq
    · rename_i tk l ht hx
      obtain ⟨ls, hk, hg⟩ := cells_le hq
      split at hk
      · rename_i v hm
        refine ⟨_, _, _, hk, fun S' h hf _ {R'} k' => ?_⟩
        simp only [ev, ht, opd_le h hx]
        rw [hg h]
        simp only [hm]
        rfl
      · cases hk
    · cases hq
  | nilCheck x =>
    simp only [evq] at hq
    split at hq
    · rename_i id off hx
      exact ⟨_, _, _, hq, fun S' h _ _ {R'} k' => by simp only [ev, opd_le h hx]; rfl⟩
    · rename_i t0 x0 off hx
      exact ⟨_, _, _, hq, fun S' h _ _ {R'} k' => by simp only [ev, opd_le h hx]; rfl⟩
    · rename_i id p i off hx
      exact ⟨_, _, _, hq, fun S' h _ _ {R'} k' => by simp only [ev, opd_le h hx]; rfl⟩
    · rename_i v n1 n2 n3 hx
      obtain ⟨e, hq⟩ := cond_some hq
      refine ⟨_, _, _, hq, fun S' h _ _ {R'} k' => ?_⟩
      simp only [ev, opd_le h hx]
      rw [liveV_le h e]
      rfl
    · cases hq
  | binOp op t x y t' =>
    simp only [evq] at hq
    split at hq
    · cases hq
    · rename_i u v hne hu hv
      cases hnk : isNilK v with
      | true =>
        rw [hnk] at hq
        simp only [cond_true] at hq
        obtain ⟨z, hk, hg⟩ := cmpNil_le hq
        refine ⟨_, _, _, hk, fun S' h hf _ {R'} k' => ?_⟩
        simp only [ev, opdT_le h hu, opdT_le h hv, hnk, cond_true]
        rw [hg h]
        rfl
      | false =>
        rw [hnk] at hq
        simp only [cond_false] at hq
        obtain ⟨z, hk, hg⟩ := binL_le hq
        refine ⟨_, _, _, hk, fun S' h hf _ {R'} k' => ?_⟩
        simp only [ev, opdT_le h hu, opdT_le h hv, hnk, cond_false]
        rw [hg]
        rfl
    · cases hq
  | unOp op t x =>
    simp only [evq] at hq
    split at hq
    · rename_i b hv
      exact ⟨_, _, _, hq, fun S' h _ _ {R'} k' => by simp only [ev, opd_le h hv]; rfl⟩
    · rename_i ki n hv
      exact ⟨_, _, _, hq, fun S' h _ _ {R'} k' => by simp only [ev, opd_le h hv]; rfl⟩
    · cases hq
  | convert t t' x =>
    simp only [evq] at hq
    split at hq
    · rename_i k1 k' k0 n h1 h2 hv
      exact ⟨_, _, _, hq, fun S' h _ _ {R'} k' => by simp only [ev, h1, h2, opd_le h hv]; rfl⟩
    · rename_i k1 s h1 h2 hv
      exact ⟨_, _, _, hq, fun S' h _ _ {R'} k' => by simp only [ev, h1, h2, opd_le h hv]; rfl⟩
    · rename_i t1 l h1 h2 hv
      obtain ⟨t0, xs, hk, hg⟩ := Sli_le hq
      obtain ⟨e1, hk⟩ := cond_some hk
      obtain ⟨e2, hk⟩ := cond_some hk
      split at hk
      · rename_i h3
        refine ⟨_, _, _, hk, fun S' h _ _ {R'} k' => ?_⟩
        simp only [ev, h1, h2, opd_le h hv]
        rw [hg h]
        simp only [e1, e2, h3, cond_true]
        rfl
      · cases hk
    · cases hq
  | makeSlice t x y =>
    simp only [evq] at hq
    cases hz0 : isZeroC x with
    | true =>
      rw [hz0] at hq
      simp only [cond_true] at hq
      split at hq
      case h_2 => cases hq
      rename_i t1 km m ht hy
      obtain ⟨e2, hq⟩ := cond_some hq
      obtain ⟨e3, hq⟩ := cond_some hq
      refine ⟨_, _, _, hq, fun S' h hf _ {R'} k' => ?_⟩
      have hu := hf (newId X ⟨dst, .makeSlice t x y, ty, pos, aft, gd⟩) (by simp [keysO])
      simp only [ev, hz0, ht, opd_le h hy, e2, e3, cond_true, add_of hu]
      rfl
    | false =>
    rw [hz0] at hq
    simp only [cond_false] at hq
    split at hq
    · rename_i t1 kn n km m ht hx hy
      obtain ⟨e1, hq⟩ := cond_some hq
      obtain ⟨e2, hq⟩ := cond_some hq
      obtain ⟨e3, hq⟩ := cond_some hq
      refine ⟨_, _, _, hq, fun S' h hf _ {R'} k' => ?_⟩
      have hu := hf (newId X ⟨dst, .makeSlice t x y, ty, pos, aft, gd⟩) (by simp [keysO])
      simp only [ev, hz0, cond_false, ht, opd_le h hx, opd_le h hy, e1, e2, e3, cond_true, add_of hu]
      rfl
    · cases hq
  | slice t x lo hi mx =>
    simp only [evq] at hq
    split at hq
    · rename_i s ht hx
      split at hq
      · rename_i l q hl hh
        obtain ⟨e1, hq⟩ := cond_some hq
        obtain ⟨e2, hq⟩ := cond_some hq
        obtain ⟨e3, hq⟩ := cond_some hq
        refine ⟨_, _, _, hq, fun S' h hf _ {R'} k' => ?_⟩
        simp only [ev, ht, opd_le h hx, bnd_le h hl, bnd_le h hh, e1, e2, e3, cond_true]
        rfl
      · cases hq
    · rename_i t1 t0 xs ht hx
      split at hq
      · rename_i l q hl hh
        obtain ⟨e0, hq⟩ := cond_some hq
        obtain ⟨e1, hq⟩ := cond_some hq
        obtain ⟨e2, hq⟩ := cond_some hq
        obtain ⟨e3, hq⟩ := cond_some hq
        refine ⟨_, _, _, hq, fun S' h hf _ {R'} k' => ?_⟩
        simp only [ev, ht, opd_le h hx, bnd_le h hl, bnd_le h hh, e0, e1, e2, e3, cond_true]
        rfl
      · cases hq
    · cases hq
  | fieldAddr t x f =>
    simp only [evq] at hq
    split at hq
    · rename_i fs zs l ht hx
      split at hq
      · rename_i off n ag hf
        split at hq
        · rename_i l' hl
          exact ⟨_, _, _, hq, fun S' h _ _ {R'} k' => by simp only [ev, ht, opd_le h hx, hf, hl]; rfl⟩
        · cases hq
      · cases hq
    · cases hq
  | field t x f =>
    simp only [evq] at hq
    split at hq
    · rename_i fs zs ls ht hx
      split at hq
      · rename_i off n hf
        exact ⟨_, _, _, hq, fun S' h _ _ {R'} k' => by simp only [ev, ht, opd_le h hx, hf]; rfl⟩
      · rename_i off n hf
        split at hq
        · rename_i l hl
          exact ⟨_, _, _, hq, fun S' h _ _ {R'} k' => by simp only [ev, ht, opd_le h hx, hf, hl]; rfl⟩
        · cases hq
      · cases hq
    · cases hq
  | indexAddr t x y =>
    simp only [evq] at hq
    split at hq
    · rename_i t1 t0 xs ki n ht hx hy
      obtain ⟨e1, hq⟩ := cond_some hq
      obtain ⟨e2, hq⟩ := cond_some hq
      cases hz : xs[n.toNat]? with
      | none => rw [hz] at hq; cases hq
      | some e =>
        rw [hz] at hq
        refine ⟨_, _, _, hq, fun S' h _ _ {R'} k' => ?_⟩
        simp only [ev, ht, opd_le h hx, opd_le h hy, e1, e2, cond_true, hz]
        rfl
    · rename_i t1 id p ki n ht hx hy
      obtain ⟨e1, hq⟩ := cond_some hq
      obtain ⟨t0, xs, hk, hg⟩ := Sli_le hq
      obtain ⟨e2, hk⟩ := cond_some hk
      obtain ⟨e3, hk⟩ := cond_some hk
      refine ⟨_, _, _, hk, fun S' h _ _ {R'} k' => ?_⟩
      simp only [ev, ht, opd_le h hx, opd_le h hy, e1, cond_true]
      rw [hg h]
      simp only [e2, e3, cond_true]
      rfl
    · cases hq
  | index t x y =>
    simp only [evq] at hq
    split at hq
    · rename_i s ki n ht hx hy
      obtain ⟨e1, hq⟩ := cond_some hq
      obtain ⟨e2, hq⟩ := cond_some hq
      refine ⟨_, _, _, hq, fun S' h _ _ {R'} k' => ?_⟩
      simp only [ev, ht, opd_le h hx, opd_le h hy, e1, e2, cond_true]
      rfl
    · cases hq
  | extract x i =>
    simp only [evq] at hq
    split at hq
    · rename_i vs hv
      split at hq
      · rename_i l hl
        exact ⟨_, _, _, hq, fun S' h _ _ {R'} k' => by simp only [ev, opd_le h hv, hl]; rfl⟩
      · rename_i ls hl
        exact ⟨_, _, _, hq, fun S' h _ _ {R'} k' => by simp only [ev, opd_le h hv, hl]; rfl⟩
      · cases hq
    · cases hq
  | call c =>
    obtain ⟨cal, as, ts⟩ := c
    cases cal with
    | builtin bi => cases bi with
      | len =>
        obtain ⟨al⟩ := as
        obtain ⟨tl⟩ := ts
        simp only [evq] at hq
        split at hq
        · rename_i x t
          split at hq
          · rename_i s ht hx
            exact ⟨_, _, _, hq, fun S' h _ _ {R'} k' => by simp only [ev, ht, opd_le h hx]; rfl⟩
          · rename_i t1 l ht hx
            obtain ⟨t0, xs, hk, hg⟩ := Sli_le hq
            refine ⟨_, _, _, hk, fun S' h _ _ {R'} k' => ?_⟩
            simp only [ev, ht, opd_le h hx]
            rw [hg h]
            rfl
          · cases hq
        · cases hq
      | append =>
        obtain ⟨al⟩ := as
        obtain ⟨tl⟩ := ts
        simp only [evq] at hq
        split at hq
        · rename_i s x t t'
          split at hq
          · rename_i t1 l m ht hs hx
            obtain ⟨hb, hq⟩ := cond_some hq
            split at hq
            · rename_i t0
              split at hq
              · rename_i id
                split at hq
                · rename_i t2 ys sh ho
                  refine q_apnd hq fun S' h {R'} k' => ?_
                  simp only [ev, ht, opdT_le h hs, opdT_le h hx, hb, cond_true, h.objs _ _ ho]
                · cases hq
              · rename_i t2 ys
                refine q_apnd hq fun S' h {R'} k' => ?_
                simp only [ev, ht, opdT_le h hs, opdT_le h hx, hb, cond_true]
              · rename_i t2
                refine q_apnd hq fun S' h {R'} k' => ?_
                simp only [ev, ht, opdT_le h hs, opdT_le h hx, hb, cond_true]
              · cases hq
            · rename_i id0
              split at hq
              · rename_i t0 xs sh0 ho0
                split at hq
                · rename_i id
                  obtain ⟨hb2, hq⟩ := cond_some' hq
                  split at hq
                  · rename_i t2 ys sh ho
                    refine q_apnd hq fun S' h {R'} k' => ?_
                    simp only [ev, ht, opdT_le h hs, opdT_le h hx, hb, cond_true, h.objs _ _ ho0, h.objs _ _ ho, hb2, cond_false]
                  · cases hq
                · rename_i t2 ys
                  refine q_apnd hq fun S' h {R'} k' => ?_
                  simp only [ev, ht, opdT_le h hs, opdT_le h hx, hb, cond_true, h.objs _ _ ho0]
                · rename_i t2
                  refine q_apnd hq fun S' h {R'} k' => ?_
                  simp only [ev, ht, opdT_le h hs, opdT_le h hx, hb, cond_true, h.objs _ _ ho0]
                · cases hq
              · cases hq
            · cases hq
          · cases hq
        · cases hq
      | _ => exact absurd hq (by simp [evq])
    | value f => cases f with
      | func f =>
        simp only [evq] at hq
        split at hq
        · rename_i c' hc
          refine callCq_le hq rfl fun S' {R'} k' => ?_
          simp only [ev, hc]
        · cases hq
      | tmp t =>
        simp only [evq] at hq
        split at hq
        · rename_i l hl
          obtain ⟨f, pre, post, h1, h2⟩ := cloOf_le hq
          split at h1
          · rename_i c' hc
            refine callCq_le' h1 rfl fun S' h {R'} k' => ?_
            simp only [ev, h.env t _ hl]
            rw [h2 h]
            simp only [callF, hc]
          · cases h1
        · cases hq
      | _ => exact absurd hq (by simp [evq])
    | invoke x name =>
      simp only [evq] at hq
      obtain ⟨t, v, h1, h2⟩ := ifcOf_le hq
      split at h1
      · rename_i f hm
        split at h1
        · rename_i c' hc
          refine callCq_le' h1 rfl fun S' h {R'} k' => ?_
          simp only [ev]
          rw [h2 h]
          simp only [hm, callF, hc]
        · cases h1
      · cases h1
  | makeFunc fn first captured =>
    simp only [evq] at hq
    split at hq
    case h_2 => cases hq
    split at hq
    case h_2 => cases hq
    rename_i vs us hvs hus
    cases he : (vs ++ us).isEmpty with
    | true =>
      rw [he] at hq
      refine ⟨_, _, _, hq, fun S' h hf _ {R'} k' => ?_⟩
      simp only [ev, argsI_le h hvs, argsI_le h hus, he, cond_true]
      rfl
    | false =>
      rw [he] at hq
      refine ⟨_, _, _, hq, fun S' h hf _ {R'} k' => ?_⟩
      have hu := hf _ (List.mem_singleton.2 rfl)
      simp only [ev, argsI_le h hvs, argsI_le h hus, he, cond_false, add_of hu]
      rfl
  | makeInterface t x =>
    simp only [evq] at hq
    split at hq
    case h_2 => cases hq
    rename_i tk v ht hv
    obtain ⟨e, hq⟩ := cond_some hq
    refine ⟨_, _, _, hq, fun S' h hf _ {R'} k' => ?_⟩
    have hu := hf (newId X ⟨dst, .makeInterface t x, ty, pos, aft, gd⟩) (by simp [keysO])
    simp only [ev, ht, opdT_le h hv, e, cond_true, add_of hu]
    rfl
  | lookup t x i ok =>
    simp only [evq] at hq
    split at hq
    case h_2 => cases hq
    rename_i m l key hm hx hi
    obtain ⟨e, hq⟩ := cond_some' hq
    obtain ⟨v, h1, h2⟩ := lookV_le hq
    refine ⟨_, _, _, h1, fun S' h hf _ {R'} k' => ?_⟩
    simp only [ev, hm, opd_le h hx, opd_le h hi, e, cond_false]
    rw [h2 h]
    rfl
  | _ => exact absurd hq (by simp [evq])
end
end Go.Proofs.Ytkiognopoigbhaa.Ab
