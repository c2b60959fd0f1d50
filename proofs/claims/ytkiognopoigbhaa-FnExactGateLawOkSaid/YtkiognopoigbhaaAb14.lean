/- The abstract machine, part 14: append, literals, calls. -/
import Derived.Test.YtkiognopoigbhaaAb13
set_option linter.unusedVariables false
set_option linter.unusedSimpArgs false
set_option linter.unusedSectionVars false
namespace Go.Proofs.Ytkiognopoigbhaa.Ab
open Go Go.RowKit

section
variable {Ty : Type} [DecidableEq Ty] {C : Ty → Type}
variable {P : Program} {X : Cx C} {w0 w : World} {nt : Nat} {S : St C} {β : Nat → Value} {fp : Nat → Nat → Prop} {a : Act} {R : Type} {k : St C → Option R} {r : R}
variable {dst : Option Tmp} {ty : TypeId} {pos : String} {aft : Array Edge} {gd : Option (Nat × Bool)} {Q : Exit → Act → World → Prop}

theorem s_append (hX : XOk P X) (hs : Sim X.K w0 nt S β fp a w) (hd : slot dst nt) {as : Array Operand} {ts : Array TypeId} (h : ev X ⟨dst, .call { callee := .builtin .append, args := as, argTypes := ts }, ty, pos, aft, gd⟩ S k = some r) : Goal P X w0 nt k r Q ⟨dst, .call { callee := .builtin .append, args := as, argTypes := ts }, ty, pos, aft, gd⟩ a w := by
  obtain ⟨al⟩ := as
  obtain ⟨tl⟩ := ts
  simp only [ev] at h
  split at h
  · rename_i s x t t'
    split at h
    · rename_i t1 l m ht hl hm
      obtain ⟨he, h⟩ := cond_some h
      have he := Nat.eq_of_beq_eq_true he
      simp only [List.headD_cons] at he
      subst he
      have hl := sv_one (opdT_ok hs hl)
      have hm := sv_one (opdT_ok hs hm)
      have fin : ∀ {t0 t1' : Ty} {xs : List (C t0)} {ys : List (C t1')} {id0 id1 : Option Nat} {sh0 sh1 : Bool},
          apnd X ⟨dst, .call { callee := .builtin .append, args := ⟨[s, x]⟩, argTypes := ⟨[t, t]⟩ }, ty, pos, aft, gd⟩ S t1 t0 t1' xs ys id0 id1 (sh0 || sh1) k = some r → (∀ i, id0 = some i → id1 ≠ some i) →
          (∃ cs, w.ownsRow w0.heap.size (X.K.tid t0) (X.K.sz t0) (a.eval s) xs.length cs ∧ (∀ g, (a.eval s).ownBlock = some g → ofId fp id0 g) ∧ Elems X.K w w0.heap.size (stbOf S.objs fp w) (ofId fp id0) t0 xs (a.eval s).ownBlock (fun m => cs.getD m undef) sh0) →
          (∀ i, id0 = some i → ∃ ob, lk S.objs i = some ob) → (∀ i, id1 = some i → ∃ ob, lk S.objs i = some ob) →
          Handed X.K w w0.heap.size (stbOf S.objs fp w) (ofId fp id1) t1' ys (a.eval x) sh1 →
          Goal P X w0 nt k r Q ⟨dst, .call { callee := .builtin .append, args := ⟨[s, x]⟩, argTypes := ⟨[t, t]⟩ }, ty, pos, aft, gd⟩ a w := by
        intro t0 t1' xs ys id0 id1 sh0 sh1 ha hne hb h0 h1 hh
        obtain ⟨v', w', hr, hn⟩ := apnd_ok (P := P) hX hs hd (o := ⟨dst, .call { callee := .builtin .append, args := ⟨[s, x]⟩, argTypes := ⟨[t, t]⟩ }, ty, pos, aft, gd⟩) rfl ht ha hne hb h0 h1 hh (ty := ty)
        refine wp_value (v := v') (w' := w') ?_ hn
        simp only [execOp, resolve, Sem.run_bind, Sem.run_pure, Result.andThen_ok, invoke, builtin, List.map_toArray, List.map_cons, List.map_nil]
        rw [hr]
        rfl
      have nilB : ∀ {t0 : Ty}, l = .nil t0 → ∃ cs, w.ownsRow w0.heap.size (X.K.tid t0) (X.K.sz t0) (a.eval s) ([] : List (C t0)).length cs ∧ (∀ g, (a.eval s).ownBlock = some g → ofId fp none g) ∧ Elems X.K w w0.heap.size (stbOf S.objs fp w) (ofId fp none) t0 [] (a.eval s).ownBlock (fun m => cs.getD m undef) false := by
        intro t0 e
        subst e
        have e : a.eval s = .slice none 0 0 := hl
        rw [e]
        exact ⟨[], World.ownsRow_nil .., fun g hg => by simp [Value.ownBlock] at hg, elems_nil⟩
      have refB : ∀ {id0 : Nat} {t0 : Ty} {xs : List (C t0)} {sh0 : Bool}, l = .ref id0 [] → lk S.objs id0 = some (.row t0 xs sh0) → ∃ cs, w.ownsRow w0.heap.size (X.K.tid t0) (X.K.sz t0) (a.eval s) xs.length cs ∧ (∀ g, (a.eval s).ownBlock = some g → ofId fp (some id0) g) ∧ Elems X.K w w0.heap.size (stbOf S.objs fp w) (ofId fp (some id0)) t0 xs (a.eval s).ownBlock (fun m => cs.getD m undef) sh0 := by
        intro id0 t0 xs sh0 e ho
        subst e
        rw [hl.2]
        exact ob_elems (hs.objs id0 _ ho)
      have refH : ∀ {id1 : Nat} {t0 : Ty} {xs : List (C t0)} {sh0 : Bool}, m = .ref id1 [] → lk S.objs id1 = some (.row t0 xs sh0) → Handed X.K w w0.heap.size (stbOf S.objs fp w) (ofId fp (some id1)) t0 xs (a.eval x) sh0 := by
        intro id0 t0 xs sh0 e ho
        subst e
        rw [hm.2]
        exact handed_ob (hs.objs id0 _ ho)
      have rowH : ∀ {t0 : Ty} {xs : List (C t0)}, m = .row t0 xs → Handed X.K w w0.heap.size (stbOf S.objs fp w) (ofId fp none) t0 xs (a.eval x) true := by
        intro t0 xs e
        subst e
        exact handed_row hm
      have nilH : ∀ {t0 : Ty}, m = .nil t0 → Handed X.K w w0.heap.size (stbOf S.objs fp w) (ofId fp none) t0 [] (a.eval x) false := by
        intro t0 e
        subst e
        have e : a.eval x = .slice none 0 0 := hm
        rw [e]
        exact handed_nil
      have one : ∀ {i : Nat} {ob : Ob C}, lk S.objs i = some ob → ∀ j, some i = some j → ∃ ob, lk S.objs j = some ob := fun h j e => by cases e; exact ⟨_, h⟩
      have non : ∀ j, (none : Option Nat) = some j → ∃ ob, lk S.objs j = some ob := fun j e => by cases e
      split at h
      · rename_i t0
        split at h
        · rename_i id
          split at h
          · rename_i t1' ys sh ho
            exact fin (sh0 := false) (sh1 := sh) (by simpa using h) (fun i e => by cases e) (nilB rfl) non (one ho) (refH rfl ho)
          · cases h
        · exact fin (sh0 := false) (sh1 := true) (by simpa using h) (fun i e => by cases e) (nilB rfl) non non (rowH rfl)
        · exact fin (sh0 := false) (sh1 := false) (by simpa using h) (fun i e => by cases e) (nilB rfl) non non (nilH rfl)
        · cases h
      · rename_i id0
        split at h
        · rename_i t0 xs sh0 ho0
          split at h
          · rename_i id
            obtain ⟨hne, h⟩ := cond_some' h
            split at h
            · rename_i t1' ys sh ho
              refine fin (sh0 := sh0) (sh1 := sh) h (fun i e e' => ?_) (refB rfl ho0) (one ho0) (one ho) (refH rfl ho)
              cases e
              cases e'
              simp [Nat.beq_refl] at hne
            · cases h
          · exact fin (sh0 := sh0) (sh1 := true) (by simpa using h) (fun i e => by simp) (refB rfl ho0) (one ho0) non (rowH rfl)
          · exact fin (sh0 := sh0) (sh1 := false) (by simpa using h) (fun i e => by simp) (refB rfl ho0) (one ho0) non (nilH rfl)
          · cases h
        · cases h
      · cases h
    · cases h
  · cases h
end
end Go.Proofs.Ytkiognopoigbhaa.Ab
