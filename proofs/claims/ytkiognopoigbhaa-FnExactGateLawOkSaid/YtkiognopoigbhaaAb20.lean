/- The abstract machine, part 20: code. -/
import Derived.Scope
import Derived.Test.YtkiognopoigbhaaAb26
set_option linter.unusedVariables false
set_option linter.unusedSimpArgs false
set_option linter.unusedSectionVars false
namespace Go.Proofs.Ytkiognopoigbhaa.Ab
open Go Go.RowKit

section
variable {Ty : Type} [DecidableEq Ty] {C : Ty → Type}
variable {P : Program} {X : Cx C} {w0 w : World} {nt : Nat} {S : St C} {β : Nat → Value} {fp : Nat → Nat → Prop} {a : Act} {R : Type} {r : R}

def slotB (nt : Nat) : Option Tmp → Bool
  | some t => Nat.blt t nt
  | none => true
def opsB (nt : Nat) : List Oper → Bool
  | [] => true
  | o :: r => slotB nt o.dst && opsB nt r
/-- Every slot is one of the frame's. -/
def codeB (nt : Nat) : Code → Bool
  | .region _ ops _ => opsB nt ops.toList
  | .seq a b => codeB nt a && codeB nt b
  | .cond _ a b => codeB nt a && codeB nt b
  | .block _ c => codeB nt c
  | .loop c => codeB nt c
  | .scope c => codeB nt c
  | _ => true
theorem opsB_ok : ∀ {l : List Oper}, opsB nt l = true → ∀ o, o ∈ l → slot o.dst nt
  | [], _, o, h => by cases h
  | x :: l, hb, o, h => by
    simp only [opsB, Bool.and_eq_true] at hb
    rcases List.mem_cons.1 h with e | h
    · subst e
      intro t ht
      have := hb.1
      rw [ht] at this
      simp only [slotB] at this
      have h2 : Nat.ble (t + 1) nt = true := this
      exact Nat.le_of_ble_eq_true h2
    · exact opsB_ok hb.2 o h

theorem Sim.drawn {K : Cd C} (h : Sim K w0 nt S β fp a w) : Sim K w0 nt S β fp a { w with drawn := w.drawn + 1 } := by
  have hst : ∀ k, stbOf S.objs fp w k → stbOf S.objs fp { w with drawn := w.drawn + 1 } k ∧ ({ w with drawn := w.drawn + 1 } : World).heap[k]? = w.heap[k]? := fun k hk => ⟨hk, rfl⟩
  have hid : ∀ id, Keeps w { w with drawn := w.drawn + 1 } S.objs S.objs β β fp fp id := fun id => ⟨rfl, fun _ _ _ ho => ⟨ho, fun k hk => ⟨hk, rfl⟩⟩⟩
  exact ⟨h.below.trans ⟨rfl, rfl, rfl, Nat.le_refl _, fun _ _ => rfl⟩, h.defers, h.size, h.fresh, h.disj, fun id ob ho => (h.objs id ob ho).tr hst (fun _ _ => rfl) (fun _ _ _ id _ => hid id), fun t v ht => (h.env t v ht).tr hst fun id _ => hid id⟩

theorem num_all : ∀ {l : List Oper} {n : Nat}, ∀ x, x ∈ numbered n l → l[x.1 - n]? = some x.2
  | [], n, x, h => by cases h
  | o :: l, n, x, h => by
    rcases List.mem_cons.1 h with e | h
    · subst e; simp
    · have h1 := num_all (l := l) (n := n + 1) x h
      have h2 : ∀ {l : List Oper} {n : Nat}, ∀ x, x ∈ numbered n l → n ≤ x.1 := by
        intro l
        induction l with
        | nil => intro n x h; cases h
        | cons o l ih => intro n x h; rcases List.mem_cons.1 h with e | h; subst e; exact Nat.le_refl _; have := ih x h; omega
      have h3 := h2 x h
      have e : x.1 - n = (x.1 - (n + 1)) + 1 := by omega
      rw [e]
      simpa using h1
theorem num_asc : ∀ {l : List Oper} {n : Nat}, (numbered n l).Pairwise (fun x y => x.1 < y.1) ∧ ∀ x, x ∈ numbered n l → n ≤ x.1
  | [], n => ⟨List.Pairwise.nil, fun x h => by cases h⟩
  | o :: l, n => by
    obtain ⟨h1, h2⟩ := num_asc (l := l) (n := n + 1)
    refine ⟨List.pairwise_cons.2 ⟨fun x hx => ?_, h1⟩, fun x hx => ?_⟩
    · have := h2 x hx
      show n < x.1
      omega
    · rcases List.mem_cons.1 hx with e | hx
      · subst e; exact Nat.le_refl _
      · have := h2 x hx; omega
theorem num_has : ∀ {l : List Oper} {n i : Nat}, i < l.length → ∃ x, x ∈ numbered n l ∧ x.1 = n + i
  | [], n, i, h => by simp at h
  | o :: l, n, i, h => by
    cases i with
    | zero => exact ⟨(n, o), by simp [numbered], rfl⟩
    | succ i =>
      obtain ⟨x, h1, h2⟩ := num_has (l := l) (n := n + 1) (i := i) (by simpa using h)
      exact ⟨x, by simp [numbered, h1], by omega⟩

theorem draw_sound (hX : XOk P X) (hC : Cons P X) (hm : P.follows .mixedOrders = true) {all : Array Oper} {tab : List (Nat × Nat)} {k : St C → Option R} {Q : Exit → Act → World → Prop} {id : Nat} (hall : ∀ o, o ∈ all.toList → slot o.dst nt)
    (hQ : ∀ a w, Next X.K w0 nt k r a w → Q .normal a w) (hs : Sim X.K w0 nt S β fp a w) (h : drun X all tab S k = some r) : (Code.region id all true).wp P Q a w := by
  obtain ⟨hb, h⟩ := cond_some h
  have hp := preP_of hb
  have hnum := num_all (l := all.toList) (n := 0)
  have hasc : Asc all (numbered 0 all.toList) := ⟨(num_asc (l := all.toList) (n := 0)).1, fun x hx => by have := hnum x hx; simpa using this⟩
  obtain ⟨rest, ents, g2, g3, g4, g5, g6, g7, g8, _, g9⟩ := dlay_out hp 4096 _ _ [] hasc (fun e he => (by cases he)) ⟨List.Pairwise.nil, fun e he => (by cases he), fun e he => (by cases he)⟩ h
  have hno : ∀ i, ¬ Listed (Array.replicate all.size false) i := by
    intro i hi
    unfold Listed at hi
    simp [Array.getD_eq_getD_getElem?, Array.getElem?_replicate] at hi
    split at hi <;> simp at hi
  refine wp_region_any hm (draw_any hX hC hp hall hQ all.size _ a _ rest _ ents [] (by simp) (by simp) (fun i o _ hi => absurd hi (hno i)) ⟨g2, g3, g4, g5, g9, List.Pairwise.nil, fun e he => (by cases he), fun e he => ⟨fun hi => absurd hi (hno _), fun hi => (by cases hi)⟩, fun i hi => .inr ?_, fun x _ => hno x.1, ?_⟩)
  · obtain ⟨x, hx, hxi⟩ := num_has (l := all.toList) (n := 0) (i := i) (by simpa using hi)
    rcases g8 x hx with h' | ⟨e, he, hex⟩
    · exact .inr ⟨x, h', by omega⟩
    · exact .inl ⟨e, he, by omega⟩
  refine ⟨β, fp, hs.drawn.less _ fun t v ht => ?_⟩
  rw [lk_rmAll] at ht
  split at ht
  · cases ht
  · exact ht

/-- What is so behind a piece of code. -/
def post (K : Cd C) (w0 : World) (nt : Nat) (k : Ex → St C → Option R) (r : R) : Exit → Act → World → Prop
  | .normal, a, w => ∃ S', SimE K w0 nt S' a w ∧ k .norm S' = some r
  | .exit id, a, w => ∃ S', SimE K w0 nt S' a w ∧ k (.exit id) S' = some r
  | .ret, a, w => ∃ S', SimE K w0 nt S' a w ∧ k .ret S' = some r
  | _, _, _ => False

theorem canThen_some {ent : List Nat} {rec : St C → Option R} (h : canThen ent rec S = some r) : ∃ S', S.canon ent = some S' ∧ rec S' = some r := by
  unfold canThen at h
  split at h
  · rename_i S' hS; rw [forceS_eq] at h; exact ⟨S', hS, h⟩
  · cases h

theorem run_sound (hX : XOk P X) (hC : Cons P X) (hm : P.follows .mixedOrders = true) (F : Cf) : ∀ (c : Code) (cur : Nat) (S : St C) (a : Act) (w : World) (k : Ex → St C → Option R), codeB nt c = true → SimE X.K w0 nt S a w →
    run X F c cur S k = some r → c.wp P (post X.K w0 nt k r) a w := by
  intro c
  induction c with
  | skip =>
    intro cur S a w k _ hs h
    exact Go.wp_skip ⟨S, hs, h⟩
  | label l =>
    intro cur S a w k _ hs h
    exact Go.wp_label ⟨S, hs, h⟩
  | exit id =>
    intro cur S a w k _ hs h
    exact Go.wp_exit ⟨S, hs, h⟩
  | ret =>
    intro cur S a w k _ hs h
    exact Go.wp_ret ⟨S, hs, h⟩
  | region id ops draw =>
    intro cur S a w k hb ⟨β, fp, hs⟩ h
    simp only [run, forceS_eq] at h
    cases draw with
    | true =>
      refine draw_sound hX hC hm (opsB_ok hb) (k := fun S' => k .norm (S'.tidy F.keep)) (r := r) ?_ hs h
      rintro a' w' ⟨S', ⟨β', fp', hs'⟩, hk⟩
      exact ⟨_, ⟨β', fp', hs'.tidy F.keep⟩, hk⟩
    | false =>
      refine wp_region_list (evs_sound hX hC (opsB_ok hb) (k := fun S' => k .norm (S'.tidy F.keep)) (r := r) ?_ ops.toList S β fp a w (opsB_ok hb) hs h)
      rintro a' w' ⟨S', ⟨β', fp', hs'⟩, hk⟩
      exact ⟨_, ⟨β', fp', hs'.tidy F.keep⟩, hk⟩
  | seq x y ihx ihy =>
    intro cur S a w k hb hs h
    simp only [codeB, Bool.and_eq_true] at hb
    refine wp_seq (Go.wp_mono (ihx cur S a w _ hb.1 hs h) ?_)
    rintro (_ | _ | _ | _ | _ | _) a' w' hp
    · obtain ⟨S', hs', hk⟩ := hp
      exact ihy cur S' a' w' k hb.2 hs' hk
    · exact hp
    · exact hp.elim
    · exact hp
    · exact hp.elim
    · exact hp.elim
  | cond c x y ihx ihy =>
    intro cur S a w k hb ⟨β, fp, hs⟩ h
    simp only [codeB, Bool.and_eq_true] at hb
    cases c with
    | tmp t =>
      simp only [run] at h
      split at h
      · rename_i b hb'
        have hv : a.tmps.getD t undef = .bool b := hs.env t _ hb'
        refine wp_cond_split (t := b) hv (fun e => ?_) (fun e => ?_)
        · subst e
          exact ihx cur _ a w k hb.1 ⟨β, fp, hs.drop' (some t)⟩ h
        · subst e
          exact ihy cur _ a w k hb.2 ⟨β, fp, hs.drop' (some t)⟩ h
      · cases h
    | _ => cases h
  | block id c ih =>
    intro cur S a w k hb hs h
    refine wp_block (Go.wp_mono (ih id S a w _ hb hs h) ?_)
    rintro (_ | _ | _ | _ | _ | _) a' w' hp
    · exact hp
    · rename_i j
      obtain ⟨S', hs', hk⟩ := hp
      simp only [blkK] at hk
      simp only [Exit.inBlock]
      by_cases e : j = id
      · subst e
        rw [if_pos rfl]
        rw [Nat.beq_refl] at hk
        exact ⟨S', hs', hk⟩
      · rw [if_neg e]
        have : Nat.beq j id = false := by
          cases hq : Nat.beq j id with
          | false => rfl
          | true => exact absurd (Nat.eq_of_beq_eq_true hq) e
        rw [this] at hk
        exact ⟨S', hs', hk⟩
    · exact hp.elim
    · exact hp
    · exact hp.elim
    · exact hp.elim
  | loop c ih =>
    intro cur S a w k hb ⟨β, fp, hs⟩ h
    obtain ⟨S1, hc, h⟩ := canThen_some h
    generalize F.ent cur S = ent at hc h
    have key : ∀ (n : Nat) (S : St C) (a : Act) (w : World), SimE X.K w0 nt S a w → iter (fun rec S => run X F c cur S (lopK rec k)) ent n S = some r → Code.rounds P c (post X.K w0 nt k r) n a w := by
      intro n
      induction n with
      | zero => intro S a w _ h; cases h
      | succ n ihn =>
        intro S a w hs h
        refine Go.wp_mono (ih cur S a w _ hb hs h) ?_
        rintro (_ | _ | _ | _ | _ | _) a' w' hp
        · obtain ⟨S', ⟨β', fp', hs'⟩, hk⟩ := hp
          obtain ⟨S2, hc2, h2⟩ := canThen_some hk
          exact ihn S2 a' w' (canon_sound hs' hc2) h2
        · exact hp
        · exact hp.elim
        · exact hp
        · exact hp.elim
        · exact hp.elim
    exact wp_loop_rounds F.N (key F.N S1 a w (canon_sound hs hc) h)
  | scope c ih =>
    intro cur S a w k hb hs h
    refine wp_scope_straight (Go.wp_mono (ih cur S a w k hb hs h) ?_)
    rintro (_ | _ | _ | _ | _ | _) a' w' hp
    · exact hp
    · exact hp
    · exact hp.elim
    · exact hp
    · exact hp.elim
    · exact hp.elim
  | _ =>
    intro cur S a w k _ hs h
    cases h
end
end Go.Proofs.Ytkiognopoigbhaa.Ab
