/- The abstract machine, part 7: things in memory come, go and are turned. -/
import Derived.Test.YtkiognopoigbhaaAb6
set_option linter.unusedVariables false
set_option linter.unusedSimpArgs false
set_option linter.unusedSectionVars false
namespace Go.Proofs.Ytkiognopoigbhaa.Ab
open Go Go.RowKit

section
variable {Ty : Type} {C : Ty → Type}
variable {K : Cd C} {w0 w : World} {nt : Nat} {S : St C} {β : Nat → Value} {fp : Nat → Nat → Prop} {a : Act}

theorem mem_idsE {E : List (Nat × SV C)} {t : Nat} {v : SV C} (h : lk E t = some v) {id : Nat} (hi : id ∈ idsV0 v) : id ∈ idsE0 E := by
  induction E with
  | nil => simp [lk] at h
  | cons x r ih =>
    obtain ⟨m, u⟩ := x
    rw [lk_cons] at h
    simp only [idsE0, List.mem_append]
    split at h
    · cases h; exact .inl hi
    · exact .inr (ih h)
theorem mem_idsO {O : Objs C} {n : Nat} {ob : Ob C} (h : lk O n = some ob) : n ∈ idsO O ∧ ∀ kd ls, ob = .box kd ls → ∀ id, id ∈ idsLs ls → id ∈ idsO O := by
  induction O with
  | nil => simp [lk] at h
  | cons x r ih =>
    obtain ⟨m, u⟩ := x
    rw [lk_cons] at h
    split at h
    · rename_i e
      subst e
      cases h
      cases ob with
      | box kd ls => exact ⟨by simp [idsO], fun kd' ls' e id hi => by cases e; simp [idsO, hi]⟩
      | row t xs sh => exact ⟨by simp [idsO], fun _ ls' e => by cases e⟩
      | map mk kt vt xs c => exact ⟨by simp [idsO], fun _ ls' e => by cases e⟩
      | ghost => exact ⟨by simp [idsO], fun _ ls' e => by cases e⟩
    · obtain ⟨h1, h2⟩ := ih h
      cases u with
      | box kd ls => exact ⟨by simp [idsO, h1], fun kd' ls' e id hi => by simp [idsO, h2 kd' ls' e id hi]⟩
      | row t xs sh => exact ⟨by simp [idsO, h1], fun kd' ls' e id hi => by simp [idsO, h2 kd' ls' e id hi]⟩
      | map mk kt vt xs c => exact ⟨by simp [idsO, h1], fun kd' ls' e id hi => by simp [idsO, h2 kd' ls' e id hi]⟩
      | ghost => exact ⟨by simp [idsO, h1], fun kd' ls' e id hi => by simp [idsO, h2 kd' ls' e id hi]⟩

def upd {α : Type} (f : Nat → α) (i : Nat) (x : α) : Nat → α := fun j => if j = i then x else f j
theorem upd_same {α : Type} (f : Nat → α) (i : Nat) (x : α) : upd f i x i = x := by simp [upd]
theorem upd_ne {α : Type} (f : Nat → α) {i j : Nat} (x : α) (h : j ≠ i) : upd f i x j = f j := by simp [upd, h]

def Unnamed (S : St C) (id : Nat) : Prop := id ∉ idsE0 S.env ∧ id ∉ idsO S.objs

theorem add_some {id : Nat} {ob : Ob C} {S' : St C} (h : S.add id ob = some S') : Unnamed S id ∧ S' = S.setObj id ob := by
  unfold St.add at h
  obtain ⟨h1, h2⟩ := cond_some' h
  cases h2
  refine ⟨?_, rfl⟩
  constructor
  · intro hm
    have : (idsE0 S.env ++ idsO S.objs).any (Nat.beq id) = true := List.any_eq_true.2 ⟨id, List.mem_append_left _ hm, Nat.beq_refl id⟩
    rw [this] at h1; cases h1
  · intro hm
    have : (idsE0 S.env ++ idsO S.objs).any (Nat.beq id) = true := List.any_eq_true.2 ⟨id, List.mem_append_right _ hm, Nat.beq_refl id⟩
    rw [this] at h1; cases h1

/-- What is named stays as it was when something new comes. -/
theorem keeps_new (h : Sim K w0 nt S β fp a w) {w' : World} (hw : Below w.heap.size w w') {id : Nat} {ob : Ob C} {hv : Value} {F : Nat → Prop} {id' : Nat} (hne : id' ≠ id) :
    Keeps w w' S.objs ((id, ob) :: S.objs) β (upd β id hv) fp (upd fp id F) id' := by
  refine ⟨upd_ne _ _ hne, fun t xs sh ho => ?_⟩
  rw [lk_cons, if_neg hne] at ho
  exact ⟨ho, fun k hk => ⟨by rw [upd_ne _ _ hne]; exact hk, hw.block k (h.fresh id' _ k ho hk).2⟩⟩

theorem stb_new (h : Sim K w0 nt S β fp a w) {w' : World} (hw : Below w.heap.size w w') {id : Nat} {ob : Ob C} {F : Nat → Prop} (hF : ∀ k, F k → w.heap.size ≤ k) {k : Nat} (hk : stbOf S.objs fp w k) :
    stbOf ((id, ob) :: S.objs) (upd fp id F) w' k ∧ w'.heap[k]? = w.heap[k]? := by
  refine ⟨⟨Nat.lt_of_lt_of_le hk.1 hw.size, fun j ob' ho => ?_⟩, hw.block k hk.1⟩
  rw [lk_cons] at ho
  by_cases e : j = id
  · subst e
    rw [upd_same]
    intro hf
    have := hF k hf
    have := hk.1
    omega
  · rw [if_neg e] at ho
    rw [upd_ne _ _ e]
    exact hk.2 j ob' ho

/-- Something new: it lies in blocks that were not there. -/
theorem Sim.addNew (h : Sim K w0 nt S β fp a w) {w' : World} (hw : Below w.heap.size w w') {id : Nat} (hid : Unnamed S id) {ob : Ob C} {hv : Value} {F : Nat → Prop}
    (hF : ∀ k, F k → w.heap.size ≤ k ∧ k < w'.heap.size)
    (hob : ObOk K w' w0.heap.size ((id, ob) :: S.objs) (upd β id hv) (upd fp id F) (stbOf ((id, ob) :: S.objs) (upd fp id F) w') F ob hv) :
    Sim K w0 nt (S.setObj id ob) (upd β id hv) (upd fp id F) a w' := by
  have hsz : w0.heap.size ≤ w.heap.size := h.below.size
  have hst := fun k hk => stb_new h hw (id := id) (ob := ob) (F := F) (fun k hk => (hF k hk).1) (k := k) hk
  refine ⟨h.below.trans (hw.mono hsz), h.defers, h.size, fun j ob' k ho hk => ?_, fun i j oi oj k hi hj hki hkj => ?_, fun j ob' ho => ?_, fun t v ht => ?_⟩
  · simp only [St.setObj, lk_cons] at ho
    by_cases e : j = id
    · subst e
      rw [upd_same] at hk
      have := hF k hk
      omega
    · rw [if_neg e] at ho
      rw [upd_ne _ _ e] at hk
      have := h.fresh j ob' k ho hk
      have := hw.size
      omega
  · simp only [St.setObj, lk_cons] at hi hj
    by_cases ei : i = id <;> by_cases ej : j = id
    · rw [ei, ej]
    · subst ei
      rw [if_neg ej] at hj
      rw [upd_same] at hki
      rw [upd_ne _ _ ej] at hkj
      have := hF k hki
      have := h.fresh j oj k hj hkj
      omega
    · subst ej
      rw [if_neg ei] at hi
      rw [upd_same] at hkj
      rw [upd_ne _ _ ei] at hki
      have := hF k hkj
      have := h.fresh i oi k hi hki
      omega
    · rw [if_neg ei] at hi
      rw [if_neg ej] at hj
      rw [upd_ne _ _ ei] at hki
      rw [upd_ne _ _ ej] at hkj
      exact h.disj i j oi oj k hi hj hki hkj
  · simp only [St.setObj, lk_cons] at ho
    by_cases e : j = id
    · subst e
      rw [if_pos rfl] at ho
      cases ho
      rw [upd_same, upd_same]
      exact hob
    · rw [if_neg e] at ho
      rw [upd_ne _ _ e, upd_ne _ _ e]
      exact (h.objs j ob' ho).tr hst (fun k hk => hw.block k (h.fresh j ob' k ho hk).2) fun kd ls els i hi => keeps_new h hw fun ei => hid.2 (by subst ei; exact (mem_idsO ho).2 kd ls els i hi)
  · exact (h.env t v ht).tr hst fun i hi => keeps_new h hw fun ei => hid.1 (by subst ei; exact mem_idsE ht hi)

/-- Cells that were told are told behind something new. -/
theorem lfs_new (h : Sim K w0 nt S β fp a w) {w' : World} (hw : Below w.heap.size w w') {id : Nat} {ob : Ob C} {hv : Value} {F : Nat → Prop} (hF : ∀ k, F k → w.heap.size ≤ k) {ls : List (Lf C)} {vs : List Value}
    (hl : LfsOk K w S.objs β fp (stbOf S.objs fp w) ls vs) (hne : id ∉ idsLs ls) : LfsOk K w' ((id, ob) :: S.objs) (upd β id hv) (upd fp id F) (stbOf ((id, ob) :: S.objs) (upd fp id F) w') ls vs :=
  hl.tr (fun k hk => stb_new h hw hF hk) fun i hi => keeps_new h hw fun e => hne (by subst e; exact hi)

/-- Fewer things. -/
theorem Sim.sub (h : Sim K w0 nt S β fp a w) {O : Objs C} (hO : ∀ id ob, lk O id = some ob → lk S.objs id = some ob) : Sim K w0 nt { S with objs := O } β fp a w := by
  have hst : ∀ k, stbOf S.objs fp w k → stbOf O fp w k ∧ w.heap[k]? = w.heap[k]? := fun k hk => ⟨⟨hk.1, fun j ob ho => hk.2 j ob (hO j ob ho)⟩, rfl⟩
  have hk : ∀ id, Keeps w w S.objs O β β fp fp id := fun id => ⟨rfl, fun t xs sh ho => ⟨hO _ _ ho, fun k hk => ⟨hk, rfl⟩⟩⟩
  exact ⟨h.below, h.defers, h.size, fun id ob k ho => h.fresh id ob k (hO _ _ ho), fun i j oi oj k hi hj => h.disj i j oi oj k (hO _ _ hi) (hO _ _ hj),
    fun id ob ho => (h.objs id ob (hO _ _ ho)).tr hst (fun _ _ => rfl) fun _ _ _ i _ => hk i, fun t v ht => (h.env t v ht).tr hst fun i _ => hk i⟩
theorem Sim.del (h : Sim K w0 nt S β fp a w) (id : Nat) : Sim K w0 nt (S.delObj id) β fp a w :=
  h.sub fun i ob ho => by
    rw [lk_rm] at ho
    split at ho
    · cases ho
    · exact ho

/-- A thing's cells are turned in place, by a store into its own blocks. -/
theorem Sim.turn (h : Sim K w0 nt S β fp a w) {w' : World} {id : Nat} {ob0 ob1 : Ob C} (ho : lk S.objs id = some ob0) (hnr : ∀ t xs sh, ob1 ≠ .row t xs sh)
    (hw : Below w0.heap.size w w') (hb : ∀ k, ¬ fp id k → w'.heap[k]? = w.heap[k]?)
    (hob : ObOk K w' w0.heap.size ((id, ob1) :: S.objs) β fp (stbOf ((id, ob1) :: S.objs) fp w') (fp id) ob1 (β id)) :
    Sim K w0 nt (S.setObj id ob1) β fp a w' := by
  have hlk : ∀ j ob, lk ((id, ob1) :: S.objs) j = some ob → j ≠ id → lk S.objs j = some ob := fun j ob hj hne => by rw [lk_cons, if_neg hne] at hj; exact hj
  have hst : ∀ k, stbOf S.objs fp w k → stbOf ((id, ob1) :: S.objs) fp w' k ∧ w'.heap[k]? = w.heap[k]? := fun k hk => by
    refine ⟨⟨Nat.lt_of_lt_of_le hk.1 hw.size, fun j ob hj => ?_⟩, hb k (hk.2 id _ ho)⟩
    by_cases e : j = id
    · subst e; exact hk.2 j _ ho
    · exact hk.2 j ob (hlk j ob hj e)
  have hkp : ∀ j, Keeps w w' S.objs ((id, ob1) :: S.objs) β β fp fp j := fun j => by
    refine ⟨rfl, fun t xs sh hj => ?_⟩
    by_cases e : j = id
    · subst e; rw [lk_cons, if_pos rfl] at hj; cases hj; exact absurd rfl (hnr t xs sh)
    · have hj' := hlk j _ hj e
      exact ⟨hj', fun k hk => ⟨hk, hb k fun hk' => e (h.disj j id _ _ k hj' ho hk hk')⟩⟩
  refine ⟨h.below.trans hw, h.defers, h.size, fun j ob k hj hk => ?_, fun i j oi oj k hi hj hki hkj => ?_, fun j ob hj => ?_, fun t v ht => (h.env t v ht).tr hst fun i _ => hkp i⟩
  · by_cases e : j = id
    · subst e; have := h.fresh j _ k ho hk; have := hw.size; omega
    · have := h.fresh j ob k (hlk j ob hj e) hk; have := hw.size; omega
  · by_cases ei : i = id <;> by_cases ej : j = id
    · rw [ei, ej]
    · subst ei; exact h.disj i j _ oj k ho (hlk j oj hj ej) hki hkj
    · subst ej; exact h.disj i j oi _ k (hlk i oi hi ei) ho hki hkj
    · exact h.disj i j oi oj k (hlk i oi hi ei) (hlk j oj hj ej) hki hkj
  · by_cases e : j = id
    · subst e
      have : ob = ob1 := by simp only [St.setObj, lk_cons, if_pos] at hj; exact (Option.some.inj hj).symm
      subst this
      exact hob
    · have hj' := hlk j ob hj e
      exact (h.objs j ob hj').tr hst (fun k hk' => hb k fun hk'' => e (h.disj j id _ _ k hj' ho hk' hk'')) fun _ _ _ i _ => hkp i
theorem Sim.turnBox (h : Sim K w0 nt S β fp a w) {w' : World} {id : Nat} {ls ls' : List (Lf C)} (ho : lk S.objs id = some (.box .mem ls))
    (hw : Below w0.heap.size w w') (hb : ∀ k, ¬ fp id k → w'.heap[k]? = w.heap[k]?)
    (hob : ObOk K w' w0.heap.size ((id, .box .mem ls') :: S.objs) β fp (stbOf ((id, .box .mem ls') :: S.objs) fp w') (fp id) (.box .mem ls') (β id)) :
    Sim K w0 nt (S.setObj id (.box .mem ls')) β fp a w' := h.turn ho (fun _ _ _ e => by cases e) hw hb hob
end
end Go.Proofs.Ytkiognopoigbhaa.Ab
