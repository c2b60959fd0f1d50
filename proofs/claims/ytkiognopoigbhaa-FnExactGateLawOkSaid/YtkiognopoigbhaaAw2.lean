/- The abstract machine: functions that write through what they are handed, part 2: the caller behind the call. -/
import Derived.Test.YtkiognopoigbhaaAw1
set_option linter.unusedVariables false
set_option linter.unusedSimpArgs false
set_option linter.unusedSectionVars false
namespace Go.Proofs.Ytkiognopoigbhaa.Ab
open Go Go.RowKit

section
variable {Ty : Type} [DecidableEq Ty] {C : Ty → Type}
variable {P : Program} {X : Cx C} {w0 w : World} {nt : Nat} {S : St C} {β : Nat → Value} {fp : Nat → Nat → Prop} {a : Act} {R : Type} {k : St C → Option R} {r : R}
variable {Q : Exit → Act → World → Prop}

/-- A cell that names a place inside a row. -/
def placeL : Lf C → Bool
  | .ref _ (_ :: _) => true
  | .ep .. => true
  | _ => false

section
variable {K : Cd C} {w' : World} {objs objs' : Objs C} {β' : Nat → Value} {fp' : Nat → Nat → Prop} {stb stb' : Nat → Prop}
theorem LfOk.trU {l : Lf C} {v : Value} (h : LfOk K w objs β fp stb l v) (hst : ∀ k, stb k → stb' k ∧ w'.heap[k]? = w.heap[k]?) (hβ : ∀ id, id ∈ idsL l → β' id = β id)
    (hk : ∀ id, id ∈ idsL l → placeL l = true → Keeps w w' objs objs' β β' fp fp' id) : LfOk K w' objs' β' fp' stb' l v := by
  cases l with
  | ptr id off => obtain ⟨b, h1, h2⟩ := h; exact ⟨b, (hβ id (by simp [idsL])).trans h1, h2⟩
  | vo id => exact ⟨h.1, h.2.trans (hβ id (by simp [idsL])).symm⟩
  | ref id p =>
    cases p with
    | nil => exact ⟨h.1, h.2.trans (hβ id (by simp [idsL])).symm⟩
    | cons s p => exact h.tr hst fun id hi => hk id hi rfl
  | ep id p i o => exact h.tr hst fun id hi => hk id hi rfl
  | _ => exact h.tr hst fun id hi => by simp [idsL] at hi
def okU (U : Nat → Prop) (β β' : Nat → Value) (K' : Nat → Prop) (l : Lf C) : Prop := (∀ id, id ∈ idsL l → β' id = β id) ∧ ∀ id, id ∈ idsL l → placeL l = true → K' id
theorem LfsOk.trU {ls : List (Lf C)} {vs : List Value} (h : LfsOk K w objs β fp stb ls vs) (hst : ∀ k, stb k → stb' k ∧ w'.heap[k]? = w.heap[k]?) (hβ : ∀ l, l ∈ ls → ∀ id, id ∈ idsL l → β' id = β id)
    (hk : ∀ l, l ∈ ls → ∀ id, id ∈ idsL l → placeL l = true → Keeps w w' objs objs' β β' fp fp' id) : LfsOk K w' objs' β' fp' stb' ls vs :=
  ⟨h.1, fun i l hl => (h.2 i l hl).trU hst (hβ l (List.mem_of_getElem? hl)) (hk l (List.mem_of_getElem? hl))⟩
/-- All cells of a value. -/
def allL : SV C → List (Lf C)
  | .one l => [l]
  | .agg ls => ls
  | .tup vs => vs.flatMap (·.2)
  | .sus x _ => x.2
  | _ => []
theorem SVOk.trU {x : SV C} {v : Value} (h : SVOk K w objs β fp stb x v) (hst : ∀ k, stb k → stb' k ∧ w'.heap[k]? = w.heap[k]?) (hβ : ∀ id, id ∈ idsV0 x → β' id = β id)
    (hk : ∀ l, l ∈ allL x → ∀ id, id ∈ idsL l → placeL l = true → Keeps w w' objs objs' β β' fp fp' id) : SVOk K w' objs' β' fp' stb' x v := by
  cases x with
  | one l => exact LfOk.trU h hst hβ (hk l (by simp [allL]))
  | agg ls =>
    obtain ⟨vs, h1, h2⟩ := h
    exact ⟨vs, h1, h2.trU hst (fun l hl id hi => hβ id (by obtain ⟨i, hi', rfl⟩ := List.getElem_of_mem hl; exact mem_idsLs (i := i) (by simp [hi']) hi)) fun l hl => hk l hl⟩
  | tup xs =>
    obtain ⟨vs, h1, h2, h3⟩ := h
    refine ⟨vs, h1, h2, fun i x hx => ?_⟩
    have hmem := List.mem_of_getElem? hx
    have hm : ∀ id, id ∈ idsLs x.2 → id ∈ idsT xs := by
      clear h3 h2 h1 hβ hk hmem
      induction xs generalizing i with
      | nil => simp at hx
      | cons y r ih =>
        intro id hi
        obtain ⟨b, ls⟩ := y
        simp only [idsT, List.mem_append]
        cases i with
        | zero => simp at hx; subst hx; exact .inl hi
        | succ i => simp at hx; exact .inr (ih i hx id hi)
    have hin : ∀ l, l ∈ x.2 → l ∈ allL (.tup xs) := fun l hl => by simp only [allL, List.mem_flatMap]; exact ⟨x, hmem, hl⟩
    have hids : ∀ l, l ∈ x.2 → ∀ id, id ∈ idsL l → β' id = β id := fun l hl id hi => hβ id (hm id (by obtain ⟨i, hi', rfl⟩ := List.getElem_of_mem hl; exact mem_idsLs (i := i) (by simp [hi']) hi))
    have := h3 i x hx
    obtain ⟨b, ls⟩ := x
    cases b with
    | false =>
      obtain ⟨l, h1, h2⟩ := this
      subst h1
      exact ⟨l, rfl, h2.trU hst (hids l (by simp)) (hk l (hin l (by simp)))⟩
    | true => obtain ⟨vs, h1, h2⟩ := this; exact ⟨vs, h1, h2.trU hst hids fun l hl => hk l (hin l hl)⟩
  | und => exact h
  | hdr id j => exact (hβ id (by simp [idsV0])).trans h
  | frame => exact fun k hk => ⟨(hst k (h k hk).1).1, (hst k (h k hk).1).2.trans (h k hk).2⟩
  | sus x j =>
    obtain ⟨b, ls⟩ := x
    cases b with
    | false =>
      obtain ⟨l, h1, h2⟩ := h
      have h1 : ls = [l] := h1
      subst h1
      exact ⟨l, rfl, h2.trU hst (fun id hi => hβ id (by simpa [idsV0, idsLs] using hi)) (hk l (by simp [allL]))⟩
    | true => obtain ⟨vs, h1, h2⟩ := h; exact ⟨vs, h1, h2.trU hst (fun l hl id hi => hβ id (by obtain ⟨i, hi', rfl⟩ := List.getElem_of_mem hl; exact mem_idsLs (i := i) (by simp [hi']) hi)) fun l hl => hk l hl⟩

/-- Things are turned, things are new; U: these. -/
theorem Sim.write (hs : Sim K w0 nt S β fp a w) {S' : St C} (hb : Below w0.heap.size w0 w') (U : Nat → Prop)
    (hst : ∀ k, stbOf S.objs fp w k → stbOf S'.objs fp' w' k ∧ w'.heap[k]? = w.heap[k]?)
    (hkeep : ∀ id ob, ¬ U id → lk S'.objs id = some ob → lk S.objs id = some ob ∧ fp' id = fp id ∧ ∀ k, fp id k → k < w'.heap.size ∧ w'.heap[k]? = w.heap[k]?)
    (hβo : ∀ id ob, ¬ U id → lk S'.objs id = some ob → β' id = β id ∧ ∀ kd ls, ob = .box kd ls → ∀ i, i ∈ idsLs ls → β' i = β i)
    (hβe : ∀ t v, lk S'.env t = some v → ∀ i, i ∈ idsV0 v → β' i = β i)
    (hfresh : ∀ id ob k, U id → lk S'.objs id = some ob → fp' id k → w0.heap.size ≤ k ∧ k < w'.heap.size)
    (hdisj : ∀ id id' ob ob' k, (U id ∨ U id') → lk S'.objs id = some ob → lk S'.objs id' = some ob' → fp' id k → fp' id' k → id = id')
    (hU : ∀ id ob, U id → lk S'.objs id = some ob → ∃ t xs, ob = .row t xs false ∧ Own K w' w0.heap.size (fp' id) (.row t xs) (β' id))
    (hbox : ∀ id kd ls, ¬ U id → lk S'.objs id = some (.box kd ls) → ∀ l, l ∈ ls → placeL l = true → ∀ i, i ∈ idsL l → ¬ U i)
    (henv : ∀ t v, lk S'.env t = some v → lk S.env t = some v ∧ ∀ l, l ∈ allL v → placeL l = true → ∀ i, i ∈ idsL l → ¬ U i) : Sim K w0 nt S' β' fp' a w' := by
  have keeps : ∀ i, ¬ U i → β' i = β i → Keeps w w' S.objs S'.objs β β' fp fp' i := fun i hi hn => by
    refine ⟨hn, fun t xs sh ho => ?_⟩
    obtain ⟨h1, h2, h3⟩ := hkeep i _ hi ho
    exact ⟨h1, fun k hk => ⟨by rw [h2]; exact hk, (h3 k hk).2⟩⟩
  refine ⟨hb, hs.defers, hs.size, fun id ob k ho hk => ?_, fun id id' ob ob' k ho ho' hk hk' => ?_, fun id ob ho => ?_, fun t v ht => ?_⟩
  · by_cases hu : U id
    · exact hfresh id ob k hu ho hk
    · obtain ⟨h1, h2, h3⟩ := hkeep id ob hu ho
      rw [h2] at hk
      exact ⟨(hs.fresh id ob k h1 hk).1, (h3 k hk).1⟩
  · by_cases hu : U id ∨ U id'
    · exact hdisj id id' ob ob' k hu ho ho' hk hk'
    · obtain ⟨h1, h2, _⟩ := hkeep id ob (fun h => hu (.inl h)) ho
      obtain ⟨h1', h2', _⟩ := hkeep id' ob' (fun h => hu (.inr h)) ho'
      rw [h2] at hk
      rw [h2'] at hk'
      exact hs.disj id id' ob ob' k h1 h1' hk hk'
  · by_cases hu : U id
    · obtain ⟨t, xs, rfl, h⟩ := hU id ob hu ho
      exact h
    · obtain ⟨h1, h2, h3⟩ := hkeep id ob hu ho
      obtain ⟨hn, hn2⟩ := hβo id ob hu ho
      have hob := hs.objs id ob h1
      rw [h2, hn]
      cases ob with
      | row t xs sh => exact hob.tr hst (fun k hk => (h3 k hk).2) (fun _ ls e => by cases e)
      | map mk kt vt xs c => exact hob.tr hst (fun k hk => (h3 k hk).2) (fun _ ls e => by cases e)
      | ghost => exact hob.tr hst (fun k hk => (h3 k hk).2) (fun _ ls e => by cases e)
      | box kd ls =>
        have hin : ∀ l, l ∈ ls → ∀ i, i ∈ idsL l → i ∈ idsLs ls := fun l hl i hi => by
          obtain ⟨j, hj, rfl⟩ := List.getElem_of_mem hl
          exact mem_idsLs (i := j) (by simp [hj]) hi
        have go : ∀ {us : List Value}, LfsOk K w S.objs β fp (stbOf S.objs fp w) ls us → LfsOk K w' S'.objs β' fp' (stbOf S'.objs fp' w') ls us := fun q4 => q4.trU hst (fun l hl i hi => hn2 _ ls rfl i (hin l hl i hi)) fun l hl i hi hp => keeps i (hbox id _ ls hu ho l hl hp i hi) (hn2 _ ls rfl i (hin l hl i hi))
        cases kd with
        | mem =>
          obtain ⟨b, cs, e, q1, q2, q3, q4⟩ := hob
          exact ⟨b, cs, e, q1, ((h3 b ((q3 b).2 rfl)).2).trans q2, q3, go q4⟩
        | clo f n sh => obtain ⟨us, q1, q2, q3⟩ := hob; exact ⟨us, q1, q2, go q3⟩
        | ifc t sh => obtain ⟨us, q1, q2, q3⟩ := hob; exact ⟨us, q1, q2, go q3⟩
  · obtain ⟨h1, h2⟩ := henv t v ht
    refine (hs.env t v h1).trU hst (fun i hi => hβe t v ht i hi) fun l hl i hi hp => keeps i (h2 l hl hp i hi) (hβe t v ht i ?_)
    cases v with
    | one l' => simp only [allL, List.mem_singleton] at hl; subst hl; exact hi
    | agg ls =>
      have hl : l ∈ ls := hl
      obtain ⟨j, hj, rfl⟩ := List.getElem_of_mem hl
      exact mem_idsLs (i := j) (by simp [hj]) hi
    | tup xs =>
      simp only [allL, List.mem_flatMap] at hl
      obtain ⟨x, hx, hl⟩ := hl
      show i ∈ idsT xs
      clear h2 ht h1 hp
      induction xs with
      | nil => cases hx
      | cons y r ih =>
        obtain ⟨b, ls⟩ := y
        simp only [idsT, List.mem_append]
        rcases List.mem_cons.1 hx with e | hx
        · subst e; left; obtain ⟨j, hj, rfl⟩ := List.getElem_of_mem hl; exact mem_idsLs (i := j) (by simp [hj]) hi
        · exact .inr (ih hx)
    | sus x j =>
      have hl : l ∈ x.2 := hl
      obtain ⟨m, hm, rfl⟩ := List.getElem_of_mem hl
      exact mem_idsLs (i := m) (by simp [hm]) hi
    | _ => simp [allL] at hl
end

theorem nodupB_ok : ∀ {l : List Nat}, nodupB l = true → l.Nodup
  | [], _ => List.nodup_nil
  | n :: r, h => by
    simp only [nodupB, Bool.and_eq_true, Bool.not_eq_true'] at h
    refine List.nodup_cons.2 ⟨fun hm => ?_, nodupB_ok h.2⟩
    have := List.any_eq_false.1 h.1 n hm
    exact this (Nat.beq_refl n)

theorem mem_tids : ∀ {ts : List Tgt} {id : Nat}, id ∈ tids ts ↔ ∃ (m : Nat) (p : List (Nat × Nat)), ts[m]? = some (some (id, p))
  | [], id => by simp [tids]
  | none :: ts, id => by
    simp only [tids]
    rw [mem_tids (ts := ts)]
    constructor
    · rintro ⟨m, p, h⟩; exact ⟨m + 1, p, by simpa using h⟩
    · rintro ⟨m, p, h⟩
      cases m with
      | zero => simp at h
      | succ m => exact ⟨m, p, by simpa using h⟩
  | some (i, p0) :: ts, id => by
    simp only [tids, List.mem_cons]
    rw [mem_tids (ts := ts)]
    constructor
    · rintro (e | ⟨m, p, h⟩)
      · exact ⟨0, p0, by rw [e]; rfl⟩
      · exact ⟨m + 1, p, by simpa using h⟩
    · rintro ⟨m, p, h⟩
      cases m with
      | zero => simp at h; exact .inl h.1.symm
      | succ m => exact .inr ⟨m, p, by simpa using h⟩
theorem tids_inj : ∀ {ts : List Tgt}, (tids ts).Nodup → ∀ {id m m' : Nat} {p p' : List (Nat × Nat)}, ts[m]? = some (some (id, p)) → ts[m']? = some (some (id, p')) → m = m'
  | [], _, id, m, m', p, p', h, _ => by simp at h
  | none :: ts, hn, id, m, m', p, p', h, h' => by
    cases m with
    | zero => simp at h
    | succ m => cases m' with
      | zero => simp at h'
      | succ m' => have := tids_inj (ts := ts) hn (by simpa using h) (by simpa using h'); omega
  | some (i, p0) :: ts, hn, id, m, m', p, p', h, h' => by
    simp only [tids] at hn
    obtain ⟨h1, h2⟩ := List.nodup_cons.1 hn
    cases m with
    | zero => cases m' with
      | zero => rfl
      | succ m' =>
        simp at h
        obtain ⟨rfl, _⟩ := h
        exact absurd (mem_tids.2 ⟨m', p', by simpa using h'⟩) h1
    | succ m => cases m' with
      | zero =>
        simp at h'
        obtain ⟨rfl, _⟩ := h'
        exact absurd (mem_tids.2 ⟨m, p, by simpa using h⟩) h1
      | succ m' => have := tids_inj (ts := ts) h2 (by simpa using h) (by simpa using h'); omega

/-- What stands in the state behind the call. -/
structure PutOk (X : Cx C) (w0 w' : World) (S : St C) (β : Nat → Value) (fp G G' : Nat → Nat → Prop) (ts : List Tgt) (j n : Nat) (S1 S2 : St C) (φ φ' : Nat → Nat → Prop) (J M : Nat → Nat) : Prop where
  env : S2.env = S1.env
  base : S2.base = S1.base
  other : ∀ id, id ∉ tids ts → lk S2.objs id = lk S1.objs id ∧ φ' id = φ id
  at' : ∀ id, id ∈ tids ts → j ≤ J id ∧ J id < j + n ∧ (∃ p, ts[M id]? = some (some (id, p))) ∧ (∃ t xs, lk S2.objs id = some (.row t xs false) ∧ Own X.K w' w0.heap.size (φ' id) (.row t xs) (β id)) ∧
    ∀ k, φ' id k → (fp id k ∧ ¬ G (M id) k) ∨ G' (J id) k
  inj : ∀ id id', id ∈ tids ts → id' ∈ tids ts → J id = J id' → id = id'

theorem putAll_ok {w' : World} {kk : St C → Option R} {G' : Nat → Nat → Prop} : ∀ (ls : List (Lf C)) (ts : List Tgt) (os : List (Lf C)) (us : List Value) (G : Nat → Nat → Prop) (j : Nat) (S1 : St C) (φ : Nat → Nat → Prop),
    us.length = ls.length → (∀ (m : Nat) (l : Lf C), ls[m]? = some l → ∃ tg, ts[m]? = some tg ∧ TgOk X.K w w0.heap.size S β fp (G m) (us.getD m undef) tg) →
    (∀ (m id : Nat) (p : List (Nat × Nat)), ts[m]? = some (some (id, p)) → (∀ k, fp id k → ¬ G m k → w'.heap[k]? = w.heap[k]?) ∧ ∀ j k, G' j k → G m k ∨ ¬ fp id k) →
    (∀ (i : Nat) (l : Lf C), os[i]? = some l → Own X.K w' w0.heap.size (G' (j + i)) l ((rowsOf ls us).getD i undef)) → (tids ts).Nodup → (∀ id, id ∈ tids ts → lk S1.objs id = lk S.objs id) →
    putAll X.K ls ts os S1 kk = some r → ∃ (S2 : St C) (φ' : Nat → Nat → Prop) (J M : Nat → Nat), kk S2 = some r ∧ PutOk X w0 w' S β fp G G' ts j os.length S1 S2 φ φ' J M := by
  intro ls
  induction ls with
  | nil =>
    intro ts os us G j S1 φ hl htg hfr hos hnd hS1 h
    cases ts with
    | cons _ _ => simp [putAll] at h
    | nil => cases os with
      | cons _ _ => simp [putAll] at h
      | nil => exact ⟨S1, φ, id, id, h, rfl, rfl, fun id _ => ⟨rfl, rfl⟩, fun id hi => by simp [tids] at hi, fun id id' hi => by simp [tids] at hi⟩
  | cons l ls ih =>
    intro ts os us G j S1 φ hl htg hfr hos hnd hS1 h
    obtain ⟨u, us, rfl⟩ : ∃ u us', us = u :: us' := by
      cases us with
      | nil => simp at hl
      | cons u us => exact ⟨u, us, rfl⟩
    have hl' : us.length = ls.length := by simpa using hl
    cases ts with
    | nil => cases l <;> simp [putAll] at h
    | cons tg ts =>
      have htg' : ∀ (m : Nat) (l : Lf C), ls[m]? = some l → ∃ tg, ts[m]? = some tg ∧ TgOk X.K w w0.heap.size S β fp (G (m + 1)) (us.getD m undef) tg := fun m l hm => by
        have := htg (m + 1) l (by simpa using hm)
        simpa using this
      have hfr' : ∀ (m id : Nat) (p : List (Nat × Nat)), ts[m]? = some (some (id, p)) → (∀ k, fp id k → ¬ G (m + 1) k → w'.heap[k]? = w.heap[k]?) ∧ ∀ j k, G' j k → G (m + 1) k ∨ ¬ fp id k := fun m id p hm => hfr (m + 1) id p (by simpa using hm)
      -- a step without a target
      have plain : ∀ (os' : List (Lf C)) (j' : Nat), tg = none → (∀ (i : Nat) (l : Lf C), os'[i]? = some l → Own X.K w' w0.heap.size (G' (j' + i)) l ((rowsOf ls us).getD i undef)) → j ≤ j' → j' + os'.length ≤ j + os.length →
          putAll X.K ls ts os' S1 kk = some r → ∃ (S2 : St C) (φ' : Nat → Nat → Prop) (J M : Nat → Nat), kk S2 = some r ∧ PutOk X w0 w' S β fp G G' (tg :: ts) j os.length S1 S2 φ φ' J M := by
        intro os' j' e hos' h1 h2 hp
        subst e
        obtain ⟨S2, φ', J, M, q1, q2⟩ := ih ts os' us (fun m => G (m + 1)) j' S1 φ hl' htg' hfr' hos' (by simpa [tids] using hnd) (fun id hi => hS1 id (by simpa [tids] using hi)) hp
        refine ⟨S2, φ', J, fun id => M id + 1, q1, q2.env, q2.base, fun id hi => q2.other id (by simpa [tids] using hi), fun id hi => ?_, fun id id' hi hi' => q2.inj id id' (by simpa [tids] using hi) (by simpa [tids] using hi')⟩
        obtain ⟨a1, a2, a3, a4, a5⟩ := q2.at' id (by simpa [tids] using hi)
        exact ⟨by omega, by omega, by simpa using a3, a4, a5⟩
      cases l with
      | row t0 xs0 =>
        cases os with
        | nil => cases tg with
          | none => simp [putAll] at h
          | some x => obtain ⟨id, p⟩ := x; simp [putAll] at h
        | cons l1 os =>
          have hos1 : ∀ (i : Nat) (l : Lf C), os[i]? = some l → Own X.K w' w0.heap.size (G' (j + 1 + i)) l ((rowsOf ls us).getD i undef) := fun i l hi => by
            have := hos (i + 1) l (by simpa using hi)
            rw [show j + 1 + i = j + (i + 1) by omega]
            simpa [rowsOf] using this
          cases tg with
          | none => exact plain os (j + 1) rfl hos1 (by omega) (by simp; omega) (by simpa [putAll] using h)
          | some x =>
            obtain ⟨id, p⟩ := x
            simp only [tids] at hnd hS1
            obtain ⟨hnd1, hnd2⟩ := List.nodup_cons.1 hnd
            obtain ⟨tg', e, htg0⟩ := htg 0 _ rfl
            have e : some (id, p) = tg' := by simpa using e
            subst e
            obtain ⟨ht, xs, ho, hsub, hset⟩ := htg0
            simp only [putAll] at h
            rw [hS1 id (by simp), ho] at h
            simp only at h
            obtain ⟨f1, f2⟩ := hfr 0 id p rfl
            have hO := hos 0 l1 rfl
            obtain ⟨xs', hk, hown⟩ := hset w' (G' j) l1 f1 (fun k hk => f2 j k hk) (by simpa [rowsOf] using hO) R _ r h
            obtain ⟨S2, φ', J, M, q1, q2⟩ := ih ts os us (fun m => G (m + 1)) (j + 1) _ (upd φ id fun k => (fp id k ∧ ¬ G 0 k) ∨ G' j k) hl' htg' hfr' hos1 hnd2 (fun i hi => by
              have hne : i ≠ id := fun e => hnd1 (e ▸ hi)
              simp only [St.setObj, lk_cons, if_neg hne]
              exact hS1 i (by simp [hi])) hk
            obtain ⟨o1, o2⟩ := q2.other id hnd1
            refine ⟨S2, φ', upd J id j, fun i => if i = id then 0 else M i + 1, q1, q2.env, q2.base, fun i hi => ?_, fun i hi => ?_, fun i i' hi hi' e => ?_⟩
            · simp only [tids, List.mem_cons, not_or] at hi
              obtain ⟨h1, h2⟩ := q2.other i hi.2
              simp only [St.setObj, lk_cons, if_neg hi.1] at h1
              exact ⟨h1, h2.trans (upd_ne _ _ hi.1)⟩
            · by_cases e : i = id
              · subst e
                simp only [upd_same, if_true]
                refine ⟨Nat.le_refl _, by simp, ⟨p, rfl⟩, ⟨ht, xs', by rw [o1]; simp [St.setObj, lk_cons], by rw [o2, upd_same]; exact hown⟩, fun k hk => ?_⟩
                rw [o2, upd_same] at hk
                exact hk
              · simp only [tids, List.mem_cons] at hi
                obtain ⟨a1, a2, a3, a4, a5⟩ := q2.at' i (hi.resolve_left e)
                simp only [upd_ne _ _ e, if_neg e]
                exact ⟨by omega, by simp; omega, by simpa using a3, a4, a5⟩
            · simp only [tids, List.mem_cons] at hi hi'
              by_cases e1 : i = id <;> by_cases e2 : i' = id
              · rw [e1, e2]
              · subst e1
                rw [upd_same, upd_ne _ _ e2] at e
                have := (q2.at' i' (hi'.resolve_left e2)).1
                omega
              · subst e2
                rw [upd_same, upd_ne _ _ e1] at e
                have := (q2.at' i (hi.resolve_left e1)).1
                omega
              · rw [upd_ne _ _ e1, upd_ne _ _ e2] at e
                exact q2.inj i i' (hi.resolve_left e1) (hi'.resolve_left e2) e
      | int ki n =>
        cases tg with
        | none => exact plain os j rfl (fun i l hi => by simpa [rowsOf] using hos i l hi) (Nat.le_refl _) (Nat.le_refl _) (by simpa [putAll] using h)
        | some x => simp [putAll] at h
      | bool b =>
        cases tg with
        | none => exact plain os j rfl (fun i l hi => by simpa [rowsOf] using hos i l hi) (Nat.le_refl _) (Nat.le_refl _) (by simpa [putAll] using h)
        | some x => simp [putAll] at h
      | str b =>
        cases tg with
        | none => exact plain os j rfl (fun i l hi => by simpa [rowsOf] using hos i l hi) (Nat.le_refl _) (Nat.le_refl _) (by simpa [putAll] using h)
        | some x => simp [putAll] at h
      | _ => cases tg <;> simp [putAll] at h
end
end Go.Proofs.Ytkiognopoigbhaa.Ab
