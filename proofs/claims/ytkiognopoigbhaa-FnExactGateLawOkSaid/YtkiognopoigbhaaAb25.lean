/- The abstract machine, part 25: regions whose order is drawn. -/
import Derived.Test.YtkiognopoigbhaaAb24
set_option linter.unusedVariables false
set_option linter.unusedSimpArgs false
set_option linter.unusedSectionVars false
namespace Go.Proofs.Ytkiognopoigbhaa.Ab
open Go Go.RowKit

section
variable {Ty : Type} [DecidableEq Ty] {C : Ty → Type}
variable {P : Program} {X : Cx C} {w0 : World} {nt : Nat} {S0 S S' : St C} {R : Type} {k : St C → Option R} {r : R} {tab : List (Nat × Nat)} {all : Array Oper} {Q : Exit → Act → World → Prop}

/-! ### Who comes before whom -/
theorem anc1_has {j : Nat} : ∀ {l : List Edge}, Nat.testBit (anc1 tab l) j = true → ∃ e, e ∈ l ∧ Region.binds .any e = true ∧ (e.on = j ∨ has tab e.on j = true)
  | [], h => by simp [anc1] at h
  | e :: l, h => by
    simp only [anc1] at h
    cases hb : Region.binds .any e with
    | false =>
      rw [hb] at h
      obtain ⟨e', h1, h2⟩ := anc1_has (l := l) h
      exact ⟨e', by simp [h1], h2⟩
    | true =>
      rw [hb] at h
      have h : Nat.testBit ((2 ^ e.on ||| (lk tab e.on).getD 0) ||| anc1 tab l) j = true := h
      rw [Nat.testBit_or, Nat.testBit_or, Nat.testBit_two_pow, Bool.or_eq_true, Bool.or_eq_true, decide_eq_true_eq] at h
      rcases h with (h | h) | h
      · exact ⟨e, by simp, hb, .inl h⟩
      · exact ⟨e, by simp, hb, .inr h⟩
      · obtain ⟨e', h1, h2⟩ := anc1_has (l := l) h
        exact ⟨e', by simp [h1], h2⟩

theorem mem_below : ∀ {n j : Nat}, j < n → j ∈ Ab.below n
  | n + 1, j, h => by
    simp only [Ab.below, List.mem_cons]
    rcases Nat.lt_succ_iff_lt_or_eq.1 h with h | h
    · exact .inr (mem_below h)
    · exact .inl h

structure PreP (all : Array Oper) (tab : List (Nat × Nat)) : Prop where
  edge : ∀ (i : Nat) (o : Oper), all[i]? = some o → ∀ e, e ∈ o.after.toList → Region.binds .any e = true → e.on < i
  anc : ∀ (i : Nat) (o : Oper), all[i]? = some o → ∀ j, has tab i j = true → ∃ e, e ∈ o.after.toList ∧ Region.binds .any e = true ∧ (e.on = j ∨ has tab e.on j = true)
  eff : ∀ (i : Nat) (o : Oper), all[i]? = some o → ∀ j, j < i → isEat all j = true → has tab i j = true
  grd : ∀ (i : Nat) (o : Oper), all[i]? = some o → isE o = true → o.guard = none
theorem preP_list : ∀ (l : List Oper) (n : Nat), preOps all tab n l = true → ∀ (i : Nat) (o : Oper), l[i]? = some o → preOp all tab (n + i) o = true
  | [], n, h, i, o, hi => by simp at hi
  | x :: l, n, h, i, o, hi => by
    simp only [preOps, Bool.and_eq_true] at h
    cases i with
    | zero => simp at hi; subst hi; exact h.1
    | succ i =>
      have := preP_list l (n + 1) h.2 i o (by simpa using hi)
      rwa [Nat.add_assoc, Nat.add_comm 1 i] at this
theorem preP_of (h : preOps all tab 0 all.toList = true) : PreP all tab := by
  have key : ∀ (i : Nat) (o : Oper), all[i]? = some o → preOp all tab i o = true := fun i o hi => by
    have := preP_list all.toList 0 h i o (by simpa using hi)
    simpa using this
  refine ⟨fun i o hi e he hb => ?_, fun i o hi j hj => ?_, fun i o hi j hj hE => ?_, fun i o hi hE => ?_⟩
  · have := key i o hi
    simp only [preOp, Bool.and_eq_true, List.all_eq_true] at this
    have := this.1.1.1 e he
    rw [hb] at this
    simp only [Bool.not_true, Bool.false_or] at this
    have h2 : Nat.ble (e.on + 1) i = true := this
    exact Nat.le_of_ble_eq_true h2
  · have := key i o hi
    simp only [preOp, Bool.and_eq_true] at this
    have e := Nat.eq_of_beq_eq_true this.1.1.2
    unfold has at hj
    rw [e] at hj
    exact anc1_has hj
  · have := key i o hi
    simp only [preOp, Bool.and_eq_true, List.all_eq_true] at this
    have := this.1.2 j (mem_below hj)
    rw [hE] at this
    simpa using this
  · have := key i o hi
    simp only [preOp, Bool.and_eq_true] at this
    have := this.2
    rw [hE] at this
    simpa using this

theorem has_lt (hp : PreP all tab) : ∀ i, i < all.size → ∀ j, has tab i j = true → j < i := by
  intro i
  induction i using Nat.strongRecOn with
  | _ i ih =>
    intro hi j hj
    obtain ⟨e, he, hb, h⟩ := hp.anc i all[i] (by simp [hi]) j hj
    have hlt := hp.edge i all[i] (by simp [hi]) e he hb
    rcases h with h | h
    · omega
    · have := ih e.on hlt (by omega) j h
      omega

def Listed (listed : Array Bool) (i : Nat) : Prop := listed.getD i false = true
def Closed (all : Array Oper) (listed : Array Bool) : Prop := ∀ (i : Nat) (o : Oper), all[i]? = some o → Listed listed i → ∀ e, e ∈ o.after.toList → Region.binds .any e = true → Listed listed e.on
theorem has_listed (hp : PreP all tab) {listed : Array Bool} (hc : Closed all listed) : ∀ i, (o : Oper) → all[i]? = some o → (∀ e, e ∈ o.after.toList → Region.binds .any e = true → Listed listed e.on) → ∀ j, has tab i j = true → Listed listed j := by
  intro i
  induction i using Nat.strongRecOn with
  | _ i ih =>
    intro o hi hl j hj
    obtain ⟨e, he, hb, h⟩ := hp.anc i o hi j hj
    have hlt := hp.edge i o hi e he hb
    rcases h with h | h
    · subst h; exact hl e he hb
    · have hi' : i < all.size := by
        rcases Nat.lt_or_ge i all.size with h | h
        · exact h
        · simp [Array.getElem?_eq_none h] at hi
      have he' : all[e.on]? = some all[e.on] := by simp [show e.on < all.size by omega]
      exact ih e.on hlt _ he' (fun e2 h2 hb2 => hc e.on _ he' (hl e he hb) e2 h2 hb2) j h

/-! ### A layer -/
def wantB (o : Oper) (b : Bool) : Prop := match o.guard with
  | none => True
  | some (_, want) => b = want
/-- What is known of an operation of a layer. -/
structure EntOk (X : Cx C) (all : Array Oper) (tab : List (Nat × Nat)) (S0 : St C) (ents : List (Ent C)) (e : Ent C) : Prop where
  ex : ∃ o, all[e.ix]? = some o ∧ e.dst = o.dst ∧
    (match o.guard with
      | none => e.ran = true
      | some (j, want) => has tab e.ix j = true ∧ ∃ (m : Ent C), m ∈ ents ∧ m.ix = j ∧ m.dst.isSome = true ∧ ((∃ b, m.val = some (.one (.bool b)) ∧ (e.ran = true ↔ b = want)) ∨ (m.val = some .und ∧ e.ran = false))) ∧
    (e.ran = false → e.eff = some (.und, [], [])) ∧ e.eff.isSome = true ∧
    ∀ v news dels, e.ran = true → e.eff = some (v, news, dels) → ∃ (fs : List (Ent C)) (mn : St C), Valid tab fs ∧ (∀ m, m ∈ fs → m ∈ ents ∧ has tab e.ix m.ix = true) ∧ (∀ m, m ∈ ents → has tab e.ix m.ix = true → m ∈ fs) ∧
      (∀ t v, lk mn.env t = some v → lk (SD S0 fs).env t = some v) ∧ (∀ id ob, lk mn.objs id = some ob → lk (SD S0 fs).objs id = some ob ∧ id ∈ e.need) ∧ mn.base = S0.base ∧
      ∀ S', Le mn S' → (∀ id, id ∈ keysO news → Unnamed S' id) → nodupN (keysO news) = true → ∀ {R' : Type} (k' : St C → Option R'), ev X o S' k' = k' (eff S' o.dst v news dels)
theorem EntOk.mono {ents ents' : List (Ent C)} {e : Ent C} (h : EntOk X all tab S0 ents e) (hm : ∀ m, m ∈ ents → m ∈ ents') (hx : ∀ m, m ∈ ents' → m ∈ ents ∨ has tab e.ix m.ix = false) : EntOk X all tab S0 ents' e := by
  obtain ⟨o, h1, h2, h3, h5, h6, h4⟩ := h.ex
  refine ⟨o, h1, h2, ?_, h5, h6, fun v news dels hr he => ?_⟩
  · split at h3
    · exact h3
    · obtain ⟨a, m, q1, q2⟩ := h3
      exact ⟨a, m, hm m q1, q2⟩
  · obtain ⟨fs, mn, q1, q2, q3, q4⟩ := h4 v news dels hr he
    refine ⟨fs, mn, q1, fun m h => ⟨hm m (q2 m h).1, (q2 m h).2⟩, fun m h h' => ?_, q4⟩
    rcases hx m h with hx | hx
    · exact q3 m hx h'
    · rw [hx] at h'; cases h'

structure Lay (X : Cx C) (all : Array Oper) (tab : List (Nat × Nat)) (S0 : St C) (ents : List (Ent C)) : Prop where
  desc : ents.Pairwise fun e m => m.ix < e.ix
  rng : ∀ e, e ∈ ents → e.ix < all.size
  ok : ∀ e, e ∈ ents → EntOk X all tab S0 ents e
theorem Lay.valid (hp : PreP all tab) {ents : List (Ent C)} (h : Lay X all tab S0 ents) : Valid tab ents := by
  refine h.desc.imp_of_mem ?_
  intro e m he hm hlt
  refine ⟨by omega, ?_⟩
  cases hb : has tab m.ix e.ix with
  | false => rfl
  | true =>
    have := has_lt hp m.ix (h.rng m hm) e.ix hb
    omega
theorem Lay.push (hp : PreP all tab) {ents : List (Ent C)} (h : Lay X all tab S0 ents) {e : Ent C} (hqs : e.ix < all.size) (hq : ∀ m, m ∈ ents → m.ix < e.ix) (he : EntOk X all tab S0 (e :: ents) e) : Lay X all tab S0 (e :: ents) := by
  refine ⟨List.pairwise_cons.2 ⟨fun m hm => hq m hm, h.desc⟩, fun m hm => ?_, fun m hm => ?_⟩
  · rcases List.mem_cons.1 hm with e' | hm
    · subst e'; exact hqs
    · exact h.rng m hm
  · rcases List.mem_cons.1 hm with e' | hm1
    · subst e'; exact he
    · refine (h.ok m hm1).mono (fun x hx => by simp [hx]) fun x hx => ?_
      rcases List.mem_cons.1 hx with e' | hx
      · subst e'
        refine .inr ?_
        cases hb : has tab m.ix x.ix with
        | false => rfl
        | true =>
          have := has_lt hp m.ix (h.rng m hm1) x.ix hb
          have := hq m hm1
          omega
      · exact .inl hx

theorem setGrd_same : ∀ {ents : List (Ent C)} {j : Nat} {b : Bool}, grdOf ents j = some (.one (.bool b)) → setGrd ents j b = ents ∧ ∃ m, m ∈ ents ∧ m.ix = j ∧ m.dst.isSome = true ∧ m.val = some (.one (.bool b))
  | [], j, b, h => by simp [grdOf] at h
  | e :: es, j, b, h => by
    obtain ⟨ix, dst, ef, need, ran⟩ := e
    simp only [grdOf] at h
    cases hb : Nat.beq ix j with
    | true =>
      rw [hb] at h
      cases ef with
      | none => simp at h
      | some x =>
        obtain ⟨v, news, dels⟩ := x
        cases dst with
        | none => simp at h
        | some d =>
          simp at h
          subst h
          exact ⟨by simp [setGrd, hb], ⟨ix, some d, some (.one (.bool b), news, dels), need, ran⟩, by simp, Nat.eq_of_beq_eq_true hb, rfl, rfl⟩
    | false =>
      rw [hb] at h
      obtain ⟨h1, m, h2, h3⟩ := setGrd_same (ents := es) h
      exact ⟨by simp [setGrd, hb, h1], m, by simp [h2], h3⟩

theorem grd_und : ∀ {ents : List (Ent C)} {j : Nat}, grdOf ents j = some .und → ∃ m, m ∈ ents ∧ m.ix = j ∧ m.dst.isSome = true ∧ m.val = some .und
  | [], j, h => by simp [grdOf] at h
  | e :: es, j, h => by
    obtain ⟨ix, dst, ef, need, ran⟩ := e
    simp only [grdOf] at h
    cases hb : Nat.beq ix j with
    | true =>
      rw [hb] at h
      cases ef with
      | none => simp at h
      | some x =>
        obtain ⟨v, news, dels⟩ := x
        cases dst with
        | none => simp at h
        | some d =>
          simp at h
          subst h
          exact ⟨⟨ix, some d, some (.und, news, dels), need, ran⟩, by simp, Nat.eq_of_beq_eq_true hb, rfl, rfl⟩
    | false =>
      rw [hb] at h
      obtain ⟨m, h2, h3⟩ := grd_und (ents := es) h
      exact ⟨m, by simp [h2], h3⟩

theorem min_ok (hp : PreP all tab) {n : Nat} {ents : List (Ent C)} (hl : Lay X all tab S0 ents) (o : Oper) {v : SV C} {news : List (Nat × Ob C)} {dels : List Nat}
    (ho : all[n]? = some o) (hg : match o.guard with
      | none => True
      | some (j, want) => has tab n j = true ∧ ∃ (m : Ent C), m ∈ ents ∧ m.ix = j ∧ m.dst.isSome = true ∧ m.val = some (.one (.bool want)))
    (h : ∀ S', Le (minS S0 ents tab n o) S' → (∀ id, id ∈ keysO news → Unnamed S' id) → nodupN (keysO news) = true → ∀ {R' : Type} (k' : St C → Option R'), ev X o S' k' = k' (eff S' o.dst v news dels)) :
    EntOk X all tab S0 (⟨n, o.dst, some (v, news, dels), idsE0 (minE S0 ents tab n o), true⟩ :: ents) ⟨n, o.dst, some (v, news, dels), idsE0 (minE S0 ents tab n o), true⟩ := by
  refine ⟨o, ho, rfl, ?_, (fun h => by cases h), rfl, fun v' news' dels' _ he => ?_⟩
  · split at hg
    · rename_i e; simp [e]
    · rename_i j want e
      obtain ⟨h1, m, h2, h3, h5, h4⟩ := hg
      simp only [e]
      exact ⟨h1, m, by simp [h2], h3, h5, .inl ⟨want, h4, by simp⟩⟩
  · cases he
    refine ⟨ents.filter fun e => has tab n e.ix, minS S0 ents tab n o, (hl.valid hp).sublist (List.filter_sublist), fun m hm => ?_, fun m hm ha => ?_, fun t v ht => (lk_tidyA _ _ t v ht).1, fun id ob hi => lk_tidyA _ _ id ob hi, rfl, h⟩
    · obtain ⟨h1, h2⟩ := List.mem_filter.1 hm
      exact ⟨by simp [h1], h2⟩
    · rcases List.mem_cons.1 hm with e' | hm
      · subst e'
        have hlt : n < all.size := by
          rcases Nat.lt_or_ge n all.size with h | h
          · exact h
          · simp [Array.getElem?_eq_none h] at ho
        exact absurd (has_lt hp n hlt n ha) (Nat.lt_irrefl _)
      · exact List.mem_filter.2 ⟨hm, ha⟩

/-- What the check finds behind the operations of a layer. -/
def Tail (X : Cx C) (all : Array Oper) (tab : List (Nat × Nat)) (k : St C → Option R) (r : R) (S0 : St C) (rest : List (Nat × Oper)) (ents : List (Ent C)) : Prop := match rest with
  | [] => k (SD S0 ents) = some r
  | (q, o) :: rest => isE o = true ∧ ∃ f, altsL ((ups tab (lagIx tab q ents)).map fun L => ev X o (SD S0 (ents.filter fun e => !L.any (Nat.beq e.ix))) (fun S' => dlay X all tab k f (opsAt all L ++ rest) S' [])) = some r

/-- Operations in the text's order, all behind these. -/
def Asc (all : Array Oper) (l : List (Nat × Oper)) : Prop := (l.Pairwise fun x y => x.1 < y.1) ∧ ∀ x, x ∈ l → all[x.1]? = some x.2

def OutP (X : Cx C) (all : Array Oper) (tab : List (Nat × Nat)) (k : St C → Option R) (r : R) (S0 : St C) (l : List (Nat × Oper)) (ents : List (Ent C)) : Prop :=
    ∃ (rest : List (Nat × Oper)) (ents' : List (Ent C)), Lay X all tab S0 ents' ∧ LayP S0 tab ents' ∧ Tail X all tab k r S0 rest ents' ∧ Asc all rest ∧ (∀ x, x ∈ rest → x ∈ l) ∧ (∀ e, e ∈ ents' → e ∈ ents ∨ ∃ x, x ∈ l ∧ x.1 = e.ix) ∧
      (∀ x, x ∈ l → x ∈ rest ∨ ∃ e, e ∈ ents' ∧ e.ix = x.1) ∧ (∀ e, e ∈ ents → e ∈ ents') ∧ ∀ e, e ∈ ents' → ∀ x, x ∈ rest → e.ix < x.1

theorem dlay_out (hp : PreP all tab) : ∀ (f : Nat) (l : List (Nat × Oper)) (S0 : St C) (ents : List (Ent C)), Asc all l → (∀ e, e ∈ ents → ∀ x, x ∈ l → e.ix < x.1) → Lay X all tab S0 ents → dlay X all tab k f l S0 ents = some r →
    OutP X all tab k r S0 l ents
  | 0, l, S0, ents, _, _, _, h => by simp [dlay] at h
  | f + 1, [], S0, ents, ha, hb, hlay, h => by
    simp only [dlay] at h
    obtain ⟨hc, h⟩ := cond_some h
    exact ⟨[], ents, hlay, layP_of hc, h, ha, fun x hx => hx, fun e he => .inl he, fun x hx => (by cases hx), fun e he => he, fun e he x hx => (by cases hx)⟩
  | f + 1, (n, o) :: l, S0, ents, ha, hb, hlay, h => by
    have ho : all[n]? = some o := ha.2 (n, o) (by simp)
    have hn : n < all.size := by
      rcases Nat.lt_or_ge n all.size with h | h
      · exact h
      · simp [Array.getElem?_eq_none h] at ho
    obtain ⟨ha1, ha2⟩ := List.pairwise_cons.1 ha.1
    have hasc : Asc all l := ⟨ha2, fun x hx => ha.2 x (by simp [hx])⟩
    simp only [dlay] at h
    cases hE : isE o with
    | true =>
      rw [hE] at h
      obtain ⟨hc, h⟩ := cond_some h
      exact ⟨(n, o) :: l, ents, hlay, layP_of hc, ⟨hE, f, h⟩, ha, fun x hx => hx, fun e he => .inl he, fun x hx => .inl hx, fun e he => he, hb⟩
    | false =>
      rw [hE] at h
      simp only at h
      have fin : ∀ {e : Ent C}, e.ix = n → EntOk X all tab S0 (e :: ents) e → dlay X all tab k f l S0 (e :: ents) = some r →
          OutP X all tab k r S0 ((n, o) :: l) ents := by
        intro e he hok h
        obtain ⟨rest, ents', h1, h2, h3, h4, h5, h6, h7, h8, h9⟩ := dlay_out hp f l S0 (e :: ents) hasc (fun m hm x hx => by
          rcases List.mem_cons.1 hm with e' | hm
          · subst e'; rw [he]; exact ha1 x hx
          · exact hb m hm x (by simp [hx])) (hlay.push hp (by omega) (fun m hm => by rw [he]; exact hb m hm (n, o) (by simp)) hok) h
        refine ⟨rest, ents', h1, h2, h3, h4, fun x hx => by simp [h5 x hx], fun m hm => ?_, fun x hx => ?_, fun m hm => h8 m (by simp [hm]), h9⟩
        · rcases h6 m hm with h | ⟨x, hx, hx2⟩
          · rcases List.mem_cons.1 h with e' | h
            · subst e'; exact .inr ⟨(n, o), by simp, he.symm⟩
            · exact .inl h
          · exact .inr ⟨x, by simp [hx], hx2⟩
        · rcases List.mem_cons.1 hx with e' | hx
          · subst e'; exact .inr ⟨e, h8 e (by simp), he⟩
          · exact h7 x hx
      cases hg : o.guard with
      | none =>
        rw [hg] at h
        simp only at h
        obtain ⟨v, news, dels, hk, hto⟩ := evq_le h
        exact fin rfl (min_ok hp hlay o ho (by simp [hg]) hto) hk
      | some g =>
        obtain ⟨j, want⟩ := g
        rw [hg] at h
        simp only at h
        obtain ⟨hj, h⟩ := cond_some h
        split at h
        · rename_i b hbv
          obtain ⟨e1, m, hm1, hm2, hm4, hm3⟩ := setGrd_same hbv
          have skip : b ≠ want → dlay X all tab k f l S0 (⟨n, o.dst, some (.und, [], []), [], false⟩ :: ents) = some r → OutP X all tab k r S0 ((n, o) :: l) ents := by
            intro hne h
            refine fin rfl ⟨o, ho, rfl, ?_, (fun _ => rfl), rfl, fun v news dels hr he => by cases hr⟩ h
            simp only [hg]
            exact ⟨hj, m, by simp [hm1], hm2, hm4, .inl ⟨b, hm3, by simp [hne]⟩⟩
          have step : ∀ {kk : SV C → List (Nat × Ob C) → List Nat → Option R}, b = want → evq X o (minS S0 ents tab n o) kk = some r →
              (∀ v news dels, kk v news dels = dlay X all tab k f l S0 (⟨n, o.dst, some (v, news, dels), idsE0 (minE S0 ents tab n o), true⟩ :: ents)) → OutP X all tab k r S0 ((n, o) :: l) ents := by
            intro kk he h hkk
            obtain ⟨v, news, dels, hk, hto⟩ := evq_le h
            rw [hkk] at hk
            refine fin rfl (min_ok hp hlay o ho ?_ hto) hk
            simp only [hg]
            exact ⟨hj, m, hm1, hm2, hm4, by rw [← he]; exact hm3⟩
          cases b with
          | true =>
            simp only [cond_true, e1] at h
            cases want with
            | true => exact step rfl h (fun _ _ _ => rfl)
            | false => exact skip (by simp) h
          | false =>
            simp only [cond_false, e1] at h
            cases want with
            | true => exact skip (by simp) h
            | false => exact step rfl h (fun _ _ _ => rfl)
        · rename_i hbv
          obtain ⟨m, hm1, hm2, hm4, hm3⟩ := grd_und hbv
          refine fin rfl ⟨o, ho, rfl, ?_, (fun _ => rfl), rfl, fun v news dels hr he => by cases hr⟩ h
          simp only [hg]
          exact ⟨hj, m, by simp [hm1], hm2, hm4, .inr ⟨hm3, trivial⟩⟩
        · cases h

theorem alt_some {a b : Option R} {x : R} (h : alt a b = some x) : a = some x ∧ b = some x := by
  unfold alt at h
  cases a with
  | none => cases h
  | some u =>
    cases b with
    | none => cases h
    | some v =>
      simp only [Option.bind_some] at h
      split at h
      · rename_i e; cases h; exact ⟨rfl, by rw [e]⟩
      · cases h
theorem altsL_mem : ∀ {l : List (Option R)} {x : R} {y : Option R}, altsL l = some x → y ∈ l → y = some x
  | [], x, y, _, hm => by cases hm
  | [a], x, y, h, hm => by simp only [List.mem_singleton] at hm; subst hm; exact h
  | a :: b :: l, x, y, h, hm => by
    simp only [altsL] at h
    obtain ⟨h1, h2⟩ := alt_some h
    rcases List.mem_cons.1 hm with e | hm
    · rw [e]; exact h1
    · exact altsL_mem h2 hm
theorem mem_ups {p : Nat → Bool} : ∀ {l : List Nat}, (∀ j d, j ∈ l → d ∈ l → p j = true → has tab d j = true → p d = true) → l.filter p ∈ ups tab l
  | [], _ => by simp [ups]
  | j :: r, h => by
    have ih := mem_ups (p := p) (l := r) fun a b ha hb => h a b (by simp [ha]) (by simp [hb])
    simp only [ups, List.mem_append, List.mem_map, List.mem_filter]
    cases hj : p j with
    | false => left; simpa [List.filter_cons, hj] using ih
    | true =>
      right
      refine ⟨r.filter p, ⟨ih, ?_⟩, by simp [List.filter_cons, hj]⟩
      simp only [List.all_eq_true, Bool.or_eq_true, Bool.not_eq_true']
      intro d hd
      cases hb : has tab d j with
      | false => exact .inl rfl
      | true =>
        right
        have := h j d (by simp) (by simp [hd]) hj hb
        exact List.any_eq_true.2 ⟨d, List.mem_filter.2 ⟨hd, this⟩, Nat.beq_refl d⟩
end
end Go.Proofs.Ytkiognopoigbhaa.Ab
