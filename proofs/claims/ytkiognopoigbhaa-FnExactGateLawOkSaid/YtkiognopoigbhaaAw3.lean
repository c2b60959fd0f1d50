/- The abstract machine: functions that write through what they are handed, part 3: the call. -/
import Derived.Test.YtkiognopoigbhaaAw2
set_option linter.unusedVariables false
set_option linter.unusedSimpArgs false
set_option linter.unusedSectionVars false
namespace Go.Proofs.Ytkiognopoigbhaa.Ab
open Go Go.RowKit

section
variable {Ty : Type} [DecidableEq Ty] {C : Ty → Type}
variable {P : Program} {X : Cx C} {w0 w : World} {nt : Nat} {S : St C} {β : Nat → Value} {fp : Nat → Nat → Prop} {a : Act} {R : Type} {k : St C → Option R} {r : R}
variable {Q : Exit → Act → World → Prop}

theorem lk_mem {α : Type} : ∀ {l : List (Nat × α)} {n : Nat} {v : α}, lk l n = some v → (n, v) ∈ l
  | [], n, v, h => by simp [lk] at h
  | (m, x) :: l, n, v, h => by
    rw [lk_cons] at h
    split at h
    · rename_i e; cases h; subst e; simp
    · exact List.mem_cons_of_mem _ (lk_mem h)
theorem untouch_lk {ids : List Nat} : ∀ {E : List (Nat × SV C)} {t : Nat} {v : SV C}, lk (untouch ids E) t = some v → lk E t = some v ∧ touchV ids v = false
  | [], t, v, h => by simp [untouch, lk] at h
  | (m, x) :: E, t, v, h => by
    simp only [untouch] at h
    cases hx : touchV ids x with
    | true =>
      rw [hx, cond_true, lk_rm] at h
      split at h
      · cases h
      · rename_i hne
        obtain ⟨h1, h2⟩ := untouch_lk h
        exact ⟨by rw [lk_cons, if_neg hne]; exact h1, h2⟩
    | false =>
      rw [hx, cond_false, lk_cons] at h
      rw [lk_cons]
      split at h
      · rename_i e
        cases h
        exact ⟨by rw [if_pos e], hx⟩
      · rename_i e
        obtain ⟨h1, h2⟩ := untouch_lk h
        exact ⟨by rw [if_neg e]; exact h1, h2⟩
theorem any_beq {n : Nat} {l : List Nat} (h : l.any (Nat.beq n) = false) : n ∉ l := fun hm => List.any_eq_false.1 h n hm (Nat.beq_refl n)
theorem touchL_no {ids : List Nat} {l : Lf C} (h : touchL ids l = false) (hp : placeL l = true) : ∀ i, i ∈ idsL l → i ∉ ids := by
  intro i hi
  cases l with
  | ref j p =>
    cases p with
    | nil => cases hp
    | cons s p => simp only [idsL, List.mem_singleton] at hi; subst hi; exact any_beq h
  | ep j p n o => simp only [idsL, List.mem_singleton] at hi; subst hi; exact any_beq h
  | _ => cases hp
theorem touchV_no {ids : List Nat} {v : SV C} (h : touchV ids v = false) : ∀ l, l ∈ allL v → touchL ids l = false := by
  intro l hl
  cases v with
  | one l' => simp only [allL, List.mem_singleton] at hl; subst hl; exact h
  | agg ls =>
    have := List.any_eq_false.1 (h : ls.any (touchL ids) = false) l hl
    simpa using this
  | tup xs =>
    simp only [allL, List.mem_flatMap] at hl
    obtain ⟨x, hx, hl⟩ := hl
    have h1 := List.any_eq_false.1 (h : (xs.any fun x => x.2.any (touchL ids)) = false) x hx
    have h1 : x.2.any (touchL ids) = false := by simpa using h1
    have := List.any_eq_false.1 h1 l hl
    simpa using this
  | sus x j =>
    have hl : l ∈ x.2 := hl
    have := List.any_eq_false.1 (h : x.2.any (touchL ids) = false) l hl
    simpa using this
  | _ => simp [allL] at hl
theorem allL_ids {v : SV C} {l : Lf C} (hl : l ∈ allL v) {i : Nat} (hi : i ∈ idsL l) : i ∈ idsV0 v := by
  cases v with
  | one l' => simp only [allL, List.mem_singleton] at hl; subst hl; exact hi
  | agg ls =>
    have hl : l ∈ ls := hl
    obtain ⟨j, hj, rfl⟩ := List.getElem_of_mem hl
    exact mem_idsLs (i := j) (by simp [hj]) hi
  | tup xs =>
    simp only [allL, List.mem_flatMap] at hl
    obtain ⟨x, hx, hl⟩ := hl
    show i ∈ idsT xs
    induction xs with
    | nil => cases hx
    | cons y r ih =>
      obtain ⟨b, ls⟩ := y
      simp only [idsT, List.mem_append]
      rcases List.mem_cons.1 hx with e | hx
      · subst e; left; obtain ⟨j, hj, rfl⟩ := List.getElem_of_mem hl; exact mem_idsLs (i := j) (by simp [hj]) hi
      · exact .inr (ih hx)
  | sus x j =>
    have hl : l ∈ x.2 := hl
    obtain ⟨m, hm, rfl⟩ := List.getElem_of_mem hl
    exact mem_idsLs (i := m) (by simp [hm]) hi
  | _ => simp [allL] at hl

/-- A call of a function that writes through what it is handed. -/
theorem s_callW (hcon : ∀ f c, X.conw f = some c → ConWOk P X.K f c) (hs : Sim X.K w0 nt S β fp a w) {o : Oper} {dst : Option Tmp} (hd : slot dst nt) {f : FuncId} {as : Array Operand} {ts : Array TypeId} {ty : TypeId} {pos : String} {aft : Array Edge} {gd : Option (Nat × Bool)}
    (ho : o = ⟨dst, .call { callee := .value (.func f), args := as, argTypes := ts }, ty, pos, aft, gd⟩) (h : callW X S f as.toList ts.toList o k = some r) : Goal P X w0 nt k r Q o a w := by
  have hod : o.dst = dst := by rw [ho]
  subst hod
  unfold callW at h
  split at h
  case h_2 => cases h
  rename_i c hc
  obtain ⟨rs, tg, uls, G, h, hok, hargs, hul, htl, hG⟩ := ownAll_ok hs h
  obtain ⟨hnd, h⟩ := cond_some h
  simp only [Bool.and_eq_true, Bool.not_eq_true'] at hnd
  obtain ⟨hnd, hto⟩ := hnd
  have hnd := nodupB_ok hnd
  cases hg : c.g rs with
  | none => rw [hg] at h; cases h
  | some r0 =>
    rw [hg] at h
    simp only [Option.bind_some] at h
    let G0 : Nat → Nat → Prop := fun m k => m < (flatten rs).length ∧ G m k
    have hG0 : ∀ m, m < (flatten rs).length → G0 m = G m := fun m hm => by funext k; simp [G0, hm]
    have hleaf : ∀ (m : Nat) (l : Lf C), (flatten rs)[m]? = some l → l.plain = true ∧ Own X.K w w0.heap.size (G0 m) l (uls.getD m undef) ∧ ∃ t, tg[m]? = some t ∧ TgOk X.K w w0.heap.size S β fp (G0 m) (uls.getD m undef) t := fun m l hm => by
      rw [hG0 m (idx_lt hm)]; exact hG m l hm
    have hA : ∀ m k, G0 m k → ∃ id p ob, tg[m]? = some (some (id, p)) ∧ fp id k ∧ lk S.objs id = some ob := fun m k hk => by
      obtain ⟨_, _, t, h1, h2⟩ := hleaf m (flatten rs)[m] (by simp [hk.1])
      cases t with
      | none => exact absurd hk (h2 k)
      | some x => obtain ⟨id, p⟩ := x; obtain ⟨t, xs, h3, h4, _⟩ := h2; exact ⟨id, p, _, h1, h4 k hk, h3⟩
    have hT : ∀ (m id : Nat) (p : List (Nat × Nat)), tg[m]? = some (some (id, p)) → ∃ ob, lk S.objs id = some ob := fun m id p hm => by
      have hlt : m < (flatten rs).length := by rw [← htl]; exact idx_lt hm
      obtain ⟨_, _, t, h1, h2⟩ := hleaf m (flatten rs)[m] (by simp [hlt])
      rw [hm] at h1
      have e : some (id, p) = t := Option.some.inj h1
      subst e
      obtain ⟨t, xs, h3, _⟩ := h2
      exact ⟨_, h3⟩
    have hone : ∀ (m id : Nat) (p : List (Nat × Nat)) (ob : Ob C) (m' k : Nat), tg[m]? = some (some (id, p)) → lk S.objs id = some ob → fp id k → G0 m' k → m' = m := fun m id p ob m' k hm hob hk hk' => by
      obtain ⟨id', p', ob', h1, h2, h3⟩ := hA m' k hk'
      have := hs.disj id' id ob' ob k h3 hob h2 hk
      subst this
      exact tids_inj hnd h1 hm
    obtain ⟨⟨fn, hf1, hf2, hf3⟩, hcalls⟩ := hcon f c hc
    have hcall := hcalls w0 w rs uls r0 G0 hs.below hok hul (fun m k hk => by
        obtain ⟨id, p, ob, _, h2, h3⟩ := hA m k hk
        exact hs.fresh id ob k h3 h2) (fun m m' k hk hk' => by
        obtain ⟨id, p, ob, h1, h2, h3⟩ := hA m k hk
        exact (hone m id p ob m' k h1 h3 h2 hk').symm) (fun m l hm => ⟨(hleaf m l hm).1, (hleaf m l hm).2.1⟩) hg
    have hexec : (execOp a.eval o).run P w = .ok (.enter f (as.map a.eval)) w := by
      have hf3' : (fn.name == "runtime.NumGoroutine") = false := by simpa using hf3
      rw [ho]
      simp [execOp, resolve, Deferred.ofValue, invoke, callFunc, hf1, hf2, hf3', Act.eval]
      rw [if_neg hf3, if_neg (by intro hb; simp [hb] at hf2)]
    show o.wp P a w (Next X.K w0 nt k r) Q
    unfold Oper.wp
    rw [hexec]
    show Calls P f (as.map a.eval) w _
    have e : as.map a.eval = (as.toList.map a.eval).toArray := by rw [← Array.toList_map, Array.toArray_toList]
    rw [e, hargs]
    refine hcall.mono fun en w' ⟨v0, he, hb, hfr, rls, G', hp, hrl, hokr, holen, hG1, hG2, hG3⟩ => ?_
    subst he
    -- the rows are turned
    have hsep : ∀ x k, G' x k → ∀ id ob, lk S.objs id = some ob → fp id k → ∃ m, G0 m k := fun x k hk id ob hob hf => by
      rcases (hG1 x k hk).1 with h1 | h1
      · exact h1
      · have := (hs.fresh id ob k hob hf).2; omega
    obtain ⟨S2, φ', J, M, q1, q2⟩ := putAll_ok (X := X) (w0 := w0) (w := w) (w' := w') (S := S) (β := β) (fp := fp) (G' := G') (flatten rs) tg (c.out r0) uls G0 0 { S with env := untouch (tids tg) S.env } fp hul
      (fun m l hm => (hleaf m l hm).2.2)
      (fun m id p hm => by
        obtain ⟨ob, hob⟩ := hT m id p hm
        refine ⟨fun k hk hn => (hfr k (hs.fresh id ob k hob hk).2 fun m' hk' => ?_).2, fun x k hk => ?_⟩
        · have := hone m id p ob m' k hm hob hk hk'
          subst this
          exact hn hk'
        · by_cases hf : fp id k
          · left
            obtain ⟨m', hk'⟩ := hsep x k hk id ob hob hf
            have := hone m id p ob m' k hm hob hf hk'
            subst this
            exact hk'
          · exact .inr hf)
      (fun i l hi => by
        have hlt := idx_lt hi
        have := hG3 i l (by rw [List.getElem?_append_left hlt]; exact hi)
        have e1 : (rowsOf (flatten rs) uls ++ rls).getD i undef = (rowsOf (flatten rs) uls).getD i undef := by simp [List.getD, List.getElem?_append_left (by rw [← holen]; exact hlt : i < (rowsOf (flatten rs) uls).length)]
        rw [e1] at this
        rw [Nat.zero_add]
        exact this) hnd (fun id _ => rfl) h
    split at q1
    case h_2 => cases q1
    rename_i v S'' hv hadd
    let id0 := newId X o
    let n := (c.out r0).length
    let news := (internAll id0 (c.ret r0)).2
    obtain ⟨g1, g2, g3, g4⟩ := addAll_ok hadd
    have hnews : ∀ id ob, lk news id = some ob → ∃ m t xs, id = id0 + m ∧ (flatten (c.ret r0))[m]? = some (.row t xs) ∧ ob = .row t xs false := fun id ob hi => all_lk _ _ _ _ hi
    let β' : Nat → Value := fun id => if (lk news id).isSome then rls.getD (id - id0) undef else β id
    let fp' : Nat → Nat → Prop := fun id k => if (lk news id).isSome then G' (n + (id - id0)) k else φ' id k
    have hβ' : ∀ id, lk news id = none → β' id = β id := fun id hi => by simp [β', hi]
    have hnone : ∀ id, ¬ (lk news id).isSome → lk news id = none := fun id hi => by
      cases e : lk news id with
      | none => rfl
      | some x => rw [e] at hi; exact absurd rfl hi
    have hget : ∀ id ob, lk news id = none → lk S''.objs id = some ob → lk S2.objs id = some ob := fun id ob hn hi => by
      rw [g3, lk_append] at hi
      have hn' : lk (internAll id0 (c.ret r0)).2 id = none := hn
      rw [hn'] at hi
      exact hi
    have henv2 : S''.env = untouch (tids tg) S.env := g1.trans q2.env
    have hunE : ∀ t v, lk S''.env t = some v → ∀ i, i ∈ idsV0 v → lk news i = none := fun t v ht i hi => by
      cases e : lk news i with
      | none => rfl
      | some ob => exact absurd (mem_idsE (by rw [← g1]; exact ht) hi) (g4 i ob e).1
    have hunO : ∀ id ob, lk S2.objs id = some ob → lk news id = none ∧ ∀ kd ls, ob = .box kd ls → ∀ i, i ∈ idsLs ls → lk news i = none := fun id ob hi => by
      obtain ⟨m1, m2⟩ := mem_idsO hi
      refine ⟨?_, fun kd ls e i hi' => ?_⟩
      · cases e : lk news id with
        | none => rfl
        | some x => exact absurd m1 (g4 id x e).2
      · cases e2 : lk news i with
        | none => rfl
        | some x => exact absurd (m2 kd ls e i hi') (g4 i x e2).2
    let U : Nat → Prop := fun id => id ∈ tids tg ∨ (lk news id).isSome
    let Ix : Nat → Nat := fun id => if (lk news id).isSome then n + (id - id0) else J id
    -- where a block comes from
    have hcase : ∀ id ob k, lk S''.objs id = some ob → fp' id k → (∃ ob0, lk S.objs id = some ob0 ∧ fp id k ∧ ∀ m, ¬ G0 m k) ∨ (U id ∧ G' (Ix id) k) := fun id ob k hi hk => by
      by_cases hn : (lk news id).isSome
      · right
        simp only [fp', hn, if_true] at hk
        exact ⟨.inr hn, by simpa [Ix, hn] using hk⟩
      · simp only [fp', hn] at hk
        have h2 := hget id ob (hnone id hn) hi
        by_cases ht : id ∈ tids tg
        · obtain ⟨a1, a2, ⟨p, a3⟩, a4, a5⟩ := q2.at' id ht
          rcases a5 k hk with ⟨b1, b2⟩ | b1
          · left
            obtain ⟨ob0, hob⟩ := hT _ id p a3
            refine ⟨ob0, hob, b1, fun m hm => b2 ?_⟩
            have := hone _ id p ob0 m k a3 hob b1 hm
            subst this
            exact hm
          · exact .inr ⟨.inl ht, by simpa [Ix, hn] using b1⟩
        · left
          obtain ⟨o1, o2⟩ := q2.other id ht
          have hk : φ' id k := hk
          rw [o2] at hk
          have h3 : lk S.objs id = some ob := by rw [← h2, o1]
          refine ⟨ob, h3, hk, fun m hm => ?_⟩
          obtain ⟨id', p, ob', c1, c2, c3⟩ := hA m k hm
          have := hs.disj id' id ob' ob k c3 h3 c2 hk
          subst this
          exact ht (mem_tids.2 ⟨m, p, c1⟩)
    have hIx : ∀ id id' ob ob', U id → U id' → lk S''.objs id = some ob → lk S''.objs id' = some ob' → Ix id = Ix id' → id = id' := fun id id' ob ob' hu hu' ho ho' e => by
      by_cases hn : (lk news id).isSome <;> by_cases hn' : (lk news id').isSome
      · obtain ⟨x, hx⟩ := Option.isSome_iff_exists.1 hn
        obtain ⟨x', hx'⟩ := Option.isSome_iff_exists.1 hn'
        obtain ⟨m, _, _, e1, _⟩ := hnews id x hx
        obtain ⟨m', _, _, e1', _⟩ := hnews id' x' hx'
        simp only [Ix, hn, hn', if_true] at e
        omega
      · have ht' : id' ∈ tids tg := hu'.resolve_right hn'
        have := (q2.at' id' ht').2.1
        simp only [Nat.zero_add] at this
        simp only [Ix, hn, hn', if_true] at e
        have e : n + (id - id0) = J id' := e
        omega
      · have ht : id ∈ tids tg := hu.resolve_right hn
        have := (q2.at' id ht).2.1
        simp only [Nat.zero_add] at this
        simp only [Ix, hn, hn', if_true] at e
        have e : J id = n + (id' - id0) := e
        omega
      · simp only [Ix, hn, hn'] at e
        exact q2.inj id id' (hu.resolve_right hn) (hu'.resolve_right hn') e
    have hsim : Sim X.K w0 nt S'' β' fp' a w' := by
      refine hs.write (S' := S'') hb U (fun k hk => ?_) (fun id ob hu hi => ?_) (fun id ob hu hi => ?_) (fun t v ht i hi => hβ' i (hunE t v ht i hi)) (fun id ob k hu hi hk => ?_) (fun id id' ob ob' k hu hi hi' hk hk' => ?_) (fun id ob hu hi => ?_) (fun id kd ls hu hi l hl hp i hil => ?_) (fun t v ht => ?_)
      · have hno : ∀ m, ¬ G0 m k := fun m hm => by
          obtain ⟨id, p, ob, _, h2, h3⟩ := hA m k hm
          exact hk.2 id ob h3 h2
        obtain ⟨f1, f2⟩ := hfr k hk.1 hno
        refine ⟨⟨f1, fun id ob hi hf => ?_⟩, f2⟩
        rcases hcase id ob k hi hf with ⟨ob0, h1, h2, _⟩ | ⟨_, h1⟩
        · exact hk.2 id ob0 h1 h2
        · rcases (hG1 _ k h1).1 with ⟨m, hm⟩ | h2
          · exact hno m hm
          · have := hk.1; omega
      · have hn : lk news id = none := hnone id fun h => hu (.inr h)
        have h2 := hget id ob hn hi
        obtain ⟨o1, o2⟩ := q2.other id fun h => hu (.inl h)
        have h3 : lk S.objs id = some ob := by rw [← h2, o1]
        refine ⟨h3, ?_, fun k hk => hfr k (hs.fresh id ob k h3 hk).2 fun m hm => ?_⟩
        · funext k; simp [fp', hn, o2]
        · obtain ⟨id', p, ob', c1, c2, c3⟩ := hA m k hm
          have := hs.disj id' id ob' ob k c3 h3 c2 hk
          subst this
          exact hu (.inl (mem_tids.2 ⟨m, p, c1⟩))
      · have hn : lk news id = none := hnone id fun h => hu (.inr h)
        have h2 := hget id ob hn hi
        exact ⟨hβ' id hn, fun kd ls e i hi' => hβ' i ((hunO id ob h2).2 kd ls e i hi')⟩
      · rcases hcase id ob k hi hk with ⟨ob0, h1, h2, h3⟩ | ⟨_, h1⟩
        · have := hs.fresh id ob0 k h1 h2
          exact ⟨this.1, (hfr k this.2 h3).1⟩
        · exact (hG1 _ k h1).2
      · rcases hcase id ob k hi hk with ⟨ob0, h1, h2, h3⟩ | ⟨u1, h1⟩ <;> rcases hcase id' ob' k hi' hk' with ⟨ob0', h1', h2', h3'⟩ | ⟨u1', h1'⟩
        · exact hs.disj id id' ob0 ob0' k h1 h1' h2 h2'
        · obtain ⟨m, hm⟩ := hsep _ k h1' id ob0 h1 h2
          exact absurd hm (h3 m)
        · obtain ⟨m, hm⟩ := hsep _ k h1 id' ob0' h1' h2'
          exact absurd hm (h3' m)
        · exact hIx id id' ob ob' u1 u1' hi hi' (hG2 _ _ k h1 h1')
      · by_cases hn : (lk news id).isSome
        · obtain ⟨x, hx⟩ := Option.isSome_iff_exists.1 hn
          obtain ⟨m, t, xs, e1, e2, e3⟩ := hnews id x hx
          have hx2 : lk S''.objs id = some x := by
            rw [g3, lk_append]
            have hx' : lk (internAll id0 (c.ret r0)).2 id = some x := hx
            rw [hx']
          rw [hx2] at hi
          cases hi
          refine ⟨t, xs, e3, ?_⟩
          have hO := hG3 (n + m) (.row t xs) (by rw [List.getElem?_append_right (by omega)]; simpa [n] using e2)
          have e4 : (rowsOf (flatten rs) uls ++ rls).getD (n + m) undef = rls.getD m undef := by
            simp only [List.getD]
            rw [List.getElem?_append_right (by rw [← holen]; omega), ← holen]
            simp [n]
          have e5 : id - id0 = m := by omega
          rw [e4] at hO
          simpa [β', fp', hn, e5] using hO
        · have ht : id ∈ tids tg := hu.resolve_right hn
          obtain ⟨_, _, _, ⟨t, xs, a4, a5⟩, _⟩ := q2.at' id ht
          have h2 := hget id ob (hnone id hn) hi
          rw [a4] at h2
          cases h2
          refine ⟨t, xs, rfl, ?_⟩
          have e1 : β' id = β id := hβ' id (hnone id hn)
          have e2 : fp' id = φ' id := by funext k; simp [fp', hn]
          rw [e1, e2]
          exact a5
      · have hn : lk news id = none := hnone id fun h => hu (.inr h)
        have h2 := hget id _ hn hi
        obtain ⟨o1, o2⟩ := q2.other id fun h => hu (.inl h)
        have h3 : lk S.objs id = some (.box kd ls) := by rw [← h2, o1]
        have hto1 := List.any_eq_false.1 hto (id, .box kd ls) (lk_mem h3)
        have hto2 : ls.any (touchL (tids tg)) = false := by simpa [touchO] using hto1
        have hto3 := List.any_eq_false.1 hto2 l hl
        have hto3 : touchL (tids tg) l = false := by simpa using hto3
        rintro (h4 | h4)
        · exact touchL_no hto3 hp i hil h4
        · have : lk news i = none := (hunO id _ h2).2 _ ls rfl i (by
            obtain ⟨j, hj, rfl⟩ := List.getElem_of_mem hl
            exact mem_idsLs (i := j) (by simp [hj]) hil)
          rw [this] at h4; cases h4
      · have ht' := ht
        rw [henv2] at ht'
        obtain ⟨h1, h2⟩ := untouch_lk ht'
        refine ⟨h1, fun l hl hp i hil => ?_⟩
        rintro (h4 | h4)
        · exact touchL_no (touchV_no h2 l hl) hp i hil h4
        · have := hunE t v ht i (allL_ids hl hil)
          rw [this] at h4; cases h4
    have hsh := shape_intern (c.ret r0) id0
    have hval : LfsOk X.K w' S''.objs β' fp' (stbOf S''.objs fp' w') (flatten (internAll id0 (c.ret r0)).1) rls := by
      refine ⟨by rw [hrl, flatten_len hsh], fun m l hm => ?_⟩
      have own : ∀ l', (flatten (c.ret r0))[m]? = some l' → Own X.K w' w0.heap.size (G' (n + m)) l' (rls.getD m undef) := fun l' hl' => by
        have hO := hG3 (n + m) l' (by rw [List.getElem?_append_right (by omega)]; simpa [n] using hl')
        have e4 : (rowsOf (flatten rs) uls ++ rls).getD (n + m) undef = rls.getD m undef := by
          simp only [List.getD]
          rw [List.getElem?_append_right (by rw [← holen]; omega), ← holen]
          simp [n]
        rw [e4] at hO
        exact hO
      rcases all_get (c.ret r0) id0 m l hm with ⟨t, xs, q1, q2, q3⟩ | ⟨q1, q2⟩
      · subst q2
        refine ⟨(own _ q1).one, ?_⟩
        have e2 : (lk news (id0 + m)).isSome := by
          have : lk news (id0 + m) = some (.row t xs false) := q3
          rw [this]; rfl
        simp [β', e2]
      · exact own_lf (own l q1) q2
    have hsv := res_sv (by rw [okRes_congr hsh]; exact hokr) hv hval
    rw [pack_congr hsh (us := rls), ← hp] at hsv
    exact next_put hsim hd hsv q1
end
end Go.Proofs.Ytkiognopoigbhaa.Ab
