/- The abstract machine, part 26: a drawn region, in whatever order. -/
import Derived.Test.YtkiognopoigbhaaAb25
set_option linter.unusedVariables false
set_option linter.unusedSimpArgs false
set_option linter.unusedSectionVars false
namespace Go.Proofs.Ytkiognopoigbhaa.Ab
open Go Go.RowKit

section
variable {Ty : Type} [DecidableEq Ty] {C : Ty → Type}
variable {P : Program} {X : Cx C} {w0 : World} {nt : Nat} {R : Type} {k : St C → Option R} {r : R} {tab : List (Nat × Nat)} {all : Array Oper} {Q : Exit → Act → World → Prop}

/-- Where a drawn region stands. -/
structure At (P : Program) (X : Cx C) (w0 : World) (nt : Nat) (k : St C → Option R) (r : R) (tab : List (Nat × Nat)) (all : Array Oper) (listed : Array Bool) (a : Act) (w : World) (rest : List (Nat × Oper)) (S0 : St C) (ents es : List (Ent C)) : Prop where
  lay : Lay X all tab S0 ents
  chk : LayP S0 tab ents
  tail : Tail X all tab k r S0 rest ents
  asc : Asc all rest
  bef : ∀ e, e ∈ ents → ∀ x, x ∈ rest → e.ix < x.1
  valid : Valid tab es
  sub : ∀ e, e ∈ es → e ∈ ents
  mem : ∀ e, e ∈ ents → (Listed listed e.ix ↔ e ∈ es)
  cov : ∀ i, i < all.size → Listed listed i ∨ (∃ e, e ∈ ents ∧ e.ix = i) ∨ ∃ x, x ∈ rest ∧ x.1 = i
  hi : ∀ x, x ∈ rest → ¬ Listed listed x.1
  sim : SimE X.K w0 nt (SD S0 es) a w

theorem ready_mem {listed : Array Bool} {i : Nat} : i ∈ Region.ready .any all listed ↔ i < all.size ∧ listed.getD i true = false ∧ ∀ o, all[i]? = some o → ∀ e, e ∈ o.after.toList → Region.binds .any e = true → Listed listed e.on := by
  unfold Region.ready
  rw [List.mem_filter, List.mem_range]
  constructor
  · rintro ⟨h1, h2⟩
    simp only [Bool.and_eq_true, Bool.not_eq_true'] at h2
    refine ⟨h1, h2.1, fun o ho e he hb => ?_⟩
    rw [ho] at h2
    have h3 := h2.2
    simp only [Option.map_some, Option.getD_some, Array.all_eq_true'] at h3
    have := h3 e (by simpa using he)
    rw [hb] at this
    simpa [Listed] using this
  · rintro ⟨h1, h2, h3⟩
    refine ⟨h1, ?_⟩
    have ho : all[i]? = some all[i] := by simp [h1]
    simp only [h2, ho, Option.map_some, Option.getD_some, Bool.not_false, Bool.true_and, Array.all_eq_true']
    intro e he
    cases hb : Region.binds .any e with
    | false => simp
    | true => simpa [Listed] using h3 _ ho e (by simpa using he) hb

theorem listed_set {listed : Array Bool} {i j : Nat} (hi : i < listed.size) : Listed (listed.setIfInBounds i true) j ↔ j = i ∨ Listed listed j := by
  unfold Listed
  simp only [Array.getD_eq_getD_getElem?, Array.getElem?_setIfInBounds]
  by_cases e : i = j
  · subst e; simp [hi]
  · have : j ≠ i := fun h => e h.symm
    simp [e, this]

theorem all_listed (hp : PreP all tab) {listed : Array Bool} (hs : listed.size = all.size) (h : Region.ready .any all listed = []) : ∀ i, i < all.size → Listed listed i := by
  intro i
  induction i using Nat.strongRecOn with
  | _ i ih =>
    intro hi
    cases hl : listed.getD i true with
    | true =>
      unfold Listed
      simp only [Array.getD_eq_getD_getElem?, Array.getElem?_eq_getElem (hs ▸ hi : i < listed.size), Option.getD_some] at hl ⊢
      exact hl
    | false =>
      have : i ∈ Region.ready .any all listed := ready_mem.2 ⟨hi, hl, fun o ho e he hb => by
        have := hp.edge i o ho e he hb
        exact ih e.on this (by omega)⟩
      rw [h] at this
      cases this

theorem at_end (hp : PreP all tab) {listed : Array Bool} {a : Act} {w : World} {rest : List (Nat × Oper)} {S0 : St C} {ents es fs : List (Ent C)} (h : At P X w0 nt k r tab all listed a w rest S0 ents es) (hv : Valid tab fs) (hfs : ∀ e, e ∈ fs ↔ e ∈ ents ∧ Listed listed e.ix) :
    SimE X.K w0 nt (SD S0 fs) a w :=
  sim_perm (P := P) h.chk h.valid hv h.sub (fun e => ⟨fun he => (h.mem e ((hfs e).1 he).1).1 ((hfs e).1 he).2, fun he => (hfs e).2 ⟨h.sub e he, (h.mem e (h.sub e he)).2 he⟩⟩) h.sim

theorem asc_drop {q : Nat} {o : Oper} {l : List (Nat × Oper)} (h : Asc all ((q, o) :: l)) : Asc all l ∧ ∀ x, x ∈ l → q < x.1 :=
  ⟨⟨(List.pairwise_cons.1 h.1).2, fun x hx => h.2 x (by simp [hx])⟩, fun x hx => (List.pairwise_cons.1 h.1).1 x hx⟩
theorem opsAt_mem {L : List Nat} {x : Nat × Oper} : x ∈ opsAt all L ↔ x.1 ∈ L ∧ all[x.1]? = some x.2 := by
  unfold opsAt
  rw [List.mem_filterMap]
  constructor
  · rintro ⟨i, hi, h⟩
    cases e : all[i]? with
    | none => rw [e] at h; cases h
    | some o => rw [e] at h; cases h; exact ⟨hi, e⟩
  · rintro ⟨h1, h2⟩
    exact ⟨x.1, h1, by rw [h2]; rfl⟩
theorem asc_opsAt : ∀ {L : List Nat}, L.Pairwise (· < ·) → Asc all (opsAt all L)
  | [], _ => ⟨List.Pairwise.nil, fun x hx => by simp [opsAt] at hx⟩
  | j :: r, h => by
    obtain ⟨h1, h2⟩ := List.pairwise_cons.1 h
    obtain ⟨a1, a2⟩ := asc_opsAt (L := r) h2
    refine ⟨?_, fun x hx => (opsAt_mem.1 hx).2⟩
    unfold opsAt at a1 ⊢
    rw [List.filterMap_cons]
    cases e : (all[j]?).map fun o => (j, o) with
    | none => exact a1
    | some y =>
      refine List.pairwise_cons.2 ⟨fun x hx => ?_, a1⟩
      have hy : y.1 = j := by
        cases e2 : all[j]? with
        | none => rw [e2] at e; cases e
        | some o => rw [e2] at e; cases e; rfl
      rw [hy]
      have : x ∈ opsAt all r := hx
      exact h1 x.1 (opsAt_mem.1 this).1
theorem asc_append {l m : List (Nat × Oper)} (hl : Asc all l) (hm : Asc all m) (h : ∀ x, x ∈ l → ∀ y, y ∈ m → x.1 < y.1) : Asc all (l ++ m) :=
  ⟨List.pairwise_append.2 ⟨hl.1, hm.1, fun x hx y hy => h x hx y hy⟩, fun x hx => (List.mem_append.1 hx).elim (hl.2 x) (hm.2 x)⟩

theorem draw_any (hX : XOk P X) (hC : Cons P X) (hp : PreP all tab) (hall : ∀ o, o ∈ all.toList → slot o.dst nt) (hQ : ∀ a w, Next X.K w0 nt k r a w → Q .normal a w) :
    ∀ (fuel : Nat) (listed : Array Bool) (a : Act) (w : World) (rest : List (Nat × Oper)) (S0 : St C) (ents es : List (Ent C)), listed.size = all.size → listed.toList.count false = fuel → Closed all listed →
      At P X w0 nt k r tab all listed a w rest S0 ents es → wpAny P .any all Q fuel listed a w := by
  have done : ∀ {listed : Array Bool} {a : Act} {w : World} {rest : List (Nat × Oper)} {S0 : St C} {ents es : List (Ent C)}, (∀ i, i < all.size → Listed listed i) → At P X w0 nt k r tab all listed a w rest S0 ents es → Q .normal a w := by
    intro listed a w rest S0 ents es hl h
    have ht := h.tail
    cases rest with
    | nil => exact hQ a w ⟨_, at_end hp h (h.lay.valid hp) (fun e => ⟨fun he => ⟨he, hl e.ix (h.lay.rng e he)⟩, fun he => he.1⟩), ht⟩
    | cons x rest =>
      have hx := h.asc.2 x (by simp)
      have : x.1 < all.size := by
        rcases Nat.lt_or_ge x.1 all.size with h | h
        · exact h
        · simp [Array.getElem?_eq_none h] at hx
      exact absurd (hl x.1 this) (h.hi x (by simp))
  intro fuel
  induction fuel with
  | zero =>
    intro listed a w rest S0 ents es hs hf hc h
    have hl : ∀ i, i < all.size → Listed listed i := by
      intro i hi
      have h1 : i < listed.toList.length := by simpa [hs] using hi
      have h2 := List.count_eq_zero.1 hf
      have h3 : listed.toList[i] ≠ false := fun e => h2 (e ▸ List.getElem_mem h1)
      unfold Listed
      simp only [Array.getD_eq_getD_getElem?, Array.getElem?_eq_getElem (hs ▸ hi : i < listed.size), Option.getD_some]
      simpa using h3
    refine ⟨?_, done hl h⟩
    cases hr : Region.ready .any all listed with
    | nil => rfl
    | cons x l =>
      have hx : x ∈ Region.ready .any all listed := by rw [hr]; simp
      obtain ⟨h1, h2, _⟩ := ready_mem.1 hx
      have := hl x h1
      unfold Listed at this
      simp only [Array.getD_eq_getD_getElem?, Array.getElem?_eq_getElem (hs ▸ h1 : x < listed.size), Option.getD_some] at this h2
      rw [this] at h2
      cases h2
  | succ fuel ih =>
    intro listed a w rest S0 ents es hs hf hc h
    refine ⟨fun hr => done (all_listed hp hs hr) h, fun i hi => ?_⟩
    obtain ⟨h1, h2, h3⟩ := ready_mem.1 hi
    have hil : i < listed.size := by omega
    have ho : all[i]? = some all[i] := by simp [h1]
    generalize all[i] = o at ho
    have h3' := h3 o ho
    have hnl : ¬ Listed listed i := by
      unfold Listed
      simp only [Array.getD_eq_getD_getElem?, Array.getElem?_eq_getElem hil, Option.getD_some] at h2 ⊢
      rw [h2]; simp
    have hslot : slot o.dst nt := hall o (by simpa using Array.mem_of_getElem? ho)
    have hanc : ∀ j, has tab i j = true → Listed listed j := has_listed hp hc i o ho h3'
    -- what is so behind it
    have hs' : (listed.setIfInBounds i true).size = all.size := by simp [hs]
    have hf' : (listed.setIfInBounds i true).toList.count false = fuel := by
      have hv : listed.toList[i]'(by simpa using hil) = false := by
        simp only [Array.getD_eq_getD_getElem?, Array.getElem?_eq_getElem hil, Option.getD_some] at h2
        simpa using h2
      rw [Array.toList_setIfInBounds, List.count_set (by simpa using hil), hv, hf]
      simp
    have hc' : Closed all (listed.setIfInBounds i true) := by
      intro j o' ho' hj e he hb
      rw [listed_set hil] at hj ⊢
      rcases hj with e' | hj
      · subst e'
        rw [ho] at ho'
        have ho' := Option.some.inj ho'
        subst ho'
        exact .inr (h3' e he hb)
      · exact .inr (hc j o' ho' hj e he hb)
    unfold wpOp
    simp only [ho]
    rcases h.cov i h1 with hl | ⟨e, he, hei⟩ | ⟨x, hx, hxi⟩
    · exact absurd hl hnl
    · -- one that writes into nothing
      subst hei
      have hne : e ∉ es := fun hm => hnl ((h.mem e he).2 hm)
      obtain ⟨o', q1, q2, q3, q5, q6, q4⟩ := (h.lay.ok e he).ex
      rw [ho] at q1
      cases q1
      have hval : Valid tab (e :: es) := by
        refine List.pairwise_cons.2 ⟨fun m hm => ?_, h.valid⟩
        have hml : Listed listed m.ix := (h.mem m (h.sub m hm)).2 hm
        refine ⟨fun e' => hnl (e' ▸ hml), ?_⟩
        cases hb : has tab m.ix e.ix with
        | false => rfl
        | true =>
          have hmlt : m.ix < all.size := h.lay.rng m (h.sub m hm)
          have hmo : all[m.ix]? = some all[m.ix] := by simp [hmlt]
          exact absurd (has_listed hp hc m.ix _ hmo (fun e2 he2 hb2 => hc m.ix _ hmo hml e2 he2 hb2) e.ix hb) hnl
      have hne_ix : ∀ m, m ∈ es → e.ix ≠ m.ix ∧ has tab m.ix e.ix = false := fun m hm => ⟨fun e' => ((List.pairwise_cons.1 hval).1 m hm).1 e'.symm, ((List.pairwise_cons.1 hval).1 m hm).2⟩
      have next : ∀ a' w', SimE X.K w0 nt (SD S0 (e :: es)) a' w' → wpAny P .any all Q fuel (listed.setIfInBounds e.ix true) a' w' := by
        intro a' w' hsim
        refine ih _ a' w' rest S0 ents (e :: es) hs' hf' hc' ⟨h.lay, h.chk, h.tail, h.asc, h.bef, hval, fun m hm => ?_, fun m hm => ?_, fun j hj => ?_, fun y hy => ?_, hsim⟩
        · rcases List.mem_cons.1 hm with e' | hm
          · subst e'; exact he
          · exact h.sub m hm
        · rw [listed_set hil, List.mem_cons, h.mem m hm]
          constructor
          · rintro (e' | h')
            · left
              -- same place, same entry
              have : ∀ {l : List (Ent C)}, (l.Pairwise fun e m => m.ix < e.ix) → m ∈ l → e ∈ l → m = e := by
                intro l
                induction l with
                | nil => intro _ hm; cases hm
                | cons x l ihl =>
                  intro hpw hm he
                  obtain ⟨p1, p2⟩ := List.pairwise_cons.1 hpw
                  rcases List.mem_cons.1 hm with e1 | hm1 <;> rcases List.mem_cons.1 he with e2 | he1
                  · rw [e1, e2]
                  · subst e1; have := p1 e he1; omega
                  · subst e2; have := p1 m hm1; omega
                  · exact ihl p2 hm1 he1
              exact this h.lay.desc hm he
            · exact .inr h'
          · rintro (e' | h')
            · subst e'; exact .inl rfl
            · exact .inr h'
        · rw [listed_set hil]
          rcases h.cov j hj with h' | h' | h'
          · exact .inl (.inr h')
          · exact .inr (.inl h')
          · exact .inr (.inr h')
        · rw [listed_set hil]
          rintro (e' | h')
          · have := h.bef e he y hy; omega
          · exact h.hi y hy h'
      -- its guard
      have hw : Region.wanted o (yielded all a.tmps) = e.ran := by
        unfold Region.wanted
        cases hg : o.guard with
        | none => rw [hg] at q3; simp only at q3; rw [q3]
        | some g =>
          obtain ⟨j, want⟩ := g
          rw [hg] at q3
          simp only at q3
          obtain ⟨ha, m, hm, hmj, hmd, hmv⟩ := q3
          subst hmj
          have hml : m ∈ es := (h.mem m hm).1 (hanc _ ha)
          obtain ⟨om, qm1, qm2, _⟩ := (h.lay.ok m hm).ex
          obtain ⟨β, fp, hsim⟩ := h.sim
          have hdm : ∃ d, m.dst = some d := by
            cases hd : m.dst with
            | some d => exact ⟨d, rfl⟩
            | none => rw [hd] at hmd; cases hmd
          obtain ⟨d, hd⟩ := hdm
          rcases hmv with ⟨b, hmv, hiff⟩ | ⟨hmv, hran⟩
          case inr =>
            have hlk : lk (SD S0 es).env d = some .und := (val_env h.chk h.valid h.sub d _).2 (.inl ⟨m, hml, hd, hmv⟩)
            have hy := yield_und (all := all) (j := m.ix) hsim (d := d) (by rw [qm1]; simp [← qm2, hd]) hlk
            simp only [hy, hran]
            rfl
          have hlk : lk (SD S0 es).env d = some (.one (.bool b)) := (val_env h.chk h.valid h.sub d _).2 (.inl ⟨m, hml, hd, hmv⟩)
          have hy := yield_ok (all := all) (j := m.ix) hsim (d := d) (b := b) (by rw [qm1]; simp [← qm2, hd]) (hall om (by simpa using Array.mem_of_getElem? qm1) d (by rw [← qm2]; exact hd)) hlk
          simp only [hy]
          cases hx : e.ran with
          | true => simp [hiff.1 hx]
          | false =>
            have : b ≠ want := fun h' => by rw [hiff.2 h'] at hx; cases hx
            simpa using this
      rw [hw]
      cases hef : e.eff with
      | none => rw [hef] at q6; cases q6
      | some x =>
        obtain ⟨v, news, dels⟩ := x
        cases hran : e.ran with
        | false =>
          simp only [Bool.false_eq_true, if_false]
          have hu := q5 hran
          rw [hef] at hu
          cases hu
          obtain ⟨β, fp, hsim⟩ := h.sim
          refine next _ _ ⟨β, fp, ?_⟩
          have := hsim.put (v := .und) (u := undef) o.dst hslot rfl
          have e1 : SD S0 (e :: es) = (SD S0 es).put o.dst .und := by
            simp [SD, Ent.app, hef, q2, rmAll]
          rw [e1]
          exact this
        | true =>
        simp only [if_true]
        obtain ⟨fs, mn, f1, f2, f7, f3, f4, f5, f6⟩ := q4 v news dels hran hef
        have ffs : ∀ m, m ∈ fs → m ∈ es := fun m hm => (h.mem m (f2 m hm).1).1 (hanc _ (f2 m hm).2)
        have hle : Le mn (SD S0 es) := by
          refine ⟨by rw [SD_base, f5], fun t v ht => ?_, fun id ob hi => ?_⟩
          · rcases (val_env h.chk f1 (fun m hm => (f2 m hm).1) t v).1 (f3 t v ht) with ⟨m, hm, h4⟩ | ⟨h4, h5⟩
            · exact (val_env h.chk h.valid h.sub t v).2 (.inl ⟨m, ffs m hm, h4⟩)
            · refine (val_env h.chk h.valid h.sub t v).2 (.inr ⟨fun m hm hd => ?_, h5⟩)
              rw [lay_free h.chk (h.sub m hm) hd] at h5
              cases h5
          · obtain ⟨g1, g2⟩ := f4 id ob hi
            obtain ⟨g3, g4⟩ := (val_objs h.chk f1 (fun m hm => (f2 m hm).1) id ob).1 g1
            refine (val_objs h.chk h.valid h.sub id ob).2 ⟨fun m hm hd => ?_, ?_⟩
            · by_cases ha : has tab e.ix m.ix = true
              · exact g3 m (f7 m (h.sub m hm) ha) hd
              · exact lay_need h.chk he (h.sub m hm) (hne_ix m hm).1 (by simpa using ha) (hne_ix m hm).2 hd g2
            · rcases g4 with ⟨m, hm, h4⟩ | ⟨h4, h5⟩
              · exact .inl ⟨m, ffs m hm, h4⟩
              · refine .inr ⟨fun m hm hk => ?_, h5⟩
                exact (lay_self h.chk (h.sub m hm) hk).2.2 (keys_ids (lk_keys h5))
        have hfresh : ∀ id, id ∈ keysO news → Unnamed (SD S0 es) id := by
          intro id hid
          have hk : id ∈ e.newK := by simp [Ent.newK, hef, hid]
          have hno : ¬ (id ∈ idsE0 (SD S0 es).env ∨ id ∈ idsO (SD S0 es).objs) := by
            intro hn
            rcases SD_named hn with h4 | h4 | ⟨m, hm, h4⟩
            · exact (lay_self h.chk he hk).2.1 h4
            · exact (lay_self h.chk he hk).2.2 h4
            · exact (lay_names h.chk he (h.sub m hm) (hne_ix m hm).1 (hne_ix m hm).2 hk).1 h4
          exact ⟨fun h' => hno (.inl h'), fun h' => hno (.inr h')⟩
        have hnd : nodupN (keysO news) = true := by
          have := lay_nodup h.chk he
          simpa [Ent.newK, hef] using this
        have hev := f6 (SD S0 es) hle hfresh hnd (fun S' => some S')
        have e1 : eff (SD S0 es) o.dst v news dels = SD S0 (e :: es) := by
          simp [SD, Ent.app, hef, eff, q2]
        rw [e1] at hev
        obtain ⟨β, fp, hsim⟩ := h.sim
        refine .inl (Oper.wp_mono ?_ (ev_sound (Q := Q) hX hC hsim hslot hev))
        rintro a' w' ⟨S', hs2, hk2⟩
        cases hk2
        exact next a' w' hs2
    · obtain ⟨i', o'⟩ := x
      have hxi : i' = i := hxi
      subst hxi
      have ho' : all[i']? = some o' := h.asc.2 _ hx
      rw [ho] at ho'
      cases ho'
      cases rest with
      | nil => cases hx
      | cons y rest =>
        obtain ⟨q, oq⟩ := y
        obtain ⟨hE, f, hev⟩ := h.tail
        obtain ⟨hasc, hlt⟩ := asc_drop h.asc
        have hoq : all[q]? = some oq := h.asc.2 (q, oq) (by simp)
        by_cases hiq : i' = q
        · -- the one that writes
          subst hiq
          rw [ho] at hoq
          cases hoq
          let lag : Nat → Bool := fun j => !listed.getD j false
          have hlag : ∀ j, lag j = true ↔ ¬ Listed listed j := fun j => by simp [lag, Listed]
          let L := (lagIx tab i' ents).filter lag
          have hLm : ∀ j, j ∈ L ↔ (∃ e, e ∈ ents ∧ e.ix = j) ∧ ¬ Listed listed j := fun j => by
            simp only [L, List.mem_filter, hlag, lagIx, List.mem_reverse, List.mem_map]
            constructor
            · rintro ⟨⟨e, ⟨he, _⟩, hej⟩, hn⟩; exact ⟨⟨e, he, hej⟩, hn⟩
            · rintro ⟨⟨e, he, hej⟩, hn⟩
              refine ⟨⟨e, ⟨he, ?_⟩, hej⟩, hn⟩
              cases hb : has tab i' e.ix with
              | false => rfl
              | true => exact absurd (hanc e.ix hb) (hej ▸ hn)
          have hup : L ∈ ups tab (lagIx tab i' ents) := mem_ups fun j d hj hd hlj hdj => by
            rw [hlag] at hlj ⊢
            intro hld
            simp only [lagIx, List.mem_reverse, List.mem_map, List.mem_filter] at hd
            obtain ⟨e, ⟨he, _⟩, hed⟩ := hd
            have hdlt : d < all.size := by rw [← hed]; exact h.lay.rng e he
            have hdo : all[d]? = some all[d] := by simp [hdlt]
            exact hlj (has_listed hp hc d _ hdo (fun e2 he2 hb2 => hc d _ hdo hld e2 he2 hb2) j hdj)
          have hev2 := altsL_mem hev (List.mem_map.2 ⟨L, hup, rfl⟩)
          have hfs : ∀ e, e ∈ (ents.filter fun e => !L.any (Nat.beq e.ix)) ↔ e ∈ ents ∧ Listed listed e.ix := fun e => by
            rw [List.mem_filter]
            constructor
            · rintro ⟨he, hn⟩
              refine ⟨he, ?_⟩
              by_cases hl : Listed listed e.ix
              · exact hl
              · have : e.ix ∈ L := (hLm _).2 ⟨⟨e, he, rfl⟩, hl⟩
                have : L.any (Nat.beq e.ix) = true := List.any_eq_true.2 ⟨e.ix, this, Nat.beq_refl _⟩
                rw [this] at hn; cases hn
            · rintro ⟨he, hl⟩
              refine ⟨he, ?_⟩
              cases hb : L.any (Nat.beq e.ix) with
              | false => rfl
              | true =>
                obtain ⟨j, hj, hbj⟩ := List.any_eq_true.1 hb
                have := Nat.eq_of_beq_eq_true hbj
                subst this
                exact absurd hl ((hLm _).1 hj).2
          obtain ⟨β, fp, hsim⟩ := at_end hp h ((h.lay.valid hp).sublist List.filter_sublist) hfs
          have hw : Region.wanted o (yielded all a.tmps) = true := by simp [Region.wanted, hp.grd i' o ho hE]
          rw [hw]
          simp only [if_true]
          refine .inl (Oper.wp_mono ?_ (ev_sound (Q := Q) hX hC hsim hslot hev2))
          rintro a' w' ⟨S', hs2, hk2⟩
          have hLasc : L.Pairwise (· < ·) := by
            refine List.Pairwise.filter _ ?_
            unfold lagIx
            rw [List.pairwise_reverse, List.pairwise_map]
            exact (h.lay.desc.sublist List.filter_sublist).imp fun h => h
          have hA : Asc all (opsAt all L ++ rest) := asc_append (asc_opsAt hLasc) hasc fun x hx y hy => by
            obtain ⟨⟨e, he, hej⟩, _⟩ := (hLm _).1 (opsAt_mem.1 hx).1
            rw [← hej]
            exact h.bef e he y (by simp [hy])
          obtain ⟨rest', ents', g1, g2, g3, g4, g5, g6, g7, _, g9⟩ := dlay_out hp f _ S' [] hA (fun e he => (by cases he)) ⟨List.Pairwise.nil, fun e he => (by cases he), fun e he => (by cases he)⟩ hk2
          have hun : ∀ x, x ∈ opsAt all L ++ rest → x.1 ≠ i' ∧ ¬ Listed listed x.1 := fun x hx => by
            rcases List.mem_append.1 hx with hx | hx
            · obtain ⟨⟨e, he, hej⟩, hn⟩ := (hLm _).1 (opsAt_mem.1 hx).1
              have := h.bef e he (i', o) (by simp)
              exact ⟨by simp at this; omega, hn⟩
            · have := hlt x hx
              exact ⟨by omega, h.hi x (by simp [hx])⟩
          have hun' : ∀ x, x ∈ opsAt all L ++ rest → ¬ Listed (listed.setIfInBounds i' true) x.1 := fun x hx => by
            rw [listed_set hil]
            rintro (e' | h')
            · exact (hun x hx).1 e'
            · exact (hun x hx).2 h'
          refine ih _ a' w' rest' S' ents' [] hs' hf' hc' ⟨g1, g2, g3, g4, g9, List.Pairwise.nil, fun e he => (by cases he), fun e he => ?_, fun j hj => ?_, fun x hx => hun' x (g5 x hx), hs2⟩
          · constructor
            · intro hl
              rcases g6 e he with h' | ⟨x, hx, hxe⟩
              · cases h'
              · exact absurd hl (hxe ▸ hun' x hx)
            · intro h'; cases h'
          · rw [listed_set hil]
            by_cases e1 : j = i'
            · exact .inl (.inl e1)
            · by_cases hl : Listed listed j
              · exact .inl (.inr hl)
              · have hmem : ∃ x, x ∈ opsAt all L ++ rest ∧ x.1 = j := by
                  rcases h.cov j hj with h' | ⟨e, he, hej⟩ | ⟨x, hx, hxj⟩
                  · exact absurd h' hl
                  · exact ⟨(j, all[j]), List.mem_append.2 (.inl (opsAt_mem.2 ⟨(hLm j).2 ⟨⟨e, he, hej⟩, hl⟩, by simp [hj]⟩)), rfl⟩
                  · rcases List.mem_cons.1 hx with e2 | hx
                    · rw [e2] at hxj; exact absurd hxj.symm e1
                    · exact ⟨x, List.mem_append.2 (.inr hx), hxj⟩
                obtain ⟨x, hx, hxj⟩ := hmem
                rcases g7 x hx with h' | ⟨e, he, hex⟩
                · exact .inr (.inr ⟨x, h', hxj⟩)
                · exact .inr (.inl ⟨e, he, hex.trans hxj⟩)
        · -- one behind the one that writes
          exfalso
          have hx' : (i', o) ∈ rest := (List.mem_cons.1 hx).resolve_left fun e => hiq (by cases e; rfl)
          have hql : q < i' := hlt _ hx'
          have hE' : isEat all q = true := by simp [isEat, hoq, hE]
          exact h.hi (q, oq) (by simp) (hanc q (hp.eff i' o ho q hql hE'))
end
end Go.Proofs.Ytkiognopoigbhaa.Ab
