/- The abstract machine, part 11: stores. -/
import Derived.Test.YtkiognopoigbhaaAb10
set_option linter.unusedVariables false
set_option linter.unusedSimpArgs false
set_option linter.unusedSectionVars false
namespace Go.Proofs.Ytkiognopoigbhaa.Ab
open Go Go.RowKit

section
variable {Ty : Type} [DecidableEq Ty] {C : Ty → Type}
variable {P : Program} {X : Cx C} {w0 w : World} {nt : Nat} {S : St C} {β : Nat → Value} {fp : Nat → Nat → Prop} {a : Act} {R : Type} {k : St C → Option R} {r : R}
variable {dst : Option Tmp} {ty : TypeId} {pos : String} {aft : Array Edge} {gd : Option (Nat × Bool)} {Q : Exit → Act → World → Prop}

theorem ob_below {base : Nat} {objs : Objs C} {stb F : Nat → Prop} {t : Ty} {xs : List (C t)} {sh : Bool} {K : Cd C} {v : Value} (h : ObOk K w base objs β fp stb F (.row t xs sh) v) :
    ∃ cells, w.ownsRow base (K.tid t) (K.sz t) v xs.length cells ∧ (∀ g, v.ownBlock = some g → F g) := by
  cases sh with
  | false => cases h with
    | row _ _ _ _ cells G h h1 => exact ⟨cells, h, h1⟩
  | true => obtain ⟨cells, h1, h2, _⟩ := h; exact ⟨cells, h1, fun g hg => (h2 g).2 hg⟩

theorem idx_split {s i j o o' : Nat} (ho : o < s) (ho' : o' < s) (h : i * s + o = j * s + o') : i = j ∧ o = o' := by
  have h1 : (i * s + o) / s = i := by rw [Nat.add_comm, Nat.add_mul_div_right _ _ (by omega), Nat.div_eq_of_lt ho, Nat.zero_add]
  have h2 : (j * s + o') / s = j := by rw [Nat.add_comm, Nat.add_mul_div_right _ _ (by omega), Nat.div_eq_of_lt ho', Nat.zero_add]
  have : i = j := by rw [← h1, ← h2, h]
  subst this
  exact ⟨rfl, by omega⟩

theorem setRow_alike {g : Nat} {cs : Array Value} (k : Nat) (h : k ≠ g) : (w.setRow g cs).heap[k]? = w.heap[k]? := setRow_other w g k cs h

theorem ownsRow_one {b b' : Nat} {e e' : TypeId} {s n n' : Nat} {v : Value} {c c' : List Value} (h : w.ownsRow b e s v n c) (h' : w.ownsRow b' e' s v n' c') : c = c' := by
  obtain ⟨l, h⟩ := h
  obtain ⟨l', h'⟩ := h'
  rcases h with ⟨rfl, rfl⟩ | ⟨g, cap, cur, rfl, _, hh, _, _, _, ht⟩
  · rcases h' with ⟨_, rfl⟩ | ⟨g', _, _, e, _⟩
    · have e1 : c = [] := List.eq_nil_of_length_eq_zero (by simpa using l)
      have e2 : c' = [] := List.eq_nil_of_length_eq_zero (by simpa using l')
      rw [e1, e2]
    · cases e
  · rcases h' with ⟨e, _⟩ | ⟨g', cap', cur', e, _, hh', _, _, _, ht'⟩
    · cases e
    · cases e
      rw [hh] at hh'
      cases hh'
      rw [← ht, ← ht']

/-- A store into an element of an own row. -/
theorem store_row (hs : Sim X.K w0 nt S β fp a w) {id i off : Nat} {ls ls' : List (Lf C)} {us : List Value} {S1 : St C} {b : Bool} {t : Ty} {xs : List (C t)} {sh : Bool} {x y : C t} {v : Value}
    (hv : LfOk X.K w S.objs β fp (stbOf S.objs fp w) (.ep id [] i off) v) (hl : LfsOk X.K w S.objs β fp (stbOf S.objs fp w) ls us) (hab : absorb S ls = some (ls', S1, b))
    (ho : lk S1.objs id = some (.row t xs sh)) (hbs : (b && !sh) = false) (hx : xs[i]? = some x) (hdec : X.K.dec t (setAt (X.K.enc t x) off ls') = some y) (hoff : off + ls.length ≤ X.K.sz t)
    (hdeep : S1.objs.any (fun x => deepO id x.2) = false) :
    ∃ p w', v = .pointer (some p) ∧ (storeCells p us).run P w = .ok () w' ∧ ∃ F', Sim X.K w0 nt { S1.setObj id (.row t (xs.set i y) sh) with env := undeep id S1.env } β (upd fp id F') a w' := by
  obtain ⟨g1, g1', g2, g3, G, g4, g5, g6⟩ := absorb_ok hs ls us S.objs ls' S1 b (fun _ _ h => h) hab hl
  have hoS := g2 id _ ho
  obtain ⟨_, hep⟩ := hv
  obtain ⟨hi, q, m, c, hq, hvq⟩ := hep t xs sh hoS
  have hob := hs.objs id _ hoS
  have henc : X.K.enc t y = setAt (X.K.enc t x) off ls' := X.K.enc_dec t _ _ hdec
  have hlx := X.K.enc_len t x
  have hoff' : off + ls'.length ≤ (X.K.enc t x).length := by rw [g3, hlx]; exact hoff
  have hus1 : us.length = ls'.length := by rw [g3]; exact hl.1
  have hus : ∀ v ∈ us, v.oneCell' = true := fun v hv => by
    obtain ⟨j, hj, rfl⟩ := List.getElem_of_mem hv
    have hj' : j < ls'.length := by omega
    have := (g6 j ls'[j] (by simp [hj'])).2
    have e : us.getD j undef = us[j] := by simp [List.getD, hj]
    rw [e] at this
    exact this.one
  have hxe : xs[i] = x := by simpa [List.getElem?_eq_getElem hi] using hx
  have hlen : (xs.set i y).length = xs.length := by simp
  have hGst : ∀ o k, G o k → ¬ fp id k ∧ k < w.heap.size ∧ (∀ j ob, lk S1.objs j = some ob → ¬ fp j k) := fun o k hk => by
    obtain ⟨j, ob, h1, h2, h3⟩ := g4 o k hk
    refine ⟨fun h4 => ?_, (hs.fresh j ob k h1 h3).2, fun j' ob' h4 h5 => ?_⟩
    · have := hs.disj j id ob _ k h1 hoS h3 h4
      subst this
      rw [ho] at h2; cases h2
    · have := hs.disj j j' ob ob' k h1 (g2 _ _ h4) h3 h5
      subst this
      rw [h4] at h2; cases h2
  -- what the header is
  obtain ⟨cells0, hown0, hF0⟩ := ob_below hob
  obtain ⟨g, cap, e, hbg, hnc, hcell⟩ := own_at hown0 (Nat.mul_pos (by omega) (X.K.pos t))
  rw [hq] at e
  cases e
  have hFg : fp id g := hF0 g (by rw [hq]; rfl)
  have hgw : w0.heap.size ≤ g := hbg
  have hm : i * X.K.sz t + off + us.length ≤ xs.length * X.K.sz t := by
    have : i * X.K.sz t + X.K.sz t ≤ xs.length * X.K.sz t := by rw [← Nat.succ_mul]; exact Nat.mul_le_mul_right _ hi
    rw [hus1, g3]; omega
  have hadd : (⟨g, 0, none⟩ : Addr).add (i * X.K.sz t + off) = ⟨g, i * X.K.sz t + off, none⟩ := by rw [add_none]; simp
  -- the new cells, one by one
  have hbox : ∀ j kd ls, lk S1.objs j = some (.box kd ls) → ls.any (deepL id) = false := fun j kd0 ls0 hj => by
    have : ∀ (O : Objs C), O.any (fun x => deepO id x.2) = false → lk O j = some (.box kd0 ls0) → ls0.any (deepL id) = false := by
      intro O
      induction O with
      | nil => intro _ h; simp [lk] at h
      | cons y r ih =>
        intro h1 h2
        obtain ⟨n, u⟩ := y
        rw [lk_cons] at h2
        simp only [List.any_cons, Bool.or_eq_false_iff] at h1
        split at h2
        · cases h2; exact h1.1
        · exact ih h1.2 h2
    exact this _ hdeep hj
  have hundeep : ∀ (E : List (Nat × SV C)) t v, lk (undeep id E) t = some v → lk E t = some v ∧ deepV id v = false := by
    intro E
    induction E with
    | nil => intro t v h; simp [undeep, lk] at h
    | cons y r ih =>
      intro t v h
      obtain ⟨n, u⟩ := y
      simp only [undeep] at h
      cases hd : deepV id u with
      | true =>
        rw [hd, cond_true] at h
        rw [lk_rm] at h
        split at h
        · cases h
        · rename_i e
          rw [lk_cons, if_neg e]
          exact ih t v h
      | false =>
        rw [hd, cond_false, lk_cons] at h
        rw [lk_cons]
        split at h
        · rename_i e; rw [if_pos e]; cases h; exact ⟨rfl, hd⟩
        · rename_i e; rw [if_neg e]; exact ih t v h
  obtain ⟨cur', hrun, hown'⟩ := ownsRow_store (P := P) (by rw [hq] at hown0; exact hown0) hm hus
  have hwb : ∀ k, k ≠ g → (w.setRow g cur').heap[k]? = w.heap[k]? := fun k h => setRow_other w g k cur' h
  -- a new cell of element j
  have hget : ∀ j o, j < xs.length → o < X.K.sz t → (cells0.take (i * X.K.sz t + off) ++ us ++ cells0.drop (i * X.K.sz t + off + us.length)).getD (j * X.K.sz t + o) undef =
      if j = i ∧ off ≤ o ∧ o < off + us.length then us.getD (o - off) undef else cells0.getD (j * X.K.sz t + o) undef := by
    intro j o hj ho'
    have hcl : i * X.K.sz t + off + us.length ≤ cells0.length := by rw [hown0.1]; exact hm
    rw [List.getD_eq_getElem?_getD, splice_get hcl]
    by_cases hji : j = i
    · subst hji
      by_cases h1 : off ≤ o
      · by_cases h2 : o < off + us.length
        · rw [if_neg (by omega), if_pos (by omega), if_pos ⟨rfl, h1, h2⟩]
          rw [List.getD_eq_getElem?_getD]
          congr 2
          omega
        · rw [if_neg (by omega), if_neg (by omega), if_neg (by omega), ← List.getD_eq_getElem?_getD]
      · rw [if_pos (by omega), if_neg (by omega), ← List.getD_eq_getElem?_getD]
    · rw [if_neg (show ¬ (j = i ∧ off ≤ o ∧ o < off + us.length) from fun h => hji h.1)]
      have hne : ∀ o1, o1 < X.K.sz t → j * X.K.sz t + o ≠ i * X.K.sz t + o1 := fun o1 h1 e => hji (idx_split ho' h1 e).1
      rcases Nat.lt_or_ge (j * X.K.sz t + o) (i * X.K.sz t) with h1 | h1
      · rw [if_pos (by omega), ← List.getD_eq_getElem?_getD]
      · have : i * X.K.sz t + X.K.sz t ≤ j * X.K.sz t + o := by
          rcases Nat.lt_or_ge (j * X.K.sz t + o) (i * X.K.sz t + X.K.sz t) with h2 | h2
          · exact absurd (show j * X.K.sz t + o = i * X.K.sz t + (j * X.K.sz t + o - i * X.K.sz t) by omega) (hne _ (by omega))
          · exact h2
        rw [if_neg (by omega), if_neg (by omega), ← List.getD_eq_getElem?_getD]
  have hency : ∀ o l, (X.K.enc t y)[o]? = some l → o < X.K.sz t ∧ ((off ≤ o ∧ o < off + us.length ∧ ls'[o - off]? = some l) ∨ (¬ (off ≤ o ∧ o < off + us.length) ∧ (X.K.enc t x)[o]? = some l)) := by
    intro o l hol
    have ho' := enc_lt hol
    refine ⟨ho', ?_⟩
    rw [henc, setAt_eq _ _ _ hoff', splice_get hoff'] at hol
    rw [hus1]
    split at hol
    · exact .inr ⟨by omega, hol⟩
    · split at hol
      · exact .inl ⟨by omega, by omega, hol⟩
      · exact .inr ⟨by omega, hol⟩
  refine ⟨_, w.setRow g cur', hvq, by rw [hadd]; exact hrun, ?_⟩
  cases sh with
  | false =>
    have hb : b = false := by cases b <;> simp at hbs ⊢
    cases hob with
    | row _ _ _ _ cells G0 h0 h1 h2 h3 h4 =>
      have hcells : cells = cells0 := ownsRow_one h0 hown0
      subst hcells
      refine ⟨fun k => fp id k ∨ ∃ o, G o k, ?_⟩
      refine hs.turnRow g2 ho hlen (F' := fun k => fp id k ∨ ∃ o, G o k) (fun k hk => hk.imp (fun h => h) fun ⟨o, hk⟩ => g4 o k hk) (below_setRow g cur' hgw) (fun k hk => hwb k fun e => hk (by rw [e]; exact hFg)) ?_ hbox (fun t v h => by rw [← g1]; exact hundeep _ t v h) S1.base
      have hG0 : ∀ j o k, G0 j o k → fp id k ∧ k ≠ g := fun j o k hk => ⟨(h2 j o k hk).1, fun e => (h2 j o k hk).2 (by rw [hq, e]; rfl)⟩
      refine .row _ t (xs.set i y) _ _ (fun j o k => if j = i ∧ off ≤ o ∧ o < off + us.length then G (o - off) k else G0 j o k) (by rw [hlen, hq]; exact hown') (fun g' hg' => .inl (hF0 g' hg')) (fun j o k hk => ?_) (fun j o j' o' k hk hk' => ?_) (fun j hj o l hl' => ?_)
      · split at hk
        · exact ⟨.inr ⟨_, hk⟩, fun e => (hGst _ k hk).1 (hF0 k e)⟩
        · exact ⟨.inl (h2 j o k hk).1, (h2 j o k hk).2⟩
      · split at hk <;> split at hk'
        · have := g5 _ _ k hk hk'
          omega
        · exact absurd (h2 j' o' k hk').1 (hGst _ k hk).1
        · exact absurd (h2 j o k hk).1 (hGst _ k hk').1
        · exact h3 j o j' o' k hk hk'
      · have hj1 : j < xs.length := by simpa using hj
        by_cases hji : j = i
        · subst hji
          have hl' : (X.K.enc t y)[o]? = some l := by simpa using hl'
          obtain ⟨ho', hor⟩ := hency o l hl'
          rw [hget j o hj1 ho']
          rcases hor with ⟨q1, q2, q3⟩ | ⟨q1, q2⟩
          · rw [if_pos ⟨rfl, q1, q2⟩]
            refine (Own.frame ((g6 _ l q3).1 hb) (fun k hk => hwb k fun e => ?_)).mono fun k hk => ?_
            · subst e; exact (hGst _ _ hk).1 hFg
            · rw [if_pos ⟨rfl, q1, q2⟩]; exact hk
          · rw [if_neg (by simp; omega)]
            refine ((h4 j hj1 o l (by rw [hxe]; exact q2)).frame fun k hk => hwb k (hG0 j o k hk).2).mono fun k hk => ?_
            rw [if_neg (by simp; omega)]
            exact hk
        · have hl' : (X.K.enc t xs[j])[o]? = some l := by
            rw [List.getElem_set_ne (fun e => hji e.symm)] at hl'
            exact hl'
          rw [hget j o hj1 (enc_lt hl'), if_neg (by simp [hji])]
          simp only [hji, false_and, if_false]
          exact (h4 j hj1 o l hl').frame fun k hk => hwb k (hG0 j o k hk).2
  | true =>
    obtain ⟨cells, h1, h2, h3⟩ := hob
    have hcells : cells = cells0 := ownsRow_one h1 hown0
    subst hcells
    refine ⟨fp id, ?_⟩
    have hst : ∀ k, stbOf S.objs fp w k → stbOf ((id, Ob.row t (xs.set i y) true) :: S1.objs) (upd fp id (fp id)) (w.setRow g cur') k ∧ (w.setRow g cur').heap[k]? = w.heap[k]? := fun k hk => by
      refine ⟨⟨by simpa using hk.1, fun j ob hj => ?_⟩, hwb k fun e => hk.2 id _ hoS (by rw [e]; exact hFg)⟩
      rw [lk_cons] at hj
      by_cases e : j = id
      · subst e; rw [upd_same]; exact hk.2 j _ hoS
      · rw [if_neg e] at hj; rw [upd_ne _ _ e]; exact hk.2 j ob (g2 j ob hj)
    have hG : ∀ o k, G o k → stbOf ((id, Ob.row t (xs.set i y) true) :: S1.objs) (upd fp id (fp id)) (w.setRow g cur') k ∧ (w.setRow g cur').heap[k]? = w.heap[k]? := fun o k hk => by
      obtain ⟨q1, q2, q3⟩ := hGst o k hk
      refine ⟨⟨by simpa using q2, fun j ob hj => ?_⟩, hwb k fun e => q1 (by rw [e]; exact hFg)⟩
      rw [lk_cons] at hj
      by_cases e : j = id
      · subst e; rw [upd_same]; exact q1
      · rw [if_neg e] at hj; rw [upd_ne _ _ e]; exact q3 j ob hj
    refine hs.turnRow g2 ho hlen (F' := fp id) (fun k hk => .inl hk) (below_setRow g cur' hgw) (fun k hk => hwb k fun e => hk (by rw [e]; exact hFg)) ?_ hbox (fun t v h => by rw [← g1]; exact hundeep _ t v h) S1.base
    refine ⟨_, by rw [hlen, hq]; exact hown', h2, fun j z hz o l hl' => ?_⟩
    have hj : j < xs.length := by have := idx_lt hz; simpa using this
    by_cases hji : j = i
    · subst hji
      have hzy : z = y := by simp [hj] at hz; exact hz.symm
      subst hzy
      obtain ⟨ho', hor⟩ := hency o l hl'
      rw [hget j o hj ho']
      rcases hor with ⟨q1, q2, q3⟩ | ⟨q1, q2⟩
      · rw [if_pos ⟨rfl, q1, q2⟩]
        have := (g6 _ l q3).2
        refine (this.frame fun k hk => ?_).mono fun k hk => ?_
        · exact hk.elim (fun h => (hst k h).2) fun h => (hG _ k h).2
        · exact hk.elim (fun h => (hst k h).1) fun h => (hG _ k h).1
      · rw [if_neg (by simp; omega)]
        exact ((h3 j x hx o l q2).frame fun k hk => (hst k hk).2).mono fun k hk => (hst k hk).1
    · have hz' : xs[j]? = some z := by rw [List.getElem?_set_ne (fun e => hji e.symm)] at hz; exact hz
      rw [hget j o hj (enc_lt hl'), if_neg (by simp [hji])]
      exact ((h3 j z hz' o l hl').frame fun k hk => (hst k hk).2).mono fun k hk => (hst k hk).1

theorem s_store (hX : XOk P X) (hs : Sim X.K w0 nt S β fp a w) {t : TypeId} {x y : Operand} (h : ev X ⟨dst, .store t x y, ty, pos, aft, gd⟩ S k = some r) : Goal P X w0 nt k r Q ⟨dst, .store t x y, ty, pos, aft, gd⟩ a w := by
  simp only [ev] at h
  split at h
  · rename_i tk id off v ht hx hv
    obtain ⟨hf, h⟩ := cond_some h
    obtain ⟨hf1, hf2⟩ := fits_ok hf
    split at h
    · rename_i ls ho
      obtain ⟨hb, h⟩ := cond_some h
      have hb := Nat.le_of_ble_eq_true hb
      obtain ⟨b, h1, h2⟩ := sv_one (opd_ok hs hx)
      have hc := sv_cells (opdT_ok hs hv) hf2
      obtain ⟨w', hr, hs'⟩ := store_box (P := P) hs ho hc (by rw [hf1]; exact hb) h1
      refine wp_skip (w' := w') ?_ ⟨_, ⟨β, fp, hs'.drop dst undef⟩, h⟩
      have hsz : (a.eval y).cells.size = tk.size := by rw [← hf1, ← hc.1]; simp
      simp only [execOp, Instr.storeAt, h2, Instr.sureAddr, Sem.run_bind, Sem.run_pure, Result.andThen_ok, run_storeVar (hX.tk _ _ ht) hsz]
      rw [hr]
      rfl
    · cases h
  · rename_i tk id i off v ht hx hv
    obtain ⟨hf, h⟩ := cond_some h
    obtain ⟨hf1, hf2⟩ := fits_ok hf
    split at h
    · rename_i ls S' b hab
      split at h
      · rename_i t1 xs sh ho
        obtain ⟨hbs, h⟩ := cond_some' h
        cases hx' : xs[i]? with
        | none => rw [hx'] at h; cases h
        | some z =>
          rw [hx'] at h
          simp only [Option.bind_some] at h
          split at h
          · rename_i z' hdec
            obtain ⟨hb, h⟩ := cond_some h
            obtain ⟨hdp, h⟩ := cond_some' h
            have hb := Nat.le_of_ble_eq_true hb
            have hc := sv_cells (opdT_ok hs hv) hf2
            obtain ⟨p, w', h2, hr, F', hs'⟩ := store_row (P := P) hs (sv_one (opd_ok hs hx)) hc hab ho hbs hx' hdec (by rw [hf1]; exact hb) hdp
            refine wp_skip (w' := w') ?_ ⟨_, ⟨β, _, hs'.drop dst undef⟩, h⟩
            have hsz : (a.eval y).cells.size = tk.size := by rw [← hf1, ← hc.1]; simp
            simp only [execOp, Instr.storeAt, h2, Instr.sureAddr, Sem.run_bind, Sem.run_pure, Result.andThen_ok, run_storeVar (hX.tk _ _ ht) hsz]
            rw [hr]
            rfl
          · cases h
      · cases h
    · cases h
  · cases h
end
end Go.Proofs.Ytkiognopoigbhaa.Ab
