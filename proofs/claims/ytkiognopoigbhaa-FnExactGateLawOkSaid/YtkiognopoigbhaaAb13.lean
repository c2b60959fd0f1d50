/- The abstract machine, part 13: append. -/
import Derived.Test.YtkiognopoigbhaaAb12
set_option linter.unusedVariables false
set_option linter.unusedSimpArgs false
set_option linter.unusedSectionVars false
namespace Go.Proofs.Ytkiognopoigbhaa.Ab
open Go Go.RowKit

section
variable {Ty : Type} [DecidableEq Ty] {C : Ty → Type}
variable {P : Program} {X : Cx C} {w0 w : World} {nt : Nat} {S : St C} {β : Nat → Value} {fp : Nat → Nat → Prop} {a : Act} {R : Type} {k : St C → Option R} {r : R}
variable {dst : Option Tmp} {ty : TypeId} {pos : String} {aft : Array Edge} {gd : Option (Nat × Bool)} {Q : Exit → Act → World → Prop}

/-- A row's elements: G: the blocks of the rows inside; D: all that it has. -/
def Elems (K : Cd C) (w : World) (base : Nat) (stb D : Nat → Prop) (t : Ty) (xs : List (C t)) (own : Option Nat) (val : Nat → Value) (sh : Bool) : Prop :=
  ∃ G : Nat → Nat → Nat → Prop, (∀ j i k, G j i k → D k ∧ own ≠ some k) ∧ (∀ j i j' i' k, G j i k → G j' i' k → j = j' ∧ i = i') ∧
    ∀ (j : Nat) (x : C t), xs[j]? = some x → ∀ (i : Nat) (l : Lf C), (K.enc t x)[i]? = some l → (sh = false → Own K w base (G j i) l (val (j * K.sz t + i))) ∧ Rep K w (fun k => stb k ∨ G j i k) l (val (j * K.sz t + i))

theorem elems_nil {K : Cd C} {base : Nat} {stb D : Nat → Prop} {t : Ty} {own : Option Nat} {val : Nat → Value} {sh : Bool} : Elems K w base stb D t [] own val sh :=
  ⟨fun _ _ _ => False, fun _ _ _ h => h.elim, fun _ _ _ _ _ h => h.elim, fun j x h => by simp at h⟩

theorem ob_elems {K : Cd C} {base : Nat} {objs : Objs C} {stb F : Nat → Prop} {t : Ty} {xs : List (C t)} {sh : Bool} {v : Value} (h : ObOk K w base objs β fp stb F (.row t xs sh) v) :
    ∃ cs, w.ownsRow base (K.tid t) (K.sz t) v xs.length cs ∧ (∀ g, v.ownBlock = some g → F g) ∧ Elems K w base stb F t xs v.ownBlock (fun m => cs.getD m undef) sh := by
  cases sh with
  | false => cases h with
    | row _ _ _ _ cells G h h1 h2 h3 h4 =>
      refine ⟨cells, h, h1, G, h2, h3, fun j x hx i l hl => ?_⟩
      have hj := idx_lt hx
      have hxe : xs[j] = x := by simpa [List.getElem?_eq_getElem hj] using hx
      have := h4 j hj i l (by rw [hxe]; exact hl)
      exact ⟨fun _ => this, this.rep.mono fun k hk => .inr hk⟩
  | true =>
    obtain ⟨cells, h1, h2, h3⟩ := h
    exact ⟨cells, h1, fun g hg => (h2 g).2 hg, fun _ _ _ => False, fun _ _ _ h => h.elim, fun _ _ _ _ _ h => h.elim, fun j x hx i l hl => ⟨(fun h => by cases h), (h3 j x hx i l hl).mono fun k hk => .inl hk⟩⟩

/-- What is handed to an append. -/
def Handed (K : Cd C) (w : World) (base : Nat) (stb D : Nat → Prop) (t : Ty) (ys : List (C t)) (v : Value) (sh : Bool) : Prop :=
  ∃ A c f, v = .slice A ys.length c ∧ (0 < ys.length → ∃ p, A = some p ∧ ∀ j, j < ys.length * K.sz t → w.cell? (p.add j) = some (f j)) ∧ Elems K w base stb D t ys v.ownBlock f sh

theorem handed_ob {K : Cd C} {base : Nat} {objs : Objs C} {stb F : Nat → Prop} {t : Ty} {xs : List (C t)} {sh : Bool} {v : Value} (h : ObOk K w base objs β fp stb F (.row t xs sh) v) : Handed K w base stb F t xs v sh := by
  obtain ⟨cs, h1, h2, h3⟩ := ob_elems h
  obtain ⟨A, c, e, hA⟩ := owns_head h1
  refine ⟨A, c, fun m => cs.getD m undef, e, fun hp => ?_, h3⟩
  obtain ⟨g, cap, e', _, _, hc⟩ := own_at h1 (Nat.mul_pos hp (K.pos t))
  rw [e] at e'
  cases e'
  exact ⟨_, rfl, hc⟩
theorem handed_row {K : Cd C} {base : Nat} {stb : Nat → Prop} {t : Ty} {xs : List (C t)} {v : Value} (h : Rep K w stb (.row t xs) v) : Handed K w base stb (fun _ => False) t xs v true := by
  cases h with
  | row _ _ A c p U hc hA hcell hrep =>
    refine ⟨A, c, U, rfl, fun hp => ?_, fun _ _ _ => False, fun _ _ _ h => h.elim, fun _ _ _ _ _ h => h.elim, fun j x hx i l hl => ⟨(fun h => by cases h), ?_⟩⟩
    · have hne := List.length_pos_iff.1 hp
      exact ⟨p, (hA hne).1, hcell hne⟩
    · have hj := idx_lt hx
      have hxe : xs[j] = x := by simpa [List.getElem?_eq_getElem hj] using hx
      exact (hrep j hj i l (by rw [hxe]; exact hl)).mono fun k hk => .inl hk
theorem handed_nil {K : Cd C} {base : Nat} {stb : Nat → Prop} {t : Ty} {sh : Bool} : Handed K w base stb (fun _ => False) t ([] : List (C t)) (.slice none 0 0) sh :=
  ⟨none, 0, fun _ => undef, rfl, fun h => absurd h (by simp), elems_nil⟩
theorem handed_one {K : Cd C} {base : Nat} {stb D : Nat → Prop} {t : Ty} {ys : List (C t)} {own : Option Nat} {f : Nat → Value} {sh : Bool} (h : Elems K w base stb D t ys own f sh) : ∀ m, m < ys.length * K.sz t → (f m).oneCell' = true := by
  obtain ⟨G, _, _, h⟩ := h
  intro m hm
  have hj : m / K.sz t < ys.length := Nat.div_lt_of_lt_mul (by rw [Nat.mul_comm]; exact hm)
  have hi : m % K.sz t < K.sz t := Nat.mod_lt _ (K.pos t)
  have hi' : m % K.sz t < (K.enc t ys[m / K.sz t]).length := by rw [K.enc_len]; exact hi
  have := (h (m / K.sz t) ys[m / K.sz t] (by simp [hj]) (m % K.sz t) (K.enc t ys[m / K.sz t])[m % K.sz t] (by simp [hi'])).2.one
  rwa [Nat.mul_comm, Nat.div_add_mod] at this

theorem flat_own {K : Cd C} {t : Ty} (hf : K.flat t = true) {x : C t} {i : Nat} {l : Lf C} (hl : (K.enc t x)[i]? = some l) {F : Nat → Prop} {v : Value} (h : Rep K w F l v) {w' : World} {base : Nat} {G : Nat → Prop} : Own K w' base G l v := by
  cases h with
  | int => exact .int ..
  | bool => exact .bool ..
  | str => exact .str ..
  | fnc => exact .fnc ..
  | row t' ys => exact absurd (List.mem_of_getElem? hl) (K.enc_flat t hf x t' ys)

theorem getD_cat {cs : List Value} {n m : Nat} {f : Nat → Value} (hc : cs.length = n) (i : Nat) : (cs ++ (List.range m).map f).getD i undef = if i < n then cs.getD i undef else if i < n + m then f (i - n) else undef := by
  rw [List.getD_eq_getElem?_getD]
  by_cases h : i < n
  · rw [List.getElem?_append_left (by omega), if_pos h, List.getD_eq_getElem?_getD]
  · rw [List.getElem?_append_right (by omega), if_neg h, hc]
    by_cases h2 : i < n + m
    · rw [if_pos h2]; simp [show i - n < m by omega]
    · rw [if_neg h2]; simp [show ¬ i - n < m by omega]

theorem cat_get {α : Type} {xs ys : List α} {j : Nat} {x : α} (h : (xs ++ ys)[j]? = some x) : (j < xs.length ∧ xs[j]? = some x) ∨ (xs.length ≤ j ∧ ys[j - xs.length]? = some x) := by
  by_cases hj : j < xs.length
  · rw [List.getElem?_append_left hj] at h; exact .inl ⟨hj, h⟩
  · rw [List.getElem?_append_right (by omega)] at h; exact .inr ⟨by omega, h⟩

/-- The new row out of the old one and what is handed. -/
theorem cat_ob {K : Cd C} {base : Nat} {stb D0 D1 : Nat → Prop} {t : Ty} {xs ys : List (C t)} {own0 own1 : Option Nat} {cs : List Value} {f : Nat → Value} {sh0 sh1 sh : Bool}
    (h0 : Elems K w base stb D0 t xs own0 (fun m => cs.getD m undef) sh0) (h1 : Elems K w base stb D1 t ys own1 f sh1) (hd : ∀ k, D0 k → ¬ D1 k) (hcs : cs.length = xs.length * K.sz t)
    {w' : World} {v' : Value} (hown : w'.ownsRow base (K.tid t) (K.sz t) v' (xs.length + ys.length) (cs ++ (List.range (ys.length * K.sz t)).map f))
    (hv : ∀ g, v'.ownBlock = some g → (own0 = some g ∨ (¬ D0 g)) ∧ ¬ D1 g)
    (hw : ∀ k, (D0 k ∨ D1 k ∨ stb k) → own0 ≠ some k → w'.heap[k]? = w.heap[k]?)
    (hst0 : ∀ k, stb k → own0 ≠ some k)
    (hsh : sh = cond (K.flat t) false (sh0 || sh1)) {objs : Objs C} {stb' : Nat → Prop} (hst : ∀ k, stb k → stb' k) (hnew : ∀ k, sh = true → (D0 k ∨ D1 k) → v'.ownBlock ≠ some k → own0 ≠ some k → stb' k) (h01 : ∀ g, own0 = some g → D0 g) :
    ObOk K w' base objs β fp stb' (cond sh (fun g => v'.ownBlock = some g) (fun k => v'.ownBlock = some k ∨ D0 k ∨ D1 k)) (.row t (xs ++ ys) sh) v' := by
  obtain ⟨G0, a1, a2, a3⟩ := h0
  obtain ⟨G1, b1, b2, b3⟩ := h1
  have hlen : (xs ++ ys).length = xs.length + ys.length := by simp
  -- a leaf of the new row
  have hval : ∀ j x i l, (xs ++ ys)[j]? = some x → (K.enc t x)[i]? = some l →
      (j < xs.length ∧ xs[j]? = some x ∧ (cs ++ (List.range (ys.length * K.sz t)).map f).getD (j * K.sz t + i) undef = cs.getD (j * K.sz t + i) undef) ∨
      (xs.length ≤ j ∧ ys[j - xs.length]? = some x ∧ (cs ++ (List.range (ys.length * K.sz t)).map f).getD (j * K.sz t + i) undef = f ((j - xs.length) * K.sz t + i)) := by
    intro j x i l hx hl
    have hi := enc_lt hl
    rw [getD_cat hcs]
    rcases cat_get hx with ⟨hj, hx⟩ | ⟨hj, hx⟩
    · exact .inl ⟨hj, hx, by rw [if_pos (cell_in hj hi)]⟩
    · refine .inr ⟨hj, hx, ?_⟩
      have hj2 := idx_lt hx
      have e : j * K.sz t + i = xs.length * K.sz t + ((j - xs.length) * K.sz t + i) := by
        rw [← Nat.add_assoc, ← Nat.add_mul]; congr 2; omega
      have h3 := cell_in hj2 hi
      rw [e, if_neg (by omega), if_pos (by omega)]
      congr 1; omega
  have n0 : ∀ j i k, G0 j i k → own0 ≠ some k := fun j i k hk => (a1 j i k hk).2
  have n1 : ∀ j i k, G1 j i k → own0 ≠ some k := fun j i k hk e => hd k (h01 k e) (b1 j i k hk).1
  cases hsh' : sh with
  | false =>
    rw [hsh'] at hsh
    rw [cond_false]
    refine .row _ t (xs ++ ys) v' _ (fun j i k => cond (K.flat t) False (if j < xs.length then G0 j i k else G1 (j - xs.length) i k)) (by rw [hlen]; exact hown) (fun g hg => .inl hg) (fun j i k hk => ?_) (fun j i j' i' k hk hk' => ?_) (fun j hj i l hl => ?_)
    · cases hf : K.flat t with
      | true => rw [hf] at hk; exact hk.elim
      | false =>
        rw [hf, cond_false] at hk
        split at hk
        · exact ⟨.inr (.inl (a1 j i k hk).1), fun e => by
            rcases (hv k e).1 with h | h
            · exact n0 j i k hk h
            · exact h (a1 j i k hk).1⟩
        · exact ⟨.inr (.inr (b1 _ i k hk).1), fun e => (hv k e).2 (b1 _ i k hk).1⟩
    · cases hf : K.flat t with
      | true => rw [hf] at hk; exact hk.elim
      | false =>
        rw [hf, cond_false] at hk hk'
        split at hk <;> split at hk'
        · exact a2 j i j' i' k hk hk'
        · exact absurd (b1 _ i' k hk').1 (hd k (a1 j i k hk).1)
        · exact absurd (b1 _ i k hk).1 (hd k (a1 j' i' k hk').1)
        · have := b2 _ i _ i' k hk hk'; omega
    · have hx : (xs ++ ys)[j]? = some (xs ++ ys)[j] := by simp
      rcases hval j _ i l hx hl with ⟨hj1, hx1, hv1⟩ | ⟨hj1, hx1, hv1⟩ <;> rw [hv1]
      · have hh := a3 j _ hx1 i l hl
        cases hf : K.flat t with
        | true => exact flat_own hf hl hh.2
        | false =>
          rw [hf, cond_false] at hsh
          have hs0 : sh0 = false := by cases sh0 <;> simp at hsh ⊢
          simp only [cond_false, if_pos hj1]
          exact (hh.1 hs0).frame fun k hk => hw k (.inl (a1 j i k hk).1) (n0 j i k hk)
      · have hh := b3 _ _ hx1 i l hl
        cases hf : K.flat t with
        | true => exact flat_own hf hl hh.2
        | false =>
          rw [hf, cond_false] at hsh
          have hs1 : sh1 = false := by cases sh1 <;> simp at hsh ⊢
          simp only [cond_false, if_neg (show ¬ j < xs.length by omega)]
          exact (hh.1 hs1).frame fun k hk => hw k (.inr (.inl (b1 _ i k hk).1)) (n1 _ i k hk)
  | true =>
    rw [cond_true]
    refine ⟨_, by rw [hlen]; exact hown, fun g => Iff.rfl, fun j x hx i l hl => ?_⟩
    rcases hval j _ i l hx hl with ⟨hj1, hx1, hv1⟩ | ⟨hj1, hx1, hv1⟩ <;> rw [hv1]
    · have hh := (a3 j _ hx1 i l hl).2
      refine (hh.frame fun k hk => ?_).mono fun k hk => ?_
      · rcases hk with h | h
        · exact hw k (.inr (.inr h)) (hst0 k h)
        · exact hw k (.inl (a1 j i k h).1) (n0 j i k h)
      · rcases hk with h | h
        · exact hst k h
        · refine hnew k hsh' (.inl (a1 j i k h).1) (fun e => ?_) (n0 j i k h)
          rcases (hv k e).1 with h' | h'
          · exact n0 j i k h h'
          · exact h' (a1 j i k h).1
    · have hh := (b3 _ _ hx1 i l hl).2
      refine (hh.frame fun k hk => ?_).mono fun k hk => ?_
      · rcases hk with h | h
        · exact hw k (.inr (.inr h)) (hst0 k h)
        · exact hw k (.inr (.inl (b1 _ i k h).1)) (n1 _ i k h)
      · rcases hk with h | h
        · exact hst k h
        · exact hnew k hsh' (.inr (b1 _ i k h).1) (fun e => (hv k e).2 (b1 _ i k h).1) (n1 _ i k h)

theorem lk_delO {S : St C} {id : Option Nat} {j : Nat} {ob : Ob C} (h : lk (delO S id).objs j = some ob) : lk S.objs j = some ob ∧ id ≠ some j := by
  cases id with
  | none => exact ⟨h, by simp⟩
  | some i =>
    simp only [delO, St.delObj, lk_rm] at h
    split at h
    · cases h
    · rename_i e; exact ⟨h, fun e' => e (by cases e'; rfl)⟩
theorem lk_delO_none {S : St C} {id : Option Nat} {j : Nat} (h : lk (delO S id).objs j = none) : lk S.objs j = none ∨ id = some j := by
  cases id with
  | none => exact .inl h
  | some i =>
    simp only [delO, St.delObj, lk_rm] at h
    split at h
    · rename_i e; exact .inr (by rw [e])
    · exact .inl h
theorem delO_env {S : St C} {id : Option Nat} : (delO S id).env = S.env := by cases id <;> rfl

/-- The blocks of a row that may be there. -/
def ofId (fp : Nat → Nat → Prop) : Option Nat → Nat → Prop
  | none, _ => False
  | some id, k => fp id k

theorem apnd_ok (hX : XOk P X) (hs : Sim X.K w0 nt S β fp a w) (hd : slot dst nt) {o : Oper} (ho : o.dst = dst) {T : TypeId} {t t0 t1 : Ty} (hT : X.tk T = some (.one (.sli t))) {xs : List (C t0)} {ys : List (C t1)} {id0 id1 : Option Nat} {sh0 sh1 : Bool} {v v1 : Value}
    (h : apnd X o S t t0 t1 xs ys id0 id1 (sh0 || sh1) k = some r) (hne : ∀ i, id0 = some i → id1 ≠ some i)
    (hb : ∃ cs, w.ownsRow w0.heap.size (X.K.tid t0) (X.K.sz t0) v xs.length cs ∧ (∀ g, v.ownBlock = some g → ofId fp id0 g) ∧ Elems X.K w w0.heap.size (stbOf S.objs fp w) (ofId fp id0) t0 xs v.ownBlock (fun m => cs.getD m undef) sh0)
    (hl0 : ∀ i, id0 = some i → ∃ ob, lk S.objs i = some ob) (hl1 : ∀ i, id1 = some i → ∃ ob, lk S.objs i = some ob)
    (hh : Handed X.K w w0.heap.size (stbOf S.objs fp w) (ofId fp id1) t1 ys v1 sh1) {ty : TypeId} :
    ∃ v' w', (Builtin.append_ #[T, T] ty #[v, v1]).run P w = .ok v' w' ∧ Next X.K w0 nt k r (a.put dst v') w' := by
  unfold apnd at h
  split at h
  · rename_i xs' ys' hx hy
    unfold castT at hx hy
    split at hx
    · rename_i e _
      subst e
      split at hy
      · rename_i e' _
        have e2 := e'.symm
        subst e2
        cases hx
        cases hy
        obtain ⟨hbd, h⟩ := cond_some h
        have hbd := of_decide_eq_true hbd
        split at h
        · rename_i S' hadd
          obtain ⟨hn, rfl⟩ := add_some hadd
          obtain ⟨i, z, hi, hsz, hby, hpos, hz, hzs, hzl⟩ := hX.el t0
          obtain ⟨cs, hown, hv0, hel0⟩ := hb
          obtain ⟨A, c, f, rfl, hA, hel1⟩ := hh
          have hlen : xs.length + ys.length ≤ 140737488355328 := Nat.le_trans (Nat.le_mul_of_pos_right _ hpos) hbd
          obtain ⟨v', w', q1, q2, q3, q4⟩ := append_run (P := P) (ty := ty) (hX.tk _ _ hT).sli hi hz hsz hby hzs (X.K.pos t0) hown (m := ys.length) (c := c) hA (handed_one hel1) (by simp only [maxLen]; omega) hbd hs.below.size
          refine ⟨v', w', q1, ?_⟩
          have hO : ∀ j ob, lk (delO (delO S id0) id1).objs j = some ob → lk S.objs j = some ob := fun j ob hj => (lk_delO (lk_delO hj).1).1
          have hgone : ∀ i, id0 = some i ∨ id1 = some i → lk (delO (delO S id0) id1).objs i = none := fun i hi => by
            cases e : lk (delO (delO S id0) id1).objs i with
            | none => rfl
            | some ob =>
              have h1 := lk_delO e
              have h2 := lk_delO h1.1
              rcases hi with hi | hi
              · exact absurd hi h2.2
              · exact absurd hi h1.2
          have hleft0 : ∀ k, ofId fp id0 k → Left' S fp (delO (delO S id0) id1).objs k := fun k hk => by
            cases e : id0 with
            | none => rw [e] at hk; exact hk.elim
            | some i =>
              obtain ⟨ob, hob⟩ := hl0 i e
              rw [e] at hk
              exact ⟨i, ob, hob, by rw [← e]; exact hgone i (.inl e), hk⟩
          have hleft1 : ∀ k, ofId fp id1 k → Left' S fp (delO (delO S id0) id1).objs k := fun k hk => by
            cases e : id1 with
            | none => rw [e] at hk; exact hk.elim
            | some i =>
              obtain ⟨ob, hob⟩ := hl1 i e
              rw [e] at hk
              exact ⟨i, ob, hob, by rw [← e]; exact hgone i (.inr e), hk⟩
          have hdis : ∀ k, ofId fp id0 k → ¬ ofId fp id1 k := fun k h0 h1 => by
            cases e0 : id0 with
            | none => rw [e0] at h0; exact h0
            | some i =>
              cases e1 : id1 with
              | none => rw [e1] at h1; exact h1
              | some j =>
                rw [e0] at h0
                rw [e1] at h1
                obtain ⟨ob, hob⟩ := hl0 i e0
                obtain ⟨ob', hob'⟩ := hl1 j e1
                have := hs.disj i j ob ob' k hob hob' h0 h1
                subst this
                exact hne i e0 e1
          have hlt : ∀ k, (ofId fp id0 k ∨ ofId fp id1 k ∨ stbOf S.objs fp w k) → k < w.heap.size := fun k hk => by
            rcases hk with h | h | h
            · obtain ⟨j, ob, h1, h2, h3⟩ := hleft0 k h; exact (hs.fresh j ob k h1 h3).2
            · obtain ⟨j, ob, h1, h2, h3⟩ := hleft1 k h; exact (hs.fresh j ob k h1 h3).2
            · exact h.1
          have hnst : ∀ k, stbOf S.objs fp w k → ¬ Left' S fp (delO (delO S id0) id1).objs k := fun k hk ⟨j, ob, h1, _, h3⟩ => hk.2 j ob h1 h3
          have hvb : ∀ g, v'.ownBlock = some g → (v.ownBlock = some g ∨ ¬ ofId fp id0 g) ∧ ¬ ofId fp id1 g := fun g hg => by
            rcases q4 with q4 | q4
            · rw [q4] at hg
              exact ⟨.inl hg, hdis g (hv0 g hg)⟩
            · rw [q4] at hg
              cases hg
              exact ⟨.inr fun h => absurd (hlt _ (.inl h)) (Nat.lt_irrefl _), fun h => absurd (hlt _ (.inr (.inl h))) (Nat.lt_irrefl _)⟩
          have hsz0 := hs.below.size
          have hown2 : ∀ g, v.ownBlock = some g → w0.heap.size ≤ g ∧ g < w.heap.size := fun g hg => owns_lt hown hg
          have hw : Below w0.heap.size w w' := below_grown (w0 := w0) q3 (fun g e => (hown2 g e).1) hsz0
          have hcs : cs.length = xs.length * X.K.sz t0 := hown.1
          let sh := cond (X.K.flat t0) false (sh0 || sh1)
          let F : Nat → Prop := cond sh (fun g => v'.ownBlock = some g) (fun k => v'.ownBlock = some k ∨ ofId fp id0 k ∨ ofId fp id1 k)
          have hFv : ∀ g, v'.ownBlock = some g → Left' S fp (delO (delO S id0) id1).objs g ∨ (w.heap.size ≤ g ∧ g < w'.heap.size) := fun g hg => by
            have hl := owns_lt q2 hg
            rcases q4 with q4 | q4
            · rw [q4] at hg; exact .inl (hleft0 g (hv0 g hg))
            · rw [q4] at hg; cases hg; exact .inr ⟨Nat.le_refl _, hl.2⟩
          have hF : ∀ k, F k → Left' S fp (delO (delO S id0) id1).objs k ∨ (w.heap.size ≤ k ∧ k < w'.heap.size) := fun k hk => by
            cases e : sh with
            | true => simp only [F, e, cond_true] at hk; exact hFv k hk
            | false =>
              simp only [F, e, cond_false] at hk
              rcases hk with h | h | h
              · exact hFv k h
              · exact .inl (hleft0 k h)
              · exact .inl (hleft1 k h)
          have hbl : ∀ k, k < w.heap.size → v.ownBlock ≠ some k → w'.heap[k]? = w.heap[k]? := fun k hk hne => q3.block k hk fun e => hne e.symm
          have hst := fun k hk => stb_reown hs hO hw.size (fun k hk hnl => hbl k hk fun e => hnl (hleft0 k (hv0 k e))) (id := newId X o) (ob := .row t0 (xs ++ ys) sh) (F := F) (fun k hk => (hF k hk).imp (fun h => h) fun h => h.1) (k := k) hk
          have hob : ObOk X.K w' w0.heap.size ((newId X o, .row t0 (xs ++ ys) sh) :: (delO (delO S id0) id1).objs) (upd β (newId X o) v') (upd fp (newId X o) F) (stbOf ((newId X o, .row t0 (xs ++ ys) sh) :: (delO (delO S id0) id1).objs) (upd fp (newId X o) F) w') F (.row t0 (xs ++ ys) sh) v' :=
            cat_ob hel0 hel1 hdis hcs q2 hvb (fun k hk hne => hbl k (hlt k hk) hne) (fun k hk e => (hnst k hk) (hleft0 k (hv0 k e))) rfl (fun k hk => (hst k hk).1)
              (fun k hs1 hk hne1 hne2 => by
                have hk' : Left' S fp (delO (delO S id0) id1).objs k := hk.elim (hleft0 k) (hleft1 k)
                have hkl := hlt k (hk.imp (fun h => h) .inl)
                refine ⟨Nat.lt_of_lt_of_le hkl hw.size, fun j ob' hj => ?_⟩
                rw [lk_cons] at hj
                by_cases e : j = newId X o
                · rw [e, upd_same]
                  show ¬ (cond sh (fun g => v'.ownBlock = some g) (fun k => v'.ownBlock = some k ∨ ofId fp id0 k ∨ ofId fp id1 k)) k
                  have hs1' : sh = true := hs1
                  rw [hs1']
                  exact hne1
                · rw [if_neg e] at hj
                  rw [upd_ne _ _ e]
                  intro hk2
                  exact left_not hs hO hj hk2 hk') hv0
          have h2 := hs.reown hO hw (fun k hk hnl => hbl k hk fun e => hnl (hleft0 k (hv0 k e))) (id := newId X o) (by
            have := hn
            unfold Unnamed at this
            rw [delO_env, delO_env] at this
            exact this) (ob := .row t0 (xs ++ ys) sh) (hv := v') (F := F) hF hob (delO (delO S id0) id1).base
          have hSe : (⟨S.env, (newId X o, .row t0 (xs ++ ys) sh) :: (delO (delO S id0) id1).objs, (delO (delO S id0) id1).base⟩ : St C) = (delO (delO S id0) id1).setObj (newId X o) (.row t0 (xs ++ ys) sh) := by
            unfold St.setObj
            rw [delO_env, delO_env]
          rw [hSe] at h2
          subst ho
          refine next_put h2 hd (v := .one (.ref (newId X o) [])) ⟨?_, (upd_same _ _ _).symm⟩ h
          obtain ⟨A', c', e, _⟩ := owns_head q2
          rw [e]; rfl
        · cases h
      · cases hy
    · cases hx
  · cases h
end
end Go.Proofs.Ytkiognopoigbhaa.Ab
