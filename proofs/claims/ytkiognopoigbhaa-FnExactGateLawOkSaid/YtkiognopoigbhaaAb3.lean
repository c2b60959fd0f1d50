/- The abstract machine, part 3: when an abstract state tells a state of the model. -/
import Derived.Test.YtkiognopoigbhaaAb2
set_option linter.unusedVariables false
set_option linter.unusedSimpArgs false
namespace Go.Proofs.Ytkiognopoigbhaa.Ab
open Go Go.RowKit

section
variable {Ty : Type} {C : Ty → Type}

/-- From a row to a row inside it, cell by cell; F: the blocks in which it may lie. -/
inductive PRes (K : Cd C) (w : World) (F : Nat → Prop) : (t : Ty) → List (C t) → Value → List (Nat × Nat) → (t' : Ty) → List (C t') → Value → Prop
  | nil (t xs v) : PRes K w F t xs v [] t xs v
  | cons (t : Ty) (xs : List (C t)) (v : Value) (i o : Nat) (x : C t) (t1 : Ty) (ys : List (C t1)) (a : Addr) (n c : Nat) (v1 : Value) (p : List (Nat × Nat)) (t' : Ty) (zs : List (C t')) (v' : Value)
      (hx : xs[i]? = some x) (hl : (K.enc t x)[o]? = some (.row t1 ys)) (hv : v = .slice (some a) n c) (hF : F a.block) (hc : w.cell? (a.add (i * K.sz t + o)) = some v1)
      (hp : PRes K w F t1 ys v1 p t' zs v') : PRes K w F t xs v ((i, o) :: p) t' zs v'

abbrev Objs (C : Ty → Type) := List (Nat × Ob C)
def stbOf (objs : Objs C) (fp : Nat → Nat → Prop) (w : World) (k : Nat) : Prop := k < w.heap.size ∧ ∀ id ob, lk objs id = some ob → ¬ fp id k

/-- The place where element i's cell o of a row begins. -/
def EpAt (K : Cd C) (t : Ty) (n : Nat) (v : Value) (i o : Nat) (u : Value) : Prop := i < n ∧ ∃ a m c, v = .slice (some a) m c ∧ u = .pointer (some (a.add (i * K.sz t + o)))

def LfOk (K : Cd C) (w : World) (objs : Objs C) (β : Nat → Value) (fp : Nat → Nat → Prop) (stb : Nat → Prop) : Lf C → Value → Prop
  | .int k n, v => v = .int k n
  | .bool b, v => v = .bool b
  | .str s, v => v = .string s
  | .row t xs, v => Rep K w stb (.row t xs) v
  | .nil _, v => v = .slice none 0 0
  | .nilp, v => v = .pointer none
  | .fnc f, v => v = fnV f
  | .nilv n, v => v = n.val
  | .vo id, v => v.oneCell' = true ∧ v = β id
  | .ptr id off, v => ∃ b, β id = .pointer (some ⟨b, 0, none⟩) ∧ v = .pointer (some ⟨b, off, none⟩)
  | .elt t x o, v => ∃ (a : Addr) (U : Nat → Value), v = .pointer (some (a.add o)) ∧ stb a.block ∧ (∀ i, i < K.sz t → w.cell? (a.add i) = some (U i)) ∧ ∀ i l, (K.enc t x)[i]? = some l → Rep K w stb l (U i)
  | .ref id [], v => v.oneCell' = true ∧ v = β id
  | .ref id (s :: p), v => v.oneCell' = true ∧ ∀ t xs sh, lk objs id = some (.row t xs sh) → sh = false ∧ ∃ (t' : Ty) (zs : List (C t')), PRes K w (fp id) t xs (β id) (s :: p) t' zs v
  | .ep id [] i o, v => (∃ a, v = .pointer (some a)) ∧ ∀ t xs sh, lk objs id = some (.row t xs sh) → EpAt K t xs.length (β id) i o v
  | .ep id (s :: p) i o, v => (∃ a, v = .pointer (some a)) ∧ ∀ t xs sh, lk objs id = some (.row t xs sh) → sh = false ∧
      ∃ (t' : Ty) (zs : List (C t')) (v' : Value), PRes K w (fp id) t xs (β id) (s :: p) t' zs v' ∧ EpAt K t' zs.length v' i o v

def LfsOk (K : Cd C) (w : World) (objs : Objs C) (β : Nat → Value) (fp : Nat → Nat → Prop) (stb : Nat → Prop) (ls : List (Lf C)) (vs : List Value) : Prop :=
  vs.length = ls.length ∧ ∀ (i : Nat) (l : Lf C), ls[i]? = some l → LfOk K w objs β fp stb l (vs.getD i undef)

def TupOk (K : Cd C) (w : World) (objs : Objs C) (β : Nat → Value) (fp : Nat → Nat → Prop) (stb : Nat → Prop) (x : Bool × List (Lf C)) (v : Value) : Prop :=
  match x with
  | (false, ls) => ∃ l, ls = [l] ∧ LfOk K w objs β fp stb l v
  | (true, ls) => ∃ vs : List Value, v = .agg vs.toArray ∧ LfsOk K w objs β fp stb ls vs

def SVOk (K : Cd C) (w : World) (objs : Objs C) (β : Nat → Value) (fp : Nat → Nat → Prop) (stb : Nat → Prop) : SV C → Value → Prop
  | .one l, v => LfOk K w objs β fp stb l v
  | .agg ls, v => ∃ vs : List Value, v = .agg vs.toArray ∧ LfsOk K w objs β fp stb ls vs
  | .tup xs, v => ∃ vs : List Value, v = .tuple vs.toArray ∧ vs.length = xs.length ∧ ∀ (i : Nat) (x : Bool × List (Lf C)), xs[i]? = some x → TupOk K w objs β fp stb x (vs.getD i undef)
  | .und, v => v = undef
  | .hdr id j, _ => β id = K.hd j
  | .frame, _ => ∀ k, K.kp (2 * k) → stb k ∧ w.heap[k]? = K.kh k
  | .sus x j, _ => TupOk K w objs β fp stb x (K.hd j)

/-- An own row whose elements' rows are shared. -/
def SharedRow (K : Cd C) (w : World) (base : Nat) (stb : Nat → Prop) (F : Nat → Prop) (t : Ty) (xs : List (C t)) (v : Value) : Prop :=
  ∃ cells, w.ownsRow base (K.tid t) (K.sz t) v xs.length cells ∧ (∀ g, F g ↔ v.ownBlock = some g) ∧
    ∀ (j : Nat) (x : C t), xs[j]? = some x → ∀ (i : Nat) (l : Lf C), (K.enc t x)[i]? = some l → Rep K w stb l (cells.getD (j * K.sz t + i) undef)

/-- The values of parts out of their cells. -/
def packSh : List (Bool × Nat) → List Value → List Value
  | [], _ => []
  | (b, n) :: r, us => (cond b (.agg (us.take n).toArray) (us.headD undef)) :: packSh r (us.drop n)
def cloV (f n : Nat) (sh : List (Bool × Nat)) (us : List Value) : Value := .func (.func f) ((packSh sh us).take n).toArray ((packSh sh us).drop n).toArray
def ifcV (t : TypeId) (sh : List (Bool × Nat)) (us : List Value) : Value := .iface t ((packSh sh us).headD undef)
/-- The value of a cell that is no row. -/
def plainV : Lf C → Value
  | .int k n => .int k n
  | .bool b => .bool b
  | .str s => .string s
  | .fnc f => fnV f
  | _ => undef
def mkV (ag : Bool) (us : List Value) : Value := cond ag (.agg us.toArray) (us.headD undef)
def keyV (K : Cd C) (mk : MK) (kt : Ty) (x : C kt) : Value := mkV mk.kag ((K.enc kt x).map plainV)
def valV (K : Cd C) (mk : MK) (vt : Ty) (y : C vt) : Value := cond mk.un (.agg #[]) (mkV mk.vag ((K.enc vt y).map plainV))
def entV (K : Cd C) (mk : MK) (kt vt : Ty) (e : Nat × C kt × C vt) : MapEntry := ⟨keyV K mk kt e.2.1, valV K mk vt e.2.2, e.1⟩

def ObOk (K : Cd C) (w : World) (base : Nat) (objs : Objs C) (β : Nat → Value) (fp : Nat → Nat → Prop) (stb : Nat → Prop) (F : Nat → Prop) : Ob C → Value → Prop
  | .box .mem ls, v => ∃ b cs e, v = .pointer (some ⟨b, 0, none⟩) ∧ w.heap[b]? = some (.cells cs e (0, 0)) ∧ (∀ k, F k ↔ k = b) ∧ LfsOk K w objs β fp stb ls cs.toList
  | .box (.clo f n sh) ls, v => ∃ us, v = cloV f n sh us ∧ (∀ k, ¬ F k) ∧ LfsOk K w objs β fp stb ls us
  | .box (.ifc t sh) ls, v => ∃ us, v = ifcV t sh us ∧ (∀ k, ¬ F k) ∧ LfsOk K w objs β fp stb ls us
  | .ghost, _ => ∀ k, K.kp (2 * k + 1) → F k ∧ w.heap[k]? = K.kh k
  | .map mk kt vt xs c, v => ∃ b es, v = .map (some b) ∧ w.heap[b]? = some (.map es c) ∧ (∀ k, F k ↔ k = b) ∧ es.toList = xs.map (entV K mk kt vt)
  | .row t xs false, v => Own K w base F (.row t xs) v
  | .row t xs true, v => SharedRow K w base stb F t xs v

structure Sim (K : Cd C) (w0 : World) (nt : Nat) (S : St C) (β : Nat → Value) (fp : Nat → Nat → Prop) (a : Act) (w : World) : Prop where
  below : Below w0.heap.size w0 w
  defers : a.defers = []
  size : a.tmps.size = nt
  fresh : ∀ id ob k, lk S.objs id = some ob → fp id k → w0.heap.size ≤ k ∧ k < w.heap.size
  disj : ∀ id id' ob ob' k, lk S.objs id = some ob → lk S.objs id' = some ob' → fp id k → fp id' k → id = id'
  objs : ∀ id ob, lk S.objs id = some ob → ObOk K w w0.heap.size S.objs β fp (stbOf S.objs fp w) (fp id) ob (β id)
  env : ∀ t v, lk S.env t = some v → SVOk K w S.objs β fp (stbOf S.objs fp w) v (a.tmps.getD t undef)

def SimE (K : Cd C) (w0 : World) (nt : Nat) (S : St C) (a : Act) (w : World) : Prop := ∃ β fp, Sim K w0 nt S β fp a w

theorem lk_cons {α : Type} (m : Nat) (v : α) (l : List (Nat × α)) (n : Nat) : lk ((m, v) :: l) n = if n = m then some v else lk l n := by
  simp only [lk]
  by_cases h : n = m
  · subst h; simp [Nat.beq_refl]
  · have : Nat.beq n m = false := by
      cases hb : Nat.beq n m with
      | false => rfl
      | true => exact absurd (Nat.eq_of_beq_eq_true hb) h
    simp [this, h]
theorem lk_rm {α : Type} (l : List (Nat × α)) (d n : Nat) : lk (rm l d) n = if n = d then none else lk l n := by
  induction l with
  | nil => simp [rm, lk]
  | cons x l ih =>
    obtain ⟨m, v⟩ := x
    simp only [rm]
    by_cases h : d = m
    · subst h
      have hb : Nat.beq d d = true := Nat.beq_refl d
      simp only [hb, cond_true, ih, lk_cons]
      by_cases hn : n = d <;> simp [hn]
    · have hb : Nat.beq d m = false := by
        cases hb : Nat.beq d m with
        | false => rfl
        | true => exact absurd (Nat.eq_of_beq_eq_true hb) h
      simp only [hb, cond_false, lk_cons, ih]
      by_cases hn : n = m
      · subst hn
        have : n ≠ d := fun e => h e.symm
        simp [this]
      · simp [hn]

theorem getD_set (t : Array Value) (d n : Nat) (u z : Value) (h : d < t.size) : (t.setIfInBounds d u).getD n z = if n = d then u else t.getD n z := by
  simp only [Array.getD_eq_getD_getElem?, Array.getElem?_setIfInBounds]
  by_cases e : d = n
  · subst e; simp [h]
  · have : n ≠ d := fun h => e h.symm
    simp [e, this]

section
variable {K : Cd C} {w0 w : World} {nt : Nat} {S : St C} {β : Nat → Value} {fp : Nat → Nat → Prop} {a : Act}
theorem Sim.put (h : Sim K w0 nt S β fp a w) {v : SV C} {u : Value} (d : Option Tmp) (hd : ∀ t, d = some t → t < nt) (hv : SVOk K w S.objs β fp (stbOf S.objs fp w) v u) : Sim K w0 nt (S.put d v) β fp (a.put d u) w := by
  cases d with
  | none => exact h
  | some d =>
    have hs : d < a.tmps.size := by rw [h.size]; exact hd d rfl
    refine ⟨h.below, h.defers, by simpa [Act.put] using h.size, h.fresh, h.disj, h.objs, fun t v' ht => ?_⟩
    simp only [St.put, lk_cons] at ht
    simp only [Act.put, getD_set _ _ _ _ _ hs]
    by_cases e : t = d
    · subst e
      simp at ht ⊢
      subst ht
      exact hv
    · simp only [e, if_false] at ht ⊢
      exact h.env t v' ht
/-- Fewer slots are told. -/
theorem Sim.less (h : Sim K w0 nt S β fp a w) (E : List (Nat × SV C)) (hE : ∀ t v, lk E t = some v → lk S.env t = some v) : Sim K w0 nt { S with env := E } β fp a w :=
  ⟨h.below, h.defers, h.size, h.fresh, h.disj, h.objs, fun t v ht => h.env t v (hE t v ht)⟩
theorem Sim.drop (h : Sim K w0 nt S β fp a w) (d : Option Tmp) (u : Value) : Sim K w0 nt (S.drop d) β fp (a.put d u) w := by
  cases d with
  | none => exact h
  | some d =>
    refine ⟨h.below, h.defers, by simpa [Act.put] using h.size, h.fresh, h.disj, h.objs, fun t v ht => ?_⟩
    simp only [St.drop, lk_rm] at ht
    by_cases e : t = d
    · simp [e] at ht
    · simp only [e, if_false] at ht
      have := h.env t v ht
      simp only [Act.put, Array.getD_eq_getD_getElem?, Array.getElem?_setIfInBounds] at this ⊢
      have e' : d ≠ t := fun x => e x.symm
      simp only [e', if_false] at this ⊢
      exact this
theorem Sim.drop' (h : Sim K w0 nt S β fp a w) (d : Option Tmp) : Sim K w0 nt (S.drop d) β fp a w := by
  cases d with
  | none => exact h
  | some d =>
    refine h.less _ (fun t v ht => ?_)
    rw [lk_rm] at ht
    split at ht
    · cases ht
    · exact ht
theorem lk_tidyE (E : List (Nat × SV C)) (keep : List Nat) : ∀ t v, lk (tidyE E keep) t = some v → lk E t = some v := by
  induction keep with
  | nil => intro t v h; simp [tidyE, lk] at h
  | cons d r ih =>
    intro t v h
    simp only [tidyE] at h
    cases hd : lk E d with
    | none => rw [hd] at h; exact ih t v h
    | some u =>
      rw [hd] at h
      simp only [lk_cons] at h
      by_cases e : t = d
      · subst e; simp at h; subst h; exact hd
      · simp only [e, if_false] at h; exact ih t v h
theorem ghostsE_lk : ∀ {E : List (Nat × SV C)} {t : Nat} {v : SV C}, lk (ghostsE E) t = some v → lk E t = some v ∧ ((∃ x j, v = .sus x j) ∨ (∃ id j, v = .hdr id j) ∨ v = .frame)
  | [], t, v, h => by simp [ghostsE, lk] at h
  | (m, u) :: E, t, v, h => by
    have hd : ∀ {u : SV C}, ((∃ x j, u = .sus x j) ∨ (∃ id j, u = .hdr id j) ∨ u = .frame) → lk ((m, u) :: rm (ghostsE E) m) t = some v → lk ((m, u) :: E) t = some v ∧ ((∃ x j, v = .sus x j) ∨ (∃ id j, v = .hdr id j) ∨ v = .frame) := fun {u} hu h => by
      rw [lk_cons] at h ⊢
      by_cases e : t = m
      · rw [if_pos e] at h ⊢; cases h; exact ⟨rfl, hu⟩
      · rw [if_neg e] at h ⊢; rw [lk_rm, if_neg e] at h; exact ghostsE_lk h
    have ht : ∀ {u : SV C}, lk (rm (ghostsE E) m) t = some v → lk ((m, u) :: E) t = some v ∧ ((∃ x j, v = .sus x j) ∨ (∃ id j, v = .hdr id j) ∨ v = .frame) := fun {u} h => by
      rw [lk_rm] at h
      rw [lk_cons]
      by_cases e : t = m
      · rw [if_pos e] at h; cases h
      · rw [if_neg e] at h ⊢; exact ghostsE_lk h
    cases u with
    | sus x j => exact hd (.inl ⟨x, j, rfl⟩) h
    | hdr id j => exact hd (.inr (.inl ⟨id, j, rfl⟩)) h
    | frame => exact hd (.inr (.inr rfl)) h
    | one _ => exact ht h
    | agg _ => exact ht h
    | tup _ => exact ht h
    | und => exact ht h
theorem lk_app {α : Type} (l r : List (Nat × α)) (n : Nat) : lk (l ++ r) n = match lk l n with
    | some v => some v
    | none => lk r n := by
  induction l with
  | nil => rfl
  | cons x l ih =>
    obtain ⟨m, v⟩ := x
    simp only [List.cons_append, lk_cons]
    by_cases e : n = m
    · simp [e]
    · simp only [e, if_false]; exact ih
theorem lk_liveE (E : List (Nat × SV C)) (keep : List Nat) : ∀ t v, lk (liveE E keep) t = some v → lk E t = some v := by
  intro t v h
  unfold liveE at h
  rw [lk_app] at h
  cases e : lk (tidyE E keep) t with
  | some u => rw [e] at h; cases h; exact lk_tidyE E keep t _ e
  | none => rw [e] at h; exact (ghostsE_lk h).1
theorem Sim.tidy (h : Sim K w0 nt S β fp a w) (keep : List Nat) : Sim K w0 nt (S.tidy keep) β fp a w := h.less _ (lk_liveE S.env keep)

/-! ### From one world to another -/
theorem PRes.frame {w w' : World} {F F' : Nat → Prop} {t : Ty} {xs : List (C t)} {v : Value} {p : List (Nat × Nat)} {t' : Ty} {zs : List (C t')} {v' : Value}
    (h : PRes K w F t xs v p t' zs v') (hF : ∀ k, F k → F' k ∧ w'.heap[k]? = w.heap[k]?) : PRes K w' F' t xs v p t' zs v' := by
  induction h with
  | nil => exact .nil ..
  | cons t xs v i o x t1 ys a n c v1 p t' zs v' hx hl hv hFa hc _ ih =>
    refine .cons t xs v i o x t1 ys a n c v1 p t' zs v' hx hl hv (hF _ hFa).1 ?_ ih
    have hb : (a.add (i * K.sz t + o)).block = a.block := by unfold Addr.add; split <;> rfl
    rw [World.cell?_of_block (w := w) (by rw [hb]; exact (hF _ hFa).2)]
    exact hc

/-- What is asked of a thing's number so that what names it stays told. -/
def Keeps (w w' : World) (objs objs' : Objs C) (β β' : Nat → Value) (fp fp' : Nat → Nat → Prop) (id : Nat) : Prop :=
  β' id = β id ∧ ∀ t xs sh, lk objs' id = some (.row t xs sh) → lk objs id = some (.row t xs sh) ∧ ∀ k, fp id k → fp' id k ∧ w'.heap[k]? = w.heap[k]?

theorem LfOk.tr {w w' : World} {objs objs' : Objs C} {β β' : Nat → Value} {fp fp' : Nat → Nat → Prop} {stb stb' : Nat → Prop} {l : Lf C} {v : Value}
    (h : LfOk K w objs β fp stb l v) (hst : ∀ k, stb k → stb' k ∧ w'.heap[k]? = w.heap[k]?) (hid : ∀ id, id ∈ idsL l → Keeps w w' objs objs' β β' fp fp' id) : LfOk K w' objs' β' fp' stb' l v := by
  have R : ∀ {l : Lf C} {v : Value}, Rep K w stb l v → Rep K w' stb' l v := fun h => (h.frame fun k hk => (hst k hk).2).mono fun k hk => (hst k hk).1
  cases l with
  | row t xs => exact R h
  | elt t x o =>
    obtain ⟨a, U, h1, h2, h3, h4⟩ := h
    refine ⟨a, U, h1, (hst _ h2).1, fun i hi => ?_, fun i l hl => R (h4 i l hl)⟩
    have hb : (a.add i).block = a.block := by unfold Addr.add; split <;> rfl
    rw [World.cell?_of_block (w := w) (by rw [hb]; exact (hst _ h2).2)]
    exact h3 i hi
  | ptr id off =>
    obtain ⟨b, h1, h2⟩ := h
    exact ⟨b, (hid id (by simp [idsL])).1.trans h1, h2⟩
  | vo id => exact ⟨h.1, h.2.trans (hid id (by simp [idsL])).1.symm⟩
  | ref id p =>
    obtain ⟨e, hk⟩ := hid id (by simp [idsL])
    cases p with
    | nil => exact ⟨h.1, h.2.trans e.symm⟩
    | cons s p =>
      refine ⟨h.1, fun t xs sh ho => ?_⟩
      obtain ⟨ho', hf⟩ := hk t xs sh ho
      obtain ⟨h1, t', zs, hz⟩ := h.2 t xs sh ho'
      exact ⟨h1, t', zs, by rw [e]; exact hz.frame hf⟩
  | ep id p i o =>
    obtain ⟨e, hk⟩ := hid id (by simp [idsL])
    cases p with
    | nil => exact ⟨h.1, fun t xs sh ho => by rw [e]; exact h.2 t xs sh (hk t xs sh ho).1⟩
    | cons s p =>
      refine ⟨h.1, fun t xs sh ho => ?_⟩
      obtain ⟨ho', hf⟩ := hk t xs sh ho
      obtain ⟨h1, t', zs, v', hz, hr⟩ := h.2 t xs sh ho'
      exact ⟨h1, t', zs, v', by rw [e]; exact hz.frame hf, hr⟩
  | _ => exact h

theorem mem_idsLs {l : Lf C} {ls : List (Lf C)} {i : Nat} (h : ls[i]? = some l) {id : Nat} (hi : id ∈ idsL l) : id ∈ idsLs ls := by
  induction ls generalizing i with
  | nil => simp at h
  | cons x r ih =>
    simp only [idsLs, List.mem_append]
    cases i with
    | zero => simp at h; subst h; exact .inl hi
    | succ i => simp at h; exact .inr (ih h)
theorem LfsOk.tr {w w' : World} {objs objs' : Objs C} {β β' : Nat → Value} {fp fp' : Nat → Nat → Prop} {stb stb' : Nat → Prop} {ls : List (Lf C)} {vs : List Value}
    (h : LfsOk K w objs β fp stb ls vs) (hst : ∀ k, stb k → stb' k ∧ w'.heap[k]? = w.heap[k]?) (hid : ∀ id, id ∈ idsLs ls → Keeps w w' objs objs' β β' fp fp' id) : LfsOk K w' objs' β' fp' stb' ls vs :=
  ⟨h.1, fun i l hl => (h.2 i l hl).tr hst fun id hi => hid id (mem_idsLs hl hi)⟩
theorem SVOk.tr {w w' : World} {objs objs' : Objs C} {β β' : Nat → Value} {fp fp' : Nat → Nat → Prop} {stb stb' : Nat → Prop} {x : SV C} {v : Value}
    (h : SVOk K w objs β fp stb x v) (hst : ∀ k, stb k → stb' k ∧ w'.heap[k]? = w.heap[k]?) (hid : ∀ id, id ∈ idsV0 x → Keeps w w' objs objs' β β' fp fp' id) : SVOk K w' objs' β' fp' stb' x v := by
  cases x with
  | one l => exact LfOk.tr h hst hid
  | agg ls => obtain ⟨vs, h1, h2⟩ := h; exact ⟨vs, h1, h2.tr hst hid⟩
  | tup xs =>
    obtain ⟨vs, h1, h2, h3⟩ := h
    refine ⟨vs, h1, h2, fun i x hx => ?_⟩
    have hm : ∀ id, id ∈ idsLs x.2 → id ∈ idsT xs := by
      clear h3 h2 h1 hid
      induction xs generalizing i with
      | nil => simp at hx
      | cons y r ih =>
        intro id hi
        obtain ⟨b, ls⟩ := y
        simp only [idsT, List.mem_append]
        cases i with
        | zero => simp at hx; subst hx; exact .inl hi
        | succ i => simp at hx; exact .inr (ih i hx id hi)
    have := h3 i x hx
    obtain ⟨b, ls⟩ := x
    cases b with
    | false =>
      obtain ⟨l, h1, h2⟩ := this
      subst h1
      exact ⟨l, rfl, h2.tr hst fun id hi => hid id (hm id (by simpa [idsLs] using hi))⟩
    | true => obtain ⟨vs, h1, h2⟩ := this; exact ⟨vs, h1, h2.tr hst fun id hi => hid id (hm id hi)⟩
  | und => exact h
  | hdr id j => exact (hid id (by simp [idsV0])).1.trans h
  | frame => exact fun k hk => ⟨(hst k (h k hk).1).1, (hst k (h k hk).1).2.trans (h k hk).2⟩
  | sus x j =>
    obtain ⟨b, ls⟩ := x
    cases b with
    | false =>
      obtain ⟨l, h1, h2⟩ := h
      have h1 : ls = [l] := h1
      subst h1
      exact ⟨l, rfl, h2.tr hst fun id hi => hid id (by simpa [idsV0, idsLs] using hi)⟩
    | true => obtain ⟨vs, h1, h2⟩ := h; exact ⟨vs, h1, h2.tr hst fun id hi => hid id hi⟩
/-- A thing that is left alone. -/
theorem ObOk.tr {w w' : World} {base : Nat} {objs objs' : Objs C} {β β' : Nat → Value} {fp fp' : Nat → Nat → Prop} {stb stb' F : Nat → Prop} {ob : Ob C} {v : Value}
    (h : ObOk K w base objs β fp stb F ob v) (hst : ∀ k, stb k → stb' k ∧ w'.heap[k]? = w.heap[k]?) (hF : ∀ k, F k → w'.heap[k]? = w.heap[k]?)
    (hid : ∀ kd ls, ob = .box kd ls → ∀ id, id ∈ idsLs ls → Keeps w w' objs objs' β β' fp fp' id) : ObOk K w' base objs' β' fp' stb' F ob v := by
  have R : ∀ {l : Lf C} {v : Value}, Rep K w stb l v → Rep K w' stb' l v := fun h => (h.frame fun k hk => (hst k hk).2).mono fun k hk => (hst k hk).1
  cases ob with
  | box kd ls => cases kd with
    | mem =>
      obtain ⟨b, cs, e, h1, h2, h3, h4⟩ := h
      exact ⟨b, cs, e, h1, (hF b ((h3 b).2 rfl)).trans h2, h3, h4.tr hst (hid _ ls rfl)⟩
    | clo f n sh => obtain ⟨us, h1, h2, h3⟩ := h; exact ⟨us, h1, h2, h3.tr hst (hid _ ls rfl)⟩
    | ifc t sh => obtain ⟨us, h1, h2, h3⟩ := h; exact ⟨us, h1, h2, h3.tr hst (hid _ ls rfl)⟩
  | map mk kt vt xs c => obtain ⟨b, es, h1, h2, h3, h4⟩ := h; exact ⟨b, es, h1, (hF b ((h3 b).2 rfl)).trans h2, h3, h4⟩
  | ghost => exact fun k hk => ⟨(h k hk).1, (hF k (h k hk).1).trans (h k hk).2⟩
  | row t xs sh => cases sh with
    | false => exact Own.frame (w := w) h hF
    | true => obtain ⟨cells, h1, h2, h3⟩ := h; exact ⟨cells, ownsRow_frame h1 fun g hg => hF g ((h2 g).2 hg), h2, fun j x hx i l hl => R (h3 j x hx i l hl)⟩
end
end
end Go.Proofs.Ytkiognopoigbhaa.Ab
