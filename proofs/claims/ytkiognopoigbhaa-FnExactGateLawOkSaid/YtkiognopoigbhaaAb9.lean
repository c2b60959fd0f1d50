/- The abstract machine, part 9: loads, stores, what moves into a row. -/
import Derived.Test.YtkiognopoigbhaaAb8
set_option linter.unusedVariables false
set_option linter.unusedSimpArgs false
set_option linter.unusedSectionVars false
namespace Go.Proofs.Ytkiognopoigbhaa.Ab
open Go Go.RowKit

section
variable {Ty : Type} [DecidableEq Ty] {C : Ty → Type}
variable {P : Program} {X : Cx C} {w0 w : World} {nt : Nat} {S : St C} {β : Nat → Value} {fp : Nat → Nat → Prop} {a : Act} {R : Type} {k : St C → Option R} {r : R}
variable {dst : Option Tmp} {ty : TypeId} {pos : String} {aft : Array Edge} {gd : Option (Nat × Bool)} {Q : Exit → Act → World → Prop}

theorem run_isAgg {K : Cd C} {T : TypeId} {tk : TK Ty} (h : TFact P K T tk) : (isAgg T).run P w = .ok (isAggT tk) w := by
  cases tk with
  | one z =>
    obtain ⟨_, d, hd, hz⟩ := h
    cases z with
    | ptr => obtain ⟨e, rfl⟩ := hz; simp [isAgg, run_under hd, isAggT]
    | fnc => obtain ⟨_, _, _, rfl⟩ := hz; simp [isAgg, run_under hd, isAggT]
    | nk n => cases n with
      | ifc => obtain ⟨_, rfl⟩ := hz; simp [isAgg, run_under hd, isAggT]
      | map => obtain ⟨_, _, rfl⟩ := hz; simp [isAgg, run_under hd, isAggT]
    | _ => simp only [ZL.desc] at hz; subst hz; simp [isAgg, run_under hd, isAggT]
  | agg fs zs =>
    obtain ⟨_, f, hf, _⟩ := h
    simp [isAgg, run_under hf, isAggT]
theorem TFact.size {K : Cd C} {T : TypeId} {tk : TK Ty} (h : TFact P K T tk) : (sizeOf T).run P w = .ok tk.size w := by
  cases tk with
  | one z => obtain ⟨⟨i, h1, h2, _⟩, _⟩ := h; simp [sizeOf, typeInfo, h1, h2, TK.size]
  | agg fs zs => obtain ⟨⟨i, h1, h2, _⟩, _⟩ := h; simp [sizeOf, typeInfo, h1, h2, TK.size]

/-- A value read off cells. -/
theorem load_sv {K : Cd C} {objs : Objs C} {stb : Nat → Prop} {T : TypeId} {tk : TK Ty} (hT : TFact P K T tk) {ls : List (Lf C)} {v : SV C} (hm : mkSV tk ls = some v) {p : Addr}
    (hc : ∀ i l, ls[i]? = some l → ∃ u, w.cell? (p.add i) = some u ∧ LfOk K w objs β fp stb l u) :
    ∃ u, (loadVar T p).run P w = .ok u w ∧ SVOk K w objs β fp stb v u := by
  cases tk with
  | one z =>
    cases ls with
    | nil => simp [mkSV] at hm
    | cons l r =>
      simp [mkSV] at hm
      subst hm
      obtain ⟨u, h1, h2⟩ := hc 0 l rfl
      refine ⟨u, ?_, h2⟩
      have : p.add 0 = p := by simp [Addr.add]
      rw [this] at h1
      simp [loadVar, run_isAgg hT, isAggT, h1]
  | agg fs zs =>
    simp only [mkSV] at hm
    obtain ⟨hl, hm⟩ := cond_some hm
    cases hm
    have hl := Nat.le_of_ble_eq_true hl
    have hex : ∀ i, i < zs.length → ∃ l u, ls[i]? = some l ∧ w.cell? (p.add i) = some u ∧ LfOk K w objs β fp stb l u := fun i hi => by
      have hi' : i < ls.length := by omega
      obtain ⟨u, h1, h2⟩ := hc i ls[i] (by simp [hi'])
      exact ⟨ls[i], u, by simp [hi'], h1, h2⟩
    let f : Nat → Value := fun i => (w.cell? (p.add i)).getD undef
    have hf : ∀ i, i < zs.length → w.cell? (p.add i) = some (f i) := fun i hi => by
      obtain ⟨l, u, _, h1, _⟩ := hex i hi
      simp [f, h1]
    refine ⟨.agg ((List.range zs.length).map f).toArray, ?_, (List.range zs.length).map f, rfl, by simp; omega, fun i l hi => ?_⟩
    · simp [loadVar, run_isAgg hT, isAggT, hT.size, TK.size, run_loadCells w p zs.length f hf]
    · rw [List.getElem?_take] at hi
      split at hi
      · rename_i hlt
        obtain ⟨l', u, h1, h2, h3⟩ := hex i hlt
        rw [hi] at h1
        cases h1
        have : ((List.range zs.length).map f).getD i undef = u := by simp [List.getD, hlt, f, h2]
        rw [this]
        exact h3
      · cases hi

theorem s_load (hX : XOk P X) (hs : Sim X.K w0 nt S β fp a w) (hd : slot dst nt) {t : TypeId} {x : Operand} (h : ev X ⟨dst, .load t x, ty, pos, aft, gd⟩ S k = some r) : Goal P X w0 nt k r Q ⟨dst, .load t x, ty, pos, aft, gd⟩ a w := by
  simp only [ev] at h
  split at h
  · rename_i tk l ht hx
    obtain ⟨ls, p, hk, hv, hc⟩ := cells_ok hs (sv_one (opd_ok hs hx)) h
    split at hk
    · rename_i v hm
      obtain ⟨u, hr, hok⟩ := load_sv (hX.tk _ _ ht) hm hc
      refine wp_value (v := u) ?_ (next_put hs hd hok hk)
      simp [execOp, Instr.loadAt, hv, Instr.sureAddr, hr]
    · cases hk
  · cases h

/-- A field of a value. -/
theorem s_field (hX : XOk P X) (hs : Sim X.K w0 nt S β fp a w) (hd : slot dst nt) {t : TypeId} {x : Operand} {f : Nat} (h : ev X ⟨dst, .field t x f, ty, pos, aft, gd⟩ S k = some r) : Goal P X w0 nt k r Q ⟨dst, .field t x f, ty, pos, aft, gd⟩ a w := by
  simp only [ev] at h
  split at h
  · rename_i fs zs ls ht hx
    obtain ⟨vs, hv, hlen, hok⟩ := opd_ok hs hx
    obtain ⟨_, fields, hu, hl, hF⟩ := hX.tk _ _ ht
    split at h
    · rename_i off n hf
      obtain ⟨fl, i, h1, h2, h3, h4, h5, d, h6, h7⟩ := hF f off n true hf
      have hrun : (execOp a.eval ⟨dst, .field t x f, ty, pos, aft, gd⟩).run P w = .ok (.value (.agg ((vs.drop off).take n).toArray)) w := by
        have hag : (isAgg fl.type).run P w = .ok true w := by
          simp only [isAgg, Sem.run_bind, run_under h6, Result.andThen_ok]
          cases d <;> simp at h7 <;> rfl
        simp [execOp, hv, Instr.field, run_under hu, h1, part, hag, asAgg, sizeOf, typeInfo, h3, h4, h2]
      refine wp_value hrun (next_put hs hd (v := .agg ((ls.drop off).take n)) ⟨_, rfl, by simp [hlen], fun i l hi => ?_⟩ h)
      rw [List.getElem?_take] at hi
      split at hi
      · rename_i hlt
        have hi := drop_get hi
        have := hok (off + i) l hi
        have e : ((vs.drop off).take n).getD i undef = vs.getD (off + i) undef := by simp [List.getD, List.getElem?_take, hlt]
        rw [e]
        exact this
      · cases hi
    · rename_i off n hf
      split at h
      · rename_i l hl'
        obtain ⟨fl, i, h1, h2, h3, h4, h5, d, h6, h7⟩ := hF f off n false hf
        have hlt : off < vs.length := by rw [hlen]; exact idx_lt hl'
        have hrun : (execOp a.eval ⟨dst, .field t x f, ty, pos, aft, gd⟩).run P w = .ok (.value (vs.getD off undef)) w := by
          have hag : (isAgg fl.type).run P w = .ok false w := by
            simp only [isAgg, Sem.run_bind, run_under h6, Result.andThen_ok]
            cases d <;> simp at h7 <;> rfl
          simp [execOp, hv, Instr.field, run_under hu, h1, part, hag, asAgg, h2, List.getD, hlt]
        exact wp_value hrun (next_put hs hd (v := .one l) (hok off l hl') h)
      · cases h
    · cases h
  · cases h

theorem setAt_eq {α : Type} : ∀ (r l : List α) (o : Nat), o + r.length ≤ l.length → setAt l o r = l.take o ++ r ++ l.drop (o + r.length)
  | [], l, o, _ => by simp [setAt]
  | v :: r, l, o, h => by
    have h' : o + 1 + r.length ≤ (l.set o v).length := by simp at h ⊢; omega
    have ho : o < l.length := by simp at h; omega
    rw [setAt, setAt_eq r (l.set o v) (o + 1) h']
    have e1 : (l.set o v).take (o + 1) = l.take o ++ [v] := by
      rw [List.take_succ_eq_append_getElem (by simpa using ho)]
      simp [List.take_set_of_le (Nat.le_refl o)]
    have e2 : (l.set o v).drop (o + 1 + r.length) = l.drop (o + (r.length + 1)) := by
      rw [List.drop_set_of_lt (by omega)]
      congr 1; omega
    rw [e1, e2]
    simp
theorem setAt_len {α : Type} : ∀ (r l : List α) (o : Nat), (setAt l o r).length = l.length
  | [], l, o => rfl
  | v :: r, l, o => by rw [setAt, setAt_len]; simp

theorem splice_get {α : Type} {l r : List α} {o : Nat} (h : o + r.length ≤ l.length) (i : Nat) : (l.take o ++ r ++ l.drop (o + r.length))[i]? = if i < o then l[i]? else if i < o + r.length then r[i - o]? else l[i]? := by
  have hlen : (l.take o).length = o := by simp; omega
  by_cases h1 : i < o
  · rw [if_pos h1, List.getElem?_append_left (by simp; omega), List.getElem?_append_left (by rw [hlen]; exact h1), List.getElem?_take, if_pos h1]
  · rw [if_neg h1]
    by_cases h2 : i < o + r.length
    · rw [if_pos h2, List.getElem?_append_left (by simp; omega), List.getElem?_append_right (by rw [hlen]; omega), hlen]
    · rw [if_neg h2, List.getElem?_append_right (by simp; omega), List.getElem?_drop]
      congr 1
      simp
      omega

theorem lfs_splice {K : Cd C} {objs : Objs C} {stb : Nat → Prop} {ls r : List (Lf C)} {vs us : List Value} (h : LfsOk K w objs β fp stb ls vs) (h' : LfsOk K w objs β fp stb r us) {o : Nat} (ho : o + r.length ≤ ls.length) :
    LfsOk K w objs β fp stb (setAt ls o r) (vs.take o ++ us ++ vs.drop (o + us.length)) := by
  have ho' : o + us.length ≤ vs.length := by rw [h.1, h'.1]; exact ho
  refine ⟨by simp [setAt_len]; have := h.1; omega, fun i l hi => ?_⟩
  rw [setAt_eq _ _ _ ho, splice_get ho] at hi
  rw [List.getD_eq_getElem?_getD, splice_get ho']
  rw [h'.1]
  split at hi
  · rename_i h1
    rw [if_pos h1]
    have := h.2 i l hi
    rwa [List.getD_eq_getElem?_getD] at this
  · rename_i h1
    rw [if_neg h1]
    split at hi
    · rename_i h2
      rw [if_pos h2]
      have := h'.2 (i - o) l hi
      rwa [List.getD_eq_getElem?_getD] at this
    · rename_i h2
      rw [if_neg h2]
      have := h.2 i l hi
      rwa [List.getD_eq_getElem?_getD] at this

theorem below_setRow {w0 : World} (g : Nat) (cs : Array Value) (hg : w0.heap.size ≤ g) : Below w0.heap.size w (w.setRow g cs) :=
  ⟨rfl, rfl, rfl, by simp, fun k hk => setRow_other w g k cs (by omega)⟩

theorem run_storeVar {K : Cd C} {T : TypeId} {tk : TK Ty} (hT : TFact P K T tk) {v : Value} (hv : v.cells.size = tk.size) (p : Addr) : (storeVar T p v).run P w = (storeCells p v.cells.toList).run P w := by
  simp [storeVar, hT.size, hv]

/-- A store into a variable in memory. -/
theorem store_box (hs : Sim X.K w0 nt S β fp a w) {id off : Nat} {ls r' : List (Lf C)} (ho : lk S.objs id = some (.box .mem ls)) {us : List Value} (hr : LfsOk X.K w S.objs β fp (stbOf S.objs fp w) r' us) (hoff : off + r'.length ≤ ls.length) {b : Nat} (hb : β id = .pointer (some ⟨b, 0, none⟩)) :
    ∃ w', (storeCells ⟨b, off, none⟩ us).run P w = .ok () w' ∧ Sim X.K w0 nt (S.setObj id (.box .mem (setAt ls off r'))) β fp a w' := by
  obtain ⟨b', cs, e, h1, h2, h3, h4⟩ := hs.objs id _ ho
  rw [hb] at h1
  cases h1
  have hus : ∀ v ∈ us, v.oneCell' = true := fun v hv => by
    obtain ⟨i, hi, rfl⟩ := List.getElem_of_mem hv
    have hi' : i < r'.length := by rw [← hr.1]; exact hi
    have := hr.2 i r'[i] (by simp [hi'])
    have e : us.getD i undef = us[i] := by simp [List.getD, hi]
    rw [e] at this
    exact this.cell
  have hcs : cs.size = ls.length := by have := h4.1; simpa using this
  have hst := run_storeCells_at P b off e us 0 cs w h2 (by rw [hr.1, hcs]; simpa using hoff) hus
  simp only [Nat.add_zero] at hst
  have hbl : w0.heap.size ≤ b := (hs.fresh id _ b ho ((h3 b).2 rfl)).1
  refine ⟨_, hst, hs.turnBox ho (below_setRow b _ hbl) (fun k hk => setRow_other w b k _ fun ek => hk ((h3 k).2 ek)) ?_⟩
  refine ⟨b, _, e, hb, setRow_heap w b cs _ e (0, 0) h2, h3, ?_⟩
  have hl := lfs_splice h4 hr hoff
  have hst' : ∀ k, stbOf S.objs fp w k → stbOf ((id, Ob.box .mem (setAt ls off r')) :: S.objs) fp (w.setRow b (cs.toList.take off ++ us ++ cs.toList.drop (off + us.length)).toArray) k ∧ (w.setRow b (cs.toList.take off ++ us ++ cs.toList.drop (off + us.length)).toArray).heap[k]? = w.heap[k]? := fun k hk => by
    refine ⟨⟨by simpa using hk.1, fun j ob hj => ?_⟩, setRow_other w b k _ fun ek => hk.2 id _ ho ((h3 k).2 ek)⟩
    rw [lk_cons] at hj
    split at hj
    · rename_i ej; subst ej; exact hk.2 j _ ho
    · exact hk.2 j ob hj
  refine hl.tr hst' fun j _ => ⟨rfl, fun t xs sh hj => ?_⟩
  rw [lk_cons] at hj
  split at hj
  · cases hj
  · rename_i ej
    exact ⟨hj, fun k hk => ⟨hk, setRow_other w b k _ fun ek => ej (hs.disj j id _ _ k hj ho hk ((h3 k).2 ek))⟩⟩

/-- What has moved in: its rows are own ones that have left the state, or are shared. -/
def AbsOk (K : Cd C) (w0 w : World) (S : St C) (fp : Nat → Nat → Prop) (O : Objs C) (n : Nat) (vs : List Value) (ls' : List (Lf C)) (S' : St C) (b : Bool) : Prop :=
    S'.env = S.env ∧ S'.base = S.base ∧ (∀ id ob, lk S'.objs id = some ob → lk O id = some ob) ∧ ls'.length = n ∧
    ∃ G : Nat → Nat → Prop, (∀ i k, G i k → ∃ id ob, lk O id = some ob ∧ lk S'.objs id = none ∧ fp id k) ∧ (∀ i j k, G i k → G j k → i = j) ∧
      ∀ (i : Nat) (l : Lf C), ls'[i]? = some l → (b = false → Own K w w0.heap.size (G i) l (vs.getD i undef)) ∧ Rep K w (fun k => stbOf S.objs fp w k ∨ G i k) l (vs.getD i undef)

theorem absorb_ok (hs : Sim X.K w0 nt S β fp a w) : ∀ (ls : List (Lf C)) (vs : List Value) (O : Objs C) (ls' : List (Lf C)) (S' : St C) (b : Bool), (∀ id ob, lk O id = some ob → lk S.objs id = some ob) →
    absorb { S with objs := O } ls = some (ls', S', b) → LfsOk X.K w S.objs β fp (stbOf S.objs fp w) ls vs → AbsOk X.K w0 w S fp O ls.length vs ls' S' b := by
  intro ls
  induction ls with
  | nil =>
    intro vs O ls' S' b hO h hl
    simp only [absorb, Option.some.injEq, Prod.mk.injEq] at h
    obtain ⟨rfl, rfl, rfl⟩ := h
    exact ⟨rfl, rfl, fun _ _ h => h, rfl, fun _ _ => False, fun _ _ h => h.elim, fun _ _ _ h => h.elim, fun i l h => by simp at h⟩
  | cons l ls ih =>
    intro vs O ls' S' b hO h hl
    obtain ⟨u, us, rfl⟩ : ∃ u us, vs = u :: us := by
      cases vs with
      | nil => have := hl.1; simp at this
      | cons u us => exact ⟨u, us, rfl⟩
    have hl0 : LfOk X.K w S.objs β fp (stbOf S.objs fp w) l u := hl.2 0 l rfl
    have hl1 : LfsOk X.K w S.objs β fp (stbOf S.objs fp w) ls us := ⟨by have := hl.1; simpa using this, fun i l' hi => hl.2 (i + 1) l' (by simpa using hi)⟩
    -- a cell that is told by itself
    have easy : ∀ (l1 : Lf C) (sh : Bool) (q : Option (List (Lf C) × St C × Bool)), (∀ F, (sh = false → Own X.K w w0.heap.size F l1 u)) → Rep X.K w (stbOf S.objs fp w) l1 u →
        absorb { S with objs := O } ls = q → ∀ ls1 S1 b1, q = some (ls1, S1, b1) → ls' = l1 :: ls1 → S' = S1 → b = (b1 || sh) → AbsOk X.K w0 w S fp O (l :: ls).length (u :: us) ls' S' b := by
      intro l1 sh q hown hrep hq ls1 S1 b1 e1 e2 e3 e4
      subst e1 e2 e3 e4
      obtain ⟨g1, g1', g2, g3, G, g4, g5, g6⟩ := ih us O ls1 _ b1 hO hq hl1
      refine ⟨g1, g1', g2, by simp [g3], fun i k => match i with | 0 => False | i + 1 => G i k, fun i k hk => ?_, fun i j k hi hj => ?_, fun i l' hi => ?_⟩
      · cases i with
        | zero => exact hk.elim
        | succ i => exact g4 i k hk
      · cases i with
        | zero => exact hi.elim
        | succ i => cases j with
          | zero => exact hj.elim
          | succ j => rw [g5 i j k hi hj]
      · cases i with
        | zero =>
          simp at hi
          subst hi
          refine ⟨fun hb => hown _ ?_, hrep.mono fun k hk => .inl hk⟩
          cases sh <;> simp at hb ⊢
        | succ i =>
          have := g6 i l' (by simpa using hi)
          refine ⟨fun hb => this.1 ?_, this.2⟩
          cases b1 <;> simp at hb ⊢
    cases l with
    | ref id p =>
      cases p with
      | cons s p => simp [absorb] at h
      | nil =>
        simp only [absorb] at h
        split at h
        · rename_i t xs ho
          split at h
          · rename_i r' S1 b1 hr
            simp only [Option.some.injEq, Prod.mk.injEq] at h
            obtain ⟨rfl, rfl, rfl⟩ := h
            have hrm : ∀ i ob, lk (rm O id) i = some ob → lk O i = some ob ∧ i ≠ id := fun i ob hi => by
              rw [lk_rm] at hi
              split at hi
              · cases hi
              · rename_i e; exact ⟨hi, e⟩
            obtain ⟨g1, g1', g2, g3, G, g4, g5, g6⟩ := ih us (rm O id) r' S1 b1 (fun i ob hi => hO i ob (hrm i ob hi).1) hr hl1
            have hob : Own X.K w w0.heap.size (fp id) (.row t xs) (β id) := hs.objs id _ (hO _ _ ho)
            have hu : u = β id := hl0.2
            subst hu
            have hgone : lk S1.objs id = none := by
              cases e : lk S1.objs id with
              | none => rfl
              | some ob => exact absurd rfl (hrm id ob (g2 id ob e)).2
            refine ⟨g1, g1', fun i ob hi => (hrm i ob (g2 i ob hi)).1, by simp [g3], fun i k => match i with | 0 => fp id k | i + 1 => G i k, fun i k hk => ?_, fun i j k hi hj => ?_, fun i l' hi => ?_⟩
            · cases i with
              | zero => exact ⟨id, _, ho, hgone, hk⟩
              | succ i =>
                obtain ⟨j, ob, h1, h2, h3⟩ := g4 i k hk
                exact ⟨j, ob, (hrm j ob h1).1, h2, h3⟩
            · cases i with
              | zero => cases j with
                | zero => rfl
                | succ j =>
                  obtain ⟨j', ob, h1, h2, h3⟩ := g4 j k hj
                  have h1 := hrm j' ob h1
                  exact absurd (hs.disj j' id _ _ k (hO _ _ h1.1) (hO _ _ ho) h3 hi) h1.2
              | succ i => cases j with
                | zero =>
                  obtain ⟨j', ob, h1, h2, h3⟩ := g4 i k hi
                  have h1 := hrm j' ob h1
                  exact absurd (hs.disj j' id _ _ k (hO _ _ h1.1) (hO _ _ ho) h3 hj) h1.2
                | succ j => rw [g5 i j k hi hj]
            · cases i with
              | zero => simp at hi; subst hi; exact ⟨fun _ => hob, hob.rep.mono fun k hk => .inr hk⟩
              | succ i => exact g6 i l' (by simpa using hi)
          · cases h
        · cases h
    | nil t =>
      simp only [absorb] at h
      split at h
      · rename_i r' S1 b1 hr
        simp only [Option.some.injEq, Prod.mk.injEq] at h
        obtain ⟨rfl, rfl, rfl⟩ := h
        have hu : u = .slice none 0 0 := hl0
        subst hu
        refine easy (.row t []) false _ (fun F _ => ?_) ?_ hr _ _ _ rfl rfl rfl (by simp)
        · exact .row F t [] _ [] (fun _ _ _ => False) (World.ownsRow_nil ..) (fun g hg => by simp [Value.ownBlock] at hg) (fun _ _ _ h => h.elim) (fun _ _ _ _ _ h => h.elim) (fun j hj => absurd hj (by simp))
        · exact .row t [] none 0 default (fun _ => undef) (Nat.le_refl _) (fun h => absurd rfl h) (fun h => absurd rfl h) (fun j hj => absurd hj (by simp))
      · cases h
    | row t xs =>
      simp only [absorb] at h
      split at h
      · rename_i r' S1 b1 hr
        simp only [Option.some.injEq, Prod.mk.injEq] at h
        obtain ⟨rfl, rfl, rfl⟩ := h
        exact easy (.row t xs) true _ (fun F h => by cases h) hl0 hr _ _ _ rfl rfl rfl (by simp)
      · cases h
    | int ki n =>
      simp only [absorb] at h
      split at h
      · rename_i r' S1 b1 hr
        simp only [Option.some.injEq, Prod.mk.injEq] at h
        obtain ⟨rfl, rfl, rfl⟩ := h
        have hu : u = _ := hl0
        subst hu
        exact easy (.int ki n) false _ (fun F _ => .int ..) (.int ..) hr _ _ _ rfl rfl rfl (by simp)
      · cases h
    | bool c =>
      simp only [absorb] at h
      split at h
      · rename_i r' S1 b1 hr
        simp only [Option.some.injEq, Prod.mk.injEq] at h
        obtain ⟨rfl, rfl, rfl⟩ := h
        have hu : u = _ := hl0
        subst hu
        exact easy (.bool c) false _ (fun F _ => .bool ..) (.bool ..) hr _ _ _ rfl rfl rfl (by simp)
      · cases h
    | str c =>
      simp only [absorb] at h
      split at h
      · rename_i r' S1 b1 hr
        simp only [Option.some.injEq, Prod.mk.injEq] at h
        obtain ⟨rfl, rfl, rfl⟩ := h
        have hu : u = _ := hl0
        subst hu
        exact easy (.str c) false _ (fun F _ => .str ..) (.str ..) hr _ _ _ rfl rfl rfl (by simp)
      · cases h
    | fnc c =>
      simp only [absorb] at h
      split at h
      · rename_i r' S1 b1 hr
        simp only [Option.some.injEq, Prod.mk.injEq] at h
        obtain ⟨rfl, rfl, rfl⟩ := h
        have hu : u = _ := hl0
        subst hu
        exact easy (.fnc c) false _ (fun F _ => .fnc ..) (.fnc ..) hr _ _ _ rfl rfl rfl (by simp)
      · cases h
    | _ => simp [absorb] at h
end
end Go.Proofs.Ytkiognopoigbhaa.Ab
