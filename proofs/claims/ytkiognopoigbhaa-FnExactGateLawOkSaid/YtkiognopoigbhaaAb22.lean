/- The abstract machine, part 22: what an operation that writes into nothing does elsewhere. -/
import Derived.Test.YtkiognopoigbhaaAb19
set_option linter.unusedVariables false
set_option linter.unusedSimpArgs false
set_option linter.unusedSectionVars false
namespace Go.Proofs.Ytkiognopoigbhaa.Ab
open Go Go.RowKit

section
variable {Ty : Type} [DecidableEq Ty] {C : Ty → Type}
variable {X : Cx C} {S S' : St C} {R : Type} {r : R}

/-- All that S tells, S' tells too. -/
structure Le (S S' : St C) : Prop where
  base : S'.base = S.base
  env : ∀ t v, lk S.env t = some v → lk S'.env t = some v
  objs : ∀ id ob, lk S.objs id = some ob → lk S'.objs id = some ob

/-- What an operation brings. -/
def eff (S : St C) (dst : Option Tmp) (v : SV C) (news : List (Nat × Ob C)) (dels : List Nat) : St C := St.put { S with objs := news ++ rmAll dels S.objs } dst v

theorem opd_le (h : Le S S') {x : Operand} {v : SV C} (hx : opd S x = some v) : opd S' x = some v := by
  cases x with
  | tmp t => exact h.env t v hx
  | const c =>
    cases c with
    | pointer p => cases p <;> (first | exact hx | simp [opd] at hx)
    | map p => cases p <;> (first | exact hx | simp [opd] at hx)
    | _ => (first | exact hx | simp [opd] at hx)
  | global g => simp [opd] at hx
  | func f => exact hx
theorem opdT_le (h : Le S S') {T : TypeId} {x : Operand} {v : SV C} (hx : opdT X S T x = some v) : opdT X S' T x = some v := by
  unfold opdT at hx ⊢
  split at hx
  · exact hx
  · exact opd_le h hx
theorem Sli_le {l : Lf C} {α : Type} {f : (t : Ty) → List (C t) → Option α} {q : α} (hl : Sli S X l f = some q) : ∃ t xs, f t xs = some q ∧ ∀ {S' : St C}, Le S S' → ∀ {γ : Type} (g : (t : Ty) → List (C t) → Option γ), Sli S' X l g = g t xs := by
  cases l with
  | row t xs => exact ⟨t, xs, hl, fun {S'} h {γ} g => rfl⟩
  | nil t => exact ⟨t, [], hl, fun {S'} h {γ} g => rfl⟩
  | ref id p =>
    simp only [Sli] at hl
    split at hl
    · rename_i t xs sh ho
      have key : ∀ (p : List (Nat × Nat)) (t : Ty) (xs : List (C t)), path X.K p t xs f = some q → ∃ t' zs, f t' zs = some q ∧ ∀ {γ : Type} (g : (t : Ty) → List (C t) → Option γ), path X.K p t xs g = g t' zs := by
        intro p
        induction p with
        | nil => intro t xs h; exact ⟨t, xs, h, fun g => rfl⟩
        | cons s p ih =>
          intro t xs h
          obtain ⟨i, o⟩ := s
          simp only [path] at h
          cases hx : xs[i]? with
          | none => rw [hx] at h; cases h
          | some x =>
            rw [hx] at h
            simp only [Option.bind_some] at h
            split at h
            · rename_i t' ys he
              obtain ⟨t2, zs, h1, h2⟩ := ih t' ys h
              exact ⟨t2, zs, h1, fun g => by simp only [path, hx, Option.bind_some, he]; exact h2 g⟩
            · cases h
      obtain ⟨t', zs, h1, h2⟩ := key p t xs hl
      exact ⟨t', zs, h1, fun {S'} h {γ} g => by simp only [Sli, h.objs id _ ho]; exact h2 g⟩
    · cases hl
  | _ => simp [Sli] at hl
theorem cells_le {l : Lf C} {α : Type} {f : List (Lf C) → Option α} {q : α} (hl : cellsAt X S l f = some q) : ∃ ls, f ls = some q ∧ ∀ {S' : St C}, Le S S' → ∀ {γ : Type} (g : List (Lf C) → Option γ), cellsAt X S' l g = g ls := by
  cases l with
  | ptr id off =>
    simp only [cellsAt] at hl
    split at hl
    · rename_i ls ho
      exact ⟨_, hl, fun {S'} h {γ} g => by simp only [cellsAt, h.objs id _ ho]⟩
    · cases hl
  | elt t x o => exact ⟨_, hl, fun {S'} h {γ} g => rfl⟩
  | ep id p i o =>
    simp only [cellsAt] at hl
    split at hl
    · rename_i t xs sh ho
      have hs : Sli S X (.ref id p) (fun t' ys => Option.bind ys[i]? fun x => f ((inRow id p i (cond p.isEmpty sh false) 0 (X.K.enc t' x)).drop o)) = some q := by simp only [Sli, ho]; exact hl
      obtain ⟨t', zs, h1, h2⟩ := Sli_le hs
      cases hz : zs[i]? with
      | none => rw [hz] at h1; cases h1
      | some x =>
        rw [hz] at h1
        refine ⟨_, h1, fun {S'} h {γ} g => ?_⟩
        have := h2 h (fun t' ys => Option.bind ys[i]? fun x => g ((inRow id p i (cond p.isEmpty sh false) 0 (X.K.enc t' x)).drop o))
        rw [hz] at this
        simp only [Sli, h.objs id _ ho, Option.bind_some] at this
        simp only [cellsAt, h.objs id _ ho]
        exact this
    · cases hl
  | _ => simp [cellsAt] at hl
theorem binL_le {tk : Option (TK Ty)} {op : BinOp} {x y : SV C} {α : Type} {f : SV C → Option α} {q : α} (hl : binL tk op x y f = some q) : ∃ v, f v = some q ∧ ∀ {γ : Type} (g : SV C → Option γ), binL tk op x y g = g v := by
  unfold binL at hl ⊢
  split at hl
  · rename_i ka a kb b
    obtain ⟨e, hl⟩ := cond_some hl
    simp only [e, cond_true]
    split at hl
    · rename_i c hc; exact ⟨_, hl, fun g => by simp only [hc]⟩
    · rename_i hc
      split at hl
      · rename_i n hn; exact ⟨_, hl, fun g => by simp only [hc, hn]⟩
      · rename_i hn
        obtain ⟨e, hl⟩ := cond_some' hl
        split at hl
        · exact ⟨_, hl, fun g => by simp only [hc, hn, e, cond_false]⟩
        · exact ⟨_, hl, fun g => by simp only [hc, hn, e, cond_false]⟩
        · cases hl
  · rename_i a b
    split at hl
    · rename_i c hc; exact ⟨_, hl, fun g => by simp only [hc]⟩
    · rename_i hc
      split at hl
      · obtain ⟨e, hl⟩ := cond_some hl
        exact ⟨_, hl, fun g => by simp only [hc, e, cond_true]⟩
      · cases hl
  · rename_i a b
    split at hl
    · exact ⟨_, hl, fun g => rfl⟩
    · exact ⟨_, hl, fun g => rfl⟩
    · cases hl
  · rename_i x
    split at hl
    · exact ⟨_, hl, fun g => by simp only [*]⟩
    · exact ⟨_, hl, fun g => by simp only [*]⟩
    · cases hl
  · cases hl
theorem bnd_le (h : Le S S') {n : Nat} {x : Option Operand} {i : Int} (hx : bnd S n x = some i) : bnd S' n x = some i := by
  cases x with
  | none => exact hx
  | some x =>
    simp only [bnd] at hx ⊢
    split at hx
    · rename_i k m hm
      rw [opd_le h hm]
      exact hx
    · cases hx
theorem parts_le (h : Le S S') {fs : List (Nat × Nat × Bool)} : ∀ {ps : List (Nat × Operand)} {ls ls' : List (Lf C)}, partsOf X fs S ps ls = some ls' → partsOf X fs S' ps ls = some ls'
  | [], ls, ls', h => h
  | (i, x) :: r, ls, ls', hp => by
    simp only [partsOf] at hp ⊢
    split at hp
    · rename_i off n ag v hf hv
      obtain ⟨e, hp⟩ := cond_some hp
      rw [opd_le h hv]
      simp only [hf, e, cond_true]
      exact parts_le h hp
    · cases hp
theorem viewL_le (h : Le S S') {l l' : Lf C} (hl : viewL S l = some l') : viewL S' l = some l' := by
  cases l with
  | ref id p =>
    cases p with
    | nil =>
      simp only [viewL] at hl ⊢
      split at hl
      · rename_i t xs sh ho
        rw [h.objs id _ ho]
        exact hl
      · cases hl
    | cons s p => simp [viewL] at hl
  | _ => first | exact hl | (simp [viewL] at hl)
theorem viewLs_le (h : Le S S') : ∀ {ls ls' : List (Lf C)}, viewLs S ls = some ls' → viewLs S' ls = some ls'
  | [], ls', hl => hl
  | l :: ls, ls', hl => by
    simp only [viewLs] at hl ⊢
    split at hl
    · rename_i l1 h1
      split at hl
      · rename_i r' h2
        rw [viewL_le h h1, viewLs_le h h2]
        exact hl
      · cases hl
    · cases hl
theorem viewV_le (h : Le S S') {v v' : SV C} (hv : viewV S v = some v') : viewV S' v = some v' := by
  cases v with
  | one l =>
    simp only [viewV] at hv ⊢
    split at hv
    · rename_i l' hl; rw [viewL_le h hl]; exact hv
    · cases hv
  | agg ls =>
    simp only [viewV] at hv ⊢
    split at hv
    · rename_i l' hl; rw [viewLs_le h hl]; exact hv
    · cases hv
  | _ => simp [viewV] at hv
theorem viewLX_le (h : Le S S') {l l' : Lf C} (hl : viewLX X S l = some l') : viewLX X S' l = some l' := by
  unfold viewLX at hl ⊢
  split at hl
  · obtain ⟨t, xs, h1, h2⟩ := Sli_le hl
    rw [h2 h]
    exact h1
  · exact viewL_le h hl
theorem viewLXs_le (h : Le S S') : ∀ {ls ls' : List (Lf C)}, viewLXs X S ls = some ls' → viewLXs X S' ls = some ls'
  | [], ls', hl => hl
  | l :: ls, ls', hl => by
    simp only [viewLXs] at hl ⊢
    split at hl
    · rename_i l1 h1
      split at hl
      · rename_i r' h2
        rw [viewLX_le h h1, viewLXs_le h h2]
        exact hl
      · cases hl
    · cases hl
theorem viewP_le (h : Le S S') {pt : Option Ty} {v v' : SV C} (hv : viewP X S pt v = some v') : viewP X S' pt v = some v' := by
  cases pt with
  | none => exact viewV_le h hv
  | some t =>
    cases v with
    | one l =>
      simp only [viewP] at hv ⊢
      obtain ⟨ls, h1, h2⟩ := cells_le hv
      rw [h2 h]
      split at h1
      · rename_i ls' hls
        rw [viewLXs_le h hls]
        exact h1
      · cases h1
    | _ => exact hv
theorem views_le (h : Le S S') : ∀ {vs : List (SV C)} {pt : List (Option Ty)} {vs' : List (SV C)}, views X S pt vs = some vs' → views X S' pt vs = some vs'
  | [], pt, vs', hv => hv
  | v :: vs, pt, vs', hv => by
    simp only [views] at hv ⊢
    split at hv
    · rename_i v1 h1
      split at hv
      · rename_i r' h2
        rw [viewP_le h h1, views_le h h2]
        exact hv
      · cases hv
    · cases hv
theorem argsI_le (h : Le S S') : ∀ {xs : List Operand} {ts : List TypeId} {vs : List (SV C)}, argsI X S xs ts = some vs → argsI X S' xs ts = some vs
  | [], ts, vs, hx => hx
  | x :: xs, ts, vs, hx => by
    simp only [argsI] at hx ⊢
    split at hx
    · rename_i l hv
      split at hx
      · rename_i us hu; rw [opdT_le h hv, argsI_le h hu]; exact hx
      · cases hx
    · rename_i l hv
      split at hx
      · rename_i us hu; rw [opdT_le h hv, argsI_le h hu]; exact hx
      · cases hx
    · cases hx
theorem argsC_le (h : Le S S') {pt : List (Option Ty)} {pre post : List (SV C)} {xs : List Operand} {ts : List TypeId} {vs : List (SV C)} (hx : argsC X S pt pre xs ts post = some vs) : argsC X S' pt pre xs ts post = some vs := by
  unfold argsC at hx ⊢
  split at hx
  · rename_i us hu
    rw [argsI_le h hu]
    exact views_le h hx
  · cases hx
theorem cloOf_le {l : Lf C} {α : Type} {f : Nat → List (SV C) → List (SV C) → Option α} {q : α} (hl : cloOf S l f = some q) : ∃ n pre post, f n pre post = some q ∧ ∀ {S' : St C}, Le S S' → ∀ {γ : Type} (g : Nat → List (SV C) → List (SV C) → Option γ), cloOf S' l g = g n pre post := by
  cases l with
  | fnc o => cases o with
    | none => cases hl
    | some f' => exact ⟨_, _, _, hl, fun {S'} h {γ} g => rfl⟩
  | vo id =>
    simp only [cloOf] at hl
    split at hl
    · rename_i f' n sh ls ho
      obtain ⟨e, hl⟩ := cond_some hl
      exact ⟨_, _, _, hl, fun {S'} h {γ} g => by simp only [cloOf, h.objs id _ ho, e, cond_true]⟩
    · cases hl
  | _ => cases hl
theorem ifcOf_le {x : Operand} {α : Type} {f : TypeId → SV C → Option α} {q : α} (hl : ifcOf S (opd S x) f = some q) : ∃ t v, f t v = some q ∧ ∀ {S' : St C}, Le S S' → ∀ {γ : Type} (g : TypeId → SV C → Option γ), ifcOf S' (opd S' x) g = g t v := by
  unfold ifcOf at hl
  split at hl
  case h_2 => cases hl
  rename_i id hx
  split at hl
  · rename_i t sh ls ho
    obtain ⟨e, hl⟩ := cond_some hl
    split at hl
    · rename_i v hv
      exact ⟨t, v, hl, fun {S'} h {γ} g => by simp only [ifcOf, opd_le h hx, h.objs id _ ho, e, cond_true, hv]⟩
    · cases hl
  · cases hl
theorem liveV_le (h : Le S S') {v : SV C} (hl : liveV S v = true) : liveV S' v = true := by
  unfold liveV at hl ⊢
  split at hl
  · rfl
  · rename_i id
    split at hl
    · rename_i ho; simp only [h.objs id _ ho]
    · rename_i ho; simp only [h.objs id _ ho]
    · cases hl
  · cases hl
theorem nilV_le (h : Le S S') {tk : Option (TK Ty)} {x y : Lf C} {b : Bool} (hl : nilV S tk x y = some b) : nilV S' tk x y = some b := by
  unfold nilV at hl ⊢
  split at hl
  · exact hl
  · rename_i id
    split at hl
    · rename_i ho; simp only [h.objs id _ ho]; exact hl
    · cases hl
  · exact hl
  · rename_i id
    split at hl
    · rename_i ho; simp only [h.objs id _ ho]; exact hl
    · cases hl
  · exact hl
  · rename_i id
    split at hl
    · rename_i ho; simp only [h.objs id _ ho]; exact hl
    · cases hl
  · cases hl
theorem cmpNil_le {tk : Option (TK Ty)} {op : BinOp} {x y : SV C} {c : Bool} {α : Type} {f : SV C → Option α} {q : α} (hl : cmpNil S tk op x y c f = some q) : ∃ v, f v = some q ∧ ∀ {S' : St C}, Le S S' → ∀ {γ : Type} (g : SV C → Option γ), cmpNil S' tk op x y c g = g v := by
  unfold cmpNil at hl
  split at hl
  case h_2 => cases hl
  split at hl
  · rename_i hb; exact ⟨_, hl, fun {S'} h {γ} g => by simp only [cmpNil, nilV_le h hb]⟩
  · rename_i hb; exact ⟨_, hl, fun {S'} h {γ} g => by simp only [cmpNil, nilV_le h hb]⟩
  · cases hl
theorem mapAt_le {m : MT Ty} {l : Lf C} {key : SV C} {α : Type} {f : (kt vt : Ty) → C kt → List (Nat × C kt × C vt) → Nat → Option α} {q : α} (hl : mapAt X S m l key f = some q) :
    ∃ kt vt x xs c, f kt vt x xs c = some q ∧ ∀ {S' : St C}, Le S S' → ∀ {γ : Type} (g : (kt vt : Ty) → C kt → List (Nat × C kt × C vt) → Nat → Option γ), mapAt X S' m l key g = g kt vt x xs c := by
  unfold mapAt at hl
  obtain ⟨e, hl⟩ := cond_some hl
  split at hl
  · split at hl
    · rename_i x hx
      exact ⟨_, _, x, [], 0, hl, fun {S'} h {γ} g => by simp only [mapAt, e, cond_true, hx]⟩
    · cases hl
  · rename_i id _
    split at hl
    · rename_i mk kt vt xs c ho
      obtain ⟨e2, hl⟩ := cond_some hl
      split at hl
      · rename_i x hx
        exact ⟨_, _, x, xs, c, hl, fun {S'} h {γ} g => by simp only [mapAt, e, cond_true, h.objs id _ ho, e2, hx]⟩
      · cases hl
    · cases hl
  · cases hl
theorem lookV_le {m : MT Ty} {l : Lf C} {key : SV C} {ok : Bool} {α : Type} {f : SV C → Option α} {q : α} (hl : lookV X S m l key ok f = some q) : ∃ v, f v = some q ∧ ∀ {S' : St C}, Le S S' → ∀ {γ : Type} (g : SV C → Option γ), lookV X S' m l key ok g = g v := by
  unfold lookV at hl
  obtain ⟨kt, vt, x, xs, c, h1, h2⟩ := mapAt_le hl
  cases ok with
  | true => exact ⟨_, h1, fun {S'} h {γ} g => by unfold lookV; rw [h2 h]; rfl⟩
  | false => exact ⟨_, h1, fun {S'} h {γ} g => by unfold lookV; rw [h2 h]; rfl⟩
end
end Go.Proofs.Ytkiognopoigbhaa.Ab
