/- The abstract machine, part 6: operations that leave memory alone, one by one. -/
import Derived.Test.YtkiognopoigbhaaAb5
import Derived.Laws.BytesString
set_option linter.unusedVariables false
set_option linter.unusedSimpArgs false
set_option linter.unusedSectionVars false
namespace Go.Proofs.Ytkiognopoigbhaa.Ab
open Go Go.RowKit

section
variable {Ty : Type} [DecidableEq Ty] {C : Ty → Type}
variable {P : Program} {X : Cx C} {w0 w : World} {nt : Nat} {S : St C} {β : Nat → Value} {fp : Nat → Nat → Prop} {a : Act} {R : Type} {k : St C → Option R} {r : R}
variable {dst : Option Tmp} {ty : TypeId} {pos : String} {aft : Array Edge} {gd : Option (Nat × Bool)} {Q : Exit → Act → World → Prop}

abbrev Goal (P : Program) (X : Cx C) (w0 : World) (nt : Nat) (k : St C → Option R) (r : R) (Q : Exit → Act → World → Prop) (o : Oper) (a : Act) (w : World) : Prop := o.wp P a w (Next X.K w0 nt k r) Q

theorem sv_one {objs : Objs C} {stb : Nat → Prop} {l : Lf C} {v : Value} (h : SVOk X.K w objs β fp stb (.one l) v) : LfOk X.K w objs β fp stb l v := h

theorem s_move (hs : Sim X.K w0 nt S β fp a w) (hd : slot dst nt) {x : Operand} (h : ev X ⟨dst, .move x, ty, pos, aft, gd⟩ S k = some r) : Goal P X w0 nt k r Q ⟨dst, .move x, ty, pos, aft, gd⟩ a w := by
  simp only [ev] at h
  split at h
  · rename_i v hv
    exact wp_value rfl (next_put hs hd (opdT_ok hs hv) h)
  · cases h
theorem s_assign (hs : Sim X.K w0 nt S β fp a w) (hd : slot dst nt) {x : Operand} (h : ev X ⟨dst, .assign x, ty, pos, aft, gd⟩ S k = some r) : Goal P X w0 nt k r Q ⟨dst, .assign x, ty, pos, aft, gd⟩ a w := by
  simp only [ev] at h
  split at h
  · rename_i v hv
    exact wp_value rfl (next_put hs hd (opdT_ok hs hv) h)
  · cases h
theorem s_pick (hs : Sim X.K w0 nt S β fp a w) (hd : slot dst nt) {c x y : Operand} (h : ev X ⟨dst, .pick c x y, ty, pos, aft, gd⟩ S k = some r) : Goal P X w0 nt k r Q ⟨dst, .pick c x y, ty, pos, aft, gd⟩ a w := by
  simp only [ev] at h
  split at h
  · rename_i bc bx by' hc hx hy
    have hc := opd_ok hs hc
    have hx := opd_ok hs hx
    have hy := opd_ok hs hy
    simp only [SVOk, LfOk] at hc hx hy
    refine wp_value (v := .bool (cond bc bx by')) ?_ (next_put hs hd (v := .one (.bool (cond bc bx by'))) rfl h)
    cases bc <;> simp [execOp, hc, hx, hy, asBool]
  · rename_i v hc hv _
    have hc := opd_ok hs hc
    simp only [SVOk, LfOk] at hc
    refine wp_value (v := a.eval x) ?_ (next_put hs hd (opd_ok hs hv) h)
    simp [execOp, hc, asBool]
  · rename_i v hc hv _
    have hc := opd_ok hs hc
    simp only [SVOk, LfOk] at hc
    refine wp_value (v := a.eval y) ?_ (next_put hs hd (opd_ok hs hv) h)
    simp [execOp, hc, asBool]
  · cases h
theorem s_unOp (hs : Sim X.K w0 nt S β fp a w) (hd : slot dst nt) {op : UnOp} {t : TypeId} {x : Operand} (h : ev X ⟨dst, .unOp op t x, ty, pos, aft, gd⟩ S k = some r) : Goal P X w0 nt k r Q ⟨dst, .unOp op t x, ty, pos, aft, gd⟩ a w := by
  simp only [ev] at h
  split at h
  · rename_i b hv
    have hv := opd_ok hs hv
    simp only [SVOk, LfOk] at hv
    refine wp_value (v := .bool (!b)) ?_ (next_put hs hd (v := .one (.bool (!b))) rfl h)
    simp [execOp, hv, Go.Op.unary]
  · rename_i ki n hv
    have hv := opd_ok hs hv
    simp only [SVOk, LfOk] at hv
    refine wp_value (v := .int ki (ki.wrap (0 - n))) ?_ (next_put hs hd (v := .one (.int ki (ki.wrap (0 - n)))) rfl h)
    simp only [execOp, hv, Sem.run_bind, unOp_neg, Result.andThen_ok, Sem.run_pure]
  · cases h
theorem s_fieldAddr (hX : XOk P X) (hs : Sim X.K w0 nt S β fp a w) (hd : slot dst nt) {t : TypeId} {x : Operand} {f : Nat} (h : ev X ⟨dst, .fieldAddr t x f, ty, pos, aft, gd⟩ S k = some r) : Goal P X w0 nt k r Q ⟨dst, .fieldAddr t x f, ty, pos, aft, gd⟩ a w := by
  simp only [ev] at h
  split at h
  · rename_i fs zs l ht hv
    split at h
    · rename_i off n ag hf
      split at h
      · rename_i l' hl
        obtain ⟨p, hp, hok⟩ := addOff_ok hl (opd_ok hs hv)
        refine wp_value (v := .pointer (some (p.add off))) ?_ (next_put hs hd (v := .one l') hok h)
        simp only [execOp, hp, Sem.run_bind, field_addr (hX.tk _ _ ht) hf, Result.andThen_ok, Sem.run_pure]
      · cases h
    · cases h
  · cases h
theorem cond_some {α : Type} {b : Bool} {x : Option α} {y : α} (h : cond b x none = some y) : b = true ∧ x = some y := by
  cases b with
  | true => exact ⟨rfl, h⟩
  | false => cases h
theorem clo_ob (hs : Sim X.K w0 nt S β fp a w) {id f n : Nat} {sh : List (Bool × Nat)} {ls : List (Lf C)} (ho : lk S.objs id = some (.box (.clo f n sh) ls)) : ∃ us, β id = cloV f n sh us ∧ LfsOk X.K w S.objs β fp (stbOf S.objs fp w) ls us := by
  obtain ⟨us, h1, _, h3⟩ := hs.objs id _ ho
  exact ⟨us, h1, h3⟩
theorem ifc_ob (hs : Sim X.K w0 nt S β fp a w) {id t : Nat} {sh : List (Bool × Nat)} {ls : List (Lf C)} (ho : lk S.objs id = some (.box (.ifc t sh) ls)) : ∃ us, β id = ifcV t sh us ∧ LfsOk X.K w S.objs β fp (stbOf S.objs fp w) ls us := by
  obtain ⟨us, h1, _, h3⟩ := hs.objs id _ ho
  exact ⟨us, h1, h3⟩
theorem live_ok (hs : Sim X.K w0 nt S β fp a w) {v : SV C} {u : Value} (hl : liveV S v = true) (hv : SVOk X.K w S.objs β fp (stbOf S.objs fp w) v u) : (∃ f us vs, u = .func (.func f) us vs) ∨ ∃ t x, u = .iface t x := by
  unfold liveV at hl
  split at hl
  · exact .inl ⟨_, _, _, hv⟩
  · rename_i id
    have e : u = β id := hv.2
    split at hl
    · rename_i ho
      obtain ⟨us, h1, _⟩ := clo_ob hs ho
      exact .inl ⟨_, _, _, e.trans h1⟩
    · rename_i ho
      obtain ⟨us, h1, _⟩ := ifc_ob hs ho
      exact .inr ⟨_, _, e.trans h1⟩
    · cases hl
  · cases hl
theorem eq_two {T : TypeId} {u v : Value} {b : Bool} (hne : (Go.Op.equal T u v).run P w = .ok b w) (h1 : (binOp .eql T u v) = (do pure (.bool (← Go.Op.equal T u v)))) (h2 : (binOp .neq T u v) = (do pure (.bool (!(← Go.Op.equal T u v))))) :
    (binOp .eql T u v).run P w = .ok (.bool b) w ∧ (binOp .neq T u v).run P w = .ok (.bool (!b)) w := by
  rw [h1, h2]
  simp only [Sem.run_bind, hne, Result.andThen_ok]
  exact ⟨rfl, rfl⟩
theorem eq_d {T : TypeId} {u v : Value} {b : Bool} (h : ∀ d, (Go.Op.equalIn (d + 1) T u v).run P w = .ok b w) : (Go.Op.equal T u v).run P w = .ok b w := h 9999
theorem nilV_ok (hX : XOk P X) (hs : Sim X.K w0 nt S β fp a w) {T : TypeId} {x y : Lf C} {u v : Value} {b : Bool} (hb : nilV S (X.tk T) x y = some b)
    (hx : LfOk X.K w S.objs β fp (stbOf S.objs fp w) x u) (hy : LfOk X.K w S.objs β fp (stbOf S.objs fp w) y v) {xo yo : Operand} (hc : isConst yo = true) :
    (eqGuard .eql T xo yo u v).run P w = .ok () w ∧ (eqGuard .neq T xo yo u v).run P w = .ok () w ∧ (binOp .eql T u v).run P w = .ok (.bool b) w ∧ (binOp .neq T u v).run P w = .ok (.bool (!b)) w := by
  have hyc : ∃ c, yo = .const c := by cases yo with
    | const c => exact ⟨c, rfl⟩
    | _ => cases hc
  obtain ⟨c, rfl⟩ := hyc
  unfold nilV at hb
  split at hb
  case h_7 => cases hb
  all_goals
    rename_i hT
    obtain ⟨_, d, hd, hdesc⟩ := hX.tk _ _ hT
  · obtain ⟨ms, rfl⟩ := hdesc
    cases hb
    obtain rfl : u = .nilIface := hx
    obtain rfl : v = .nilIface := hy
    exact ⟨by simp [eqGuard], by simp [eqGuard], eq_two (eq_d fun d => by simp [Go.Op.equalIn, run_under hd]) rfl rfl⟩
  · obtain ⟨ms, rfl⟩ := hdesc
    split at hb
    · rename_i ho
      cases hb
      obtain ⟨us, h1, _⟩ := ifc_ob hs ho
      have e : u = _ := hx.2.trans h1
      unfold ifcV at e
      subst e
      obtain rfl : v = .nilIface := hy
      exact ⟨run_eqGuard (by simp) (by simp), run_eqGuard (by simp) (by simp), eq_two (eq_d fun d => by simp [Go.Op.equalIn, run_under hd]) rfl rfl⟩
    · cases hb
  · obtain ⟨p1, p2, p3, rfl⟩ := hdesc
    cases hb
    rename_i o _
    obtain rfl : u = fnV o := hx
    obtain rfl : v = .nilFunc := hy
    cases o with
    | none => exact ⟨run_eqGuard (by simp [fnV]) (by simp [fnV]), run_eqGuard (by simp [fnV]) (by simp [fnV]), eq_two (eq_d fun d => by simp [Go.Op.equalIn, run_under hd, fnV]) rfl rfl⟩
    | some o => exact ⟨run_eqGuard (by simp [fnV]) (by simp [fnV]), run_eqGuard (by simp [fnV]) (by simp [fnV]), eq_two (eq_d fun d => by simp [Go.Op.equalIn, run_under hd, fnV]) rfl rfl⟩
  · obtain ⟨p1, p2, p3, rfl⟩ := hdesc
    split at hb
    · rename_i ho
      cases hb
      obtain ⟨us, h1, _⟩ := clo_ob hs ho
      have e : u = _ := hx.2.trans h1
      unfold cloV at e
      subst e
      obtain rfl : v = .nilFunc := hy
      exact ⟨run_eqGuard (by simp) (by simp), run_eqGuard (by simp) (by simp), eq_two (eq_d fun d => by simp [Go.Op.equalIn, run_under hd]) rfl rfl⟩
    · cases hb
  · obtain ⟨p1, p2, rfl⟩ := hdesc
    cases hb
    obtain rfl : u = .map none := hx
    obtain rfl : v = .map none := hy
    exact ⟨run_eqGuard (by simp) (by simp), run_eqGuard (by simp) (by simp), eq_two (eq_d fun d => by simp [Go.Op.equalIn, run_under hd]) rfl rfl⟩
  · obtain ⟨p1, p2, rfl⟩ := hdesc
    split at hb
    · rename_i ho
      cases hb
      obtain ⟨b, es, h1, _⟩ := hs.objs _ _ ho
      have e : u = _ := hx.2.trans h1
      subst e
      obtain rfl : v = .map none := hy
      exact ⟨run_eqGuard (by simp) (by simp), run_eqGuard (by simp) (by simp), eq_two (eq_d fun d => by simp [Go.Op.equalIn, run_under hd]) rfl rfl⟩
    · cases hb
theorem s_nilCheck (hs : Sim X.K w0 nt S β fp a w) (hd : slot dst nt) {x : Operand} (h : ev X ⟨dst, .nilCheck x, ty, pos, aft, gd⟩ S k = some r) : Goal P X w0 nt k r Q ⟨dst, .nilCheck x, ty, pos, aft, gd⟩ a w := by
  have key : ∀ l, opd S x = some (.one l) → (∃ p, a.eval x = .pointer (some p)) → k (S.put dst (.one l)) = some r → Goal P X w0 nt k r Q ⟨dst, .nilCheck x, ty, pos, aft, gd⟩ a w := by
    intro l hv ⟨p, hp⟩ hk
    refine wp_value (v := a.eval x) ?_ (next_put hs hd (opd_ok hs hv) hk)
    simp [execOp, hp]
  simp only [ev] at h
  split at h
  · rename_i id off hv
    obtain ⟨b, _, e⟩ := sv_one (opd_ok hs hv)
    exact key _ hv ⟨_, e⟩ h
  · rename_i t e off hv
    obtain ⟨b, _, e, _⟩ := sv_one (opd_ok hs hv)
    exact key _ hv ⟨_, e⟩ h
  · rename_i id p i off hv
    have := sv_one (opd_ok hs hv)
    refine key _ hv ?_ h
    cases p with
    | nil => exact this.1
    | cons s p => exact this.1
  · rename_i v _ _ _ hv
    obtain ⟨hl, h⟩ := cond_some h
    refine wp_value (v := a.eval x) ?_ (next_put hs hd (opd_ok hs hv) h)
    have hv' := opd_ok hs hv
    rcases live_ok hs hl hv' with ⟨f, us, vs, e⟩ | ⟨t, u, e⟩ <;> simp [execOp, e]
  · cases h
theorem s_extract (hs : Sim X.K w0 nt S β fp a w) (hd : slot dst nt) {x : Operand} {i : Nat} (h : ev X ⟨dst, .extract x i, ty, pos, aft, gd⟩ S k = some r) : Goal P X w0 nt k r Q ⟨dst, .extract x i, ty, pos, aft, gd⟩ a w := by
  simp only [ev] at h
  split at h
  · rename_i vs hv
    obtain ⟨us, he, hl, hok⟩ := opd_ok hs hv
    have key : ∀ y, vs[i]? = some y → (execOp a.eval ⟨dst, .extract x i, ty, pos, aft, gd⟩).run P w = .ok (.value (us.getD i undef)) w := by
      intro y hy
      have hi : i < us.length := by
        rw [hl]
        rcases Nat.lt_or_ge i vs.length with h | h
        · exact h
        · simp [List.getElem?_eq_none h] at hy
      simp [execOp, he, Instr.extract, hi, List.getD, List.getElem?_eq_getElem hi]
    split at h
    · rename_i l hy
      obtain ⟨l', e, hl'⟩ := hok i _ hy
      cases e
      exact wp_value (key _ hy) (next_put hs hd (v := .one l) hl' h)
    · rename_i ls hy
      obtain ⟨vs', e, hl'⟩ := hok i _ hy
      exact wp_value (key _ hy) (next_put hs hd (v := .agg ls) ⟨vs', e, hl'⟩ h)
    · cases h
  · cases h

theorem cond_some' {α : Type} {b : Bool} {x : Option α} {y : α} (h : cond b none x = some y) : b = false ∧ x = some y := by
  cases b with
  | true => cases h
  | false => exact ⟨rfl, h⟩

theorem idx_lt {α : Type} {xs : List α} {n : Nat} {x : α} (h : xs[n]? = some x) : n < xs.length := by
  rcases Nat.lt_or_ge n xs.length with h' | h'
  · exact h'
  · simp [List.getElem?_eq_none h'] at h
theorem cell_in {n s j i : Nat} (hj : j < n) (hi : i < s) : j * s + i < n * s := by
  calc j * s + i < j * s + s := by omega
    _ = (j + 1) * s := by rw [Nat.succ_mul]
    _ ≤ n * s := Nat.mul_le_mul_right _ hj

/-- An element of a row that is read. -/
theorem elt_ok {objs : Objs C} {stb : Nat → Prop} {t : Ty} {xs : List (C t)} {v : Value} (h : Rep X.K w stb (.row t xs) v) {n : Nat} {x : C t} (hx : xs[n]? = some x) :
    ∃ p c, v = .slice (some p) xs.length c ∧ LfOk X.K w objs β fp stb (.elt t x 0) (.pointer (some (p.add (n * X.K.sz t)))) := by
  cases h with
  | row _ _ A c p U hc hA hcell hrep =>
    have hn := idx_lt hx
    have hne : xs ≠ [] := by intro e; subst e; simp at hn
    obtain ⟨rfl, hb⟩ := hA hne
    refine ⟨p, c, rfl, p.add (n * X.K.sz t), fun i => U (n * X.K.sz t + i), ?_, ?_, fun i hi => ?_, fun i l hl => ?_⟩
    · rw [add_add]; simp
    · rw [add_block]; exact hb
    · rw [add_add]; exact hcell hne _ (cell_in hn hi)
    · exact hrep n hn i l (by
        have : xs[n] = x := by simpa [List.getElem?_eq_getElem hn] using hx
        rw [this]; exact hl)

theorem index_at {t e : TypeId} {sz : Nat} (hu : P.underlying t = some (.slice e)) (hz : (sizeOf e).run P w = .ok sz w) {p : Addr} {len c : Nat} {ki : IntKind} {n : Int} (h0 : 0 ≤ n) (h1 : n < (len : Int)) :
    (Instr.indexAt t (.slice (some p) len c) (.int ki n)).run P w = .ok (.pointer (some (p.add (n.toNat * sz)))) w := by
  simp [Instr.indexAt, asIntOf, run_under hu, h0, h1, hz]

/-- A path's end. -/
theorem path_some {α : Type} {K : Cd C} {p : List (Nat × Nat)} : ∀ {t : Ty} {xs : List (C t)} {k : (t : Ty) → List (C t) → Option α} {r : α}, path K p t xs k = some r → ∃ (t' : Ty) (zs : List (C t')), k t' zs = some r := by
  induction p with
  | nil => intro t xs k r h; exact ⟨t, xs, h⟩
  | cons s p ih =>
    intro t xs k r h
    obtain ⟨i, o⟩ := s
    simp only [path] at h
    cases hx : xs[i]? with
    | none => rw [hx] at h; cases h
    | some x =>
      rw [hx] at h
      simp only [Option.bind_some] at h
      split at h
      · exact ih h
      · cases h
theorem path_pres {α : Type} {K : Cd C} {F : Nat → Prop} {p : List (Nat × Nat)} {t : Ty} {xs : List (C t)} {v : Value} {t' : Ty} {zs : List (C t')} {v' : Value} (hp : PRes K w F t xs v p t' zs v') {k : (t : Ty) → List (C t) → Option α} {r : α} (h : path K p t xs k = some r) : k t' zs = some r := by
  induction hp with
  | nil => exact h
  | cons t xs v i o x t1 ys a n c v1 p t' zs v' hx hl hv hF hc _ ih =>
    simp only [path, hx, Option.bind_some, hl] at h
    exact ih h

/-- The header of a slice that is named. -/
theorem sli_head (hs : Sim X.K w0 nt S β fp a w) {l : Lf C} {v : Value} (hv : LfOk X.K w S.objs β fp (stbOf S.objs fp w) l v) {α : Type} {k' : (t : Ty) → List (C t) → Option α} {q : α} (h : Sli S X l k' = some q) :
    ∃ (t : Ty) (xs : List (C t)) (A : Option Addr) (c : Nat), k' t xs = some q ∧ v = .slice A xs.length c ∧ (0 < xs.length → ∃ g, A = some g) := by
  cases l with
  | row t xs =>
    obtain ⟨A, c, e, hA⟩ := Rep.head hv
    exact ⟨t, xs, A, c, h, e, hA⟩
  | nil t => exact ⟨t, [], none, 0, h, hv, fun h => absurd h (by simp)⟩
  | ref id p =>
    simp only [Sli] at h
    split at h
    · rename_i t xs sh ho
      have hob := hs.objs id _ ho
      cases p with
      | nil =>
        obtain ⟨A, c, e, hA⟩ := ob_head hob
        exact ⟨t, xs, A, c, h, hv.2.trans e, fun h => (hA h).elim fun g hg => ⟨_, hg⟩⟩
      | cons s p =>
        obtain ⟨hsh, t', zs, hp⟩ := hv.2 t xs sh ho
        subst hsh
        obtain ⟨G, _, hO⟩ := pres_own hp _ hob
        obtain ⟨A, c, e, hA⟩ := hO.head
        exact ⟨t', zs, A, c, path_pres hp h, e, fun h => (hA h).elim fun g hg => ⟨_, hg⟩⟩
    · cases h
  | _ => simp [Sli] at h

theorem sli_rep (hs : Sim X.K w0 nt S β fp a w) {l : Lf C} {v : Value} (hv : LfOk X.K w S.objs β fp (stbOf S.objs fp w) l v) {α : Type} {k' : (t : Ty) → List (C t) → Option α} {q : α} (h : Sli S X l k' = some q) :
    ∃ (t : Ty) (xs : List (C t)) (F : Nat → Prop), k' t xs = some q ∧ Rep X.K w F (.row t xs) v := by
  cases l with
  | row t xs => exact ⟨t, xs, _, h, hv⟩
  | nil t =>
    have e : v = .slice none 0 0 := hv
    subst e
    exact ⟨t, [], fun _ => False, h, .row t [] none 0 default (fun _ => undef) (Nat.le_refl _) (fun h => absurd rfl h) (fun h => absurd rfl h) (fun j hj => absurd hj (by simp))⟩
  | ref id p =>
    simp only [Sli] at h
    split at h
    · rename_i t xs sh ho
      have hob := hs.objs id _ ho
      cases p with
      | nil =>
        have e : v = β id := hv.2
        subst e
        cases sh with
        | false => exact ⟨t, xs, _, h, Own.rep hob⟩
        | true =>
          obtain ⟨cells, h1, h2, h3⟩ := hob
          by_cases hx : xs = []
          · subst hx
            obtain ⟨A, c, e, _⟩ := owns_head h1
            rw [e]
            exact ⟨t, [], fun _ => False, h, .row t [] A c default (fun _ => undef) (Nat.zero_le _) (fun h => absurd rfl h) (fun h => absurd rfl h) (fun j hj => absurd hj (by simp))⟩
          · obtain ⟨g, cap, e, hb, hn, hcell⟩ := own_at h1 (Nat.mul_pos (List.length_pos_iff.2 hx) (X.K.pos t))
            rw [e]
            refine ⟨t, xs, fun _ => True, h, .row t xs _ cap ⟨g, 0, none⟩ (fun m => cells.getD m undef) hn (fun _ => ⟨rfl, trivial⟩) (fun _ => hcell) fun j hj i l hl => ?_⟩
            exact (h3 j xs[j] (by simp [hj]) i l hl).mono fun k hk => trivial
      | cons s p =>
        obtain ⟨hsh, t', zs, hp⟩ := hv.2 t xs sh ho
        subst hsh
        obtain ⟨G, _, hO⟩ := pres_own hp _ hob
        exact ⟨t', zs, G, path_pres hp h, hO.rep⟩
    · cases h
  | _ => simp [Sli] at h

theorem run_eq_sli {T e : TypeId} (hu : P.underlying T = some (.slice e)) (A : Option Addr) (n c : Nat) : (Go.Op.equal T (.slice A n c) (.slice none 0 0)).run P w = .ok A.isNone w := by
  have : ∀ d, (Go.Op.equalIn (d + 1) T (.slice A n c) (.slice none 0 0)).run P w = .ok A.isNone w := fun d => by
    cases A <;> simp [Go.Op.equalIn, run_under hu]
  exact this 9999
theorem nilq_ok {α : Type} {e b : Bool} {f : Bool → Option α} {q : α} (h : nilq e (f true) (f false) = some q) (hb : b = true → e = true) : f b = some q := by
  unfold nilq at h
  cases e with
  | false =>
    have : b = false := by cases b with
      | false => rfl
      | true => cases hb rfl
    subst this; exact h
  | true =>
    simp only [cond_true, alt] at h
    cases h1 : f true with
    | none => rw [h1] at h; cases h
    | some x =>
      cases h2 : f false with
      | none => rw [h1, h2] at h; cases h
      | some y =>
        rw [h1, h2] at h
        simp only [Option.bind_some] at h
        split at h
        · rename_i e
          cases h
          cases b with
          | true => exact h1
          | false => rw [h2, e]
        · cases h
theorem nil_ok (hX : XOk P X) (hs : Sim X.K w0 nt S β fp a w) {T : TypeId} {op : BinOp} {x : SV C} {u : Value} {α : Type} {f : SV C → Option α} {q : α} {xo yo : Operand}
    (h : nilB (X.tk T) X S op x f = some q) (hx : SVOk X.K w S.objs β fp (stbOf S.objs fp w) x u) :
    ∃ b, (do eqGuard op T xo yo u (.slice none 0 0); binOp op T u (.slice none 0 0) : Sem Value).run P w = .ok (.bool b) w ∧ f (.one (.bool b)) = some q := by
  have run : ∀ (A : Option Addr) (n c : Nat) (t : Ty), X.tk T = some (.one (.sli t)) → u = .slice A n c → ∀ eq : Bool, op = (if eq then .eql else .neq) →
      (do eqGuard op T xo yo u (.slice none 0 0); binOp op T u (.slice none 0 0) : Sem Value).run P w = .ok (.bool (eq == A.isNone)) w := by
    intro A n c t ht hu eq ho
    subst hu
    have hg : (eqGuard op T xo yo (.slice A n c) (.slice none 0 0)).run P w = .ok () w := run_eqGuard (by simp) (by simp)
    simp only [Sem.run_bind, hg, Result.andThen_ok]
    have := run_eq_sli (P := P) (w := w) (hX.tk _ _ ht).sli A n c
    subst ho
    cases eq <;> simp [binOp, this] <;> cases A <;> rfl
  have sli : ∀ (eq : Bool) (l : Lf C) (t : Ty), X.tk T = some (.one (.sli t)) → LfOk X.K w S.objs β fp (stbOf S.objs fp w) l u → op = (if eq then .eql else .neq) →
      (Sli S X l fun _ xs => nilq xs.isEmpty (f (.one (.bool (eq == true)))) (f (.one (.bool (eq == false))))) = some q →
      ∃ b, (do eqGuard op T xo yo u (.slice none 0 0); binOp op T u (.slice none 0 0) : Sem Value).run P w = .ok (.bool b) w ∧ f (.one (.bool b)) = some q := by
    intro eq l t ht hl ho h
    obtain ⟨t', xs, A, c, h, hv, hA⟩ := sli_head hs hl h
    refine ⟨eq == A.isNone, run A _ c t ht hv eq ho, ?_⟩
    refine nilq_ok (f := fun b => f (.one (.bool (eq == b)))) h (fun hn => ?_)
    cases xs with
    | nil => rfl
    | cons y ys =>
      obtain ⟨g, hg⟩ := hA (by simp)
      rw [hg] at hn; cases hn
  unfold nilB at h
  split at h
  · rename_i t t' ht
    have hu : u = .slice none 0 0 := hx
    split at h
    · exact ⟨_, run none 0 0 _ ht hu true rfl, h⟩
    · exact ⟨_, run none 0 0 _ ht hu false rfl, h⟩
    · cases h
  · rename_i t l hne ht
    split at h
    · exact sli true l t ht hx rfl h
    · exact sli false l t ht hx rfl h
    · cases h
  · cases h

theorem str_of_run {K : Cd C} {F : Nat → Prop} {t : Ty} {xs : List (C t)} {v : Value} {src dst' : TypeId} (hb : K.byte t = true) (h : Rep K w F (.row t xs) v)
    (hu : P.underlying src = some (.slice (K.tid t))) (hue : P.underlying (K.tid t) = some (.int .u8)) (hus : P.underlying dst' = some .string) :
    (convert src dst' v).run P w = .ok (.string (strOf K t xs)) w := by
  have hsz : K.sz t = 1 := by
    have z := K.zero t
    obtain ⟨n, hn⟩ := K.enc_byte t hb z
    rw [← K.enc_len t z, hn]; rfl
  cases h with
  | row _ _ A c p U hc hA hcell hrep =>
    rw [run_convert_bytes_string (e := K.tid t) w src dst' A _ c hu hue hus]
    by_cases hx : xs = []
    · subst hx
      cases A with
      | none => simp [Conv.bytesToString, strOf]; rfl
      | some q =>
        have hl : (loadCells q ([] : List (C t)).length).run P w = .ok ((([] : List Int)).map (Value.int .u8)).toArray w := by simp [loadCells, loadCellsFrom]
        rw [run_bytesToString w q _ c [] hl]
        rfl
    · obtain ⟨e, _⟩ := hA hx
      subst e
      let nOf : List (Lf C) → Int := fun ls => match ls with
        | .int _ n :: _ => n
        | _ => 0
      have hU : ∀ j, (hj : j < xs.length) → U j = .int .u8 (nOf (K.enc t xs[j])) := fun j hj => by
        obtain ⟨n, hn⟩ := K.enc_byte t hb xs[j]
        have := hrep j hj 0 (.int .u8 n) (by rw [hn]; rfl)
        rw [hsz] at this
        simp only [Nat.mul_one, Nat.add_zero] at this
        rw [hn]
        generalize U j = z at this
        cases this
        rfl
      have hl : (loadCells p xs.length).run P w = .ok ((xs.map fun x => nOf (K.enc t x)).map (Value.int .u8)).toArray w := by
        rw [run_loadCells w p xs.length U (fun j hj => hcell hx j (by rw [hsz]; omega))]
        congr 2
        apply List.ext_getElem
        · simp
        · intro j h1 h2
          have hj : j < xs.length := by simpa using h1
          simp [hU j hj]
      rw [run_bytesToString w p _ c _ hl]
      congr 2
      have fold : ∀ (ns : List Int) (acc : ByteArray), (ns.foldl (fun r n => r.push (UInt8.ofNat n.toNat)) acc) = ⟨acc.data ++ (ns.map fun n => UInt8.ofNat n.toNat).toArray⟩ := by
        intro ns
        induction ns with
        | nil => intro acc; simp
        | cons n ns ih =>
          intro acc
          rw [List.foldl_cons, ih]
          simp [ByteArray.push]
      rw [fold]
      show _ = strOf K t xs
      unfold strOf
      congr 1
      simp only [List.map_map]
      have : (xs.map ((fun n => UInt8.ofNat n.toNat) ∘ fun x => nOf (K.enc t x))) = xs.map fun x => byteOf (K.enc t x) := by
        apply List.map_congr_left
        intro x _
        obtain ⟨n, hn⟩ := K.enc_byte t hb x
        simp [hn, byteOf, nOf]
      rw [this]
      simp

theorem s_convert (hX : XOk P X) (hs : Sim X.K w0 nt S β fp a w) (hd : slot dst nt) {t t' : TypeId} {x : Operand} (h : ev X ⟨dst, .convert t t' x, ty, pos, aft, gd⟩ S k = some r) : Goal P X w0 nt k r Q ⟨dst, .convert t t' x, ty, pos, aft, gd⟩ a w := by
  simp only [ev] at h
  split at h
  · rename_i k1 k' k0 n h1 h2 hv
    have hv := opd_ok hs hv
    simp only [SVOk, LfOk] at hv
    obtain ⟨ds, hds⟩ := (hX.tk _ _ h1).under
    refine wp_value (v := .int k' (k'.wrap n)) ?_ (next_put hs hd (v := .one (.int k' (k'.wrap n))) rfl h)
    simp only [execOp, hv, Sem.run_bind, convert_int hds (hX.tk _ _ h2).int, Result.andThen_ok, Sem.run_pure]
  · rename_i k1 s h1 h2 hv
    have hv := opd_ok hs hv
    simp only [SVOk, LfOk] at hv
    obtain ⟨ds, hds⟩ := (hX.tk _ _ h1).under
    refine wp_value (v := .string s) ?_ (next_put hs hd (v := .one (.str s)) rfl h)
    simp only [execOp, hv, Sem.run_bind, convert_str hds (hX.tk _ _ h2).str, Result.andThen_ok, Sem.run_pure]
  · rename_i t1 l h1 h2 hv
    obtain ⟨t0, xs, F, h, hrep⟩ := sli_rep hs (sv_one (opd_ok hs hv)) h
    obtain ⟨he, h⟩ := cond_some h
    have he := of_decide_eq_true he
    subst he
    obtain ⟨hb, h⟩ := cond_some h
    split at h
    · rename_i htk
      refine wp_value (v := .string (strOf X.K t0 xs)) ?_ (next_put hs hd (v := .one (.str (strOf X.K t0 xs))) rfl h)
      have hu := (hX.tk _ _ h1).sli
      have hue := (hX.tk _ _ htk).int
      have hus := (hX.tk _ _ h2).str
      simp only [execOp, Sem.run_bind]
      rw [str_of_run hb hrep hu hue hus]
      rfl
    · cases h
  · cases h
theorem s_binOp (hX : XOk P X) (hs : Sim X.K w0 nt S β fp a w) (hd : slot dst nt) {op : BinOp} {t t' : TypeId} {x y : Operand} (h : ev X ⟨dst, .binOp op t x y t', ty, pos, aft, gd⟩ S k = some r) : Goal P X w0 nt k r Q ⟨dst, .binOp op t x y t', ty, pos, aft, gd⟩ a w := by
  simp only [ev] at h
  split at h
  · rename_i u t1 hu hv
    have hx := opdT_ok hs hu
    have hy : a.eval y = .slice none 0 0 := opdT_ok hs hv
    obtain ⟨b, hb, hk⟩ := nil_ok (P := P) hX hs h hx
    refine wp_value (v := .bool b) ?_ (next_put hs hd (v := .one (.bool b)) rfl hk)
    simp only [execOp]
    rw [hy, Sem.run_bind, hb]
    rfl
  · rename_i u v _ hu hv
    cases hnk : isNilK v with
    | true =>
      rw [hnk] at h
      simp only [cond_true, cmpNil] at h
      split at h
      case h_2 => cases h
      rename_i x' y'
      split at h
      case h_3 => cases h
      · rename_i b hb hc
        obtain ⟨q1, q2, q3, q4⟩ := nilV_ok (P := P) hX hs hb (opdT_ok hs hu) (opdT_ok hs hv) (xo := x) (yo := y) hc
        refine wp_value (v := .bool b) ?_ (next_put hs hd (v := .one (.bool b)) rfl h)
        simp only [execOp]
        rw [Sem.run_bind, Sem.run_bind, q1]
        simp only [Result.andThen_ok, q3]
        rfl
      · rename_i b hb hc
        obtain ⟨q1, q2, q3, q4⟩ := nilV_ok (P := P) hX hs hb (opdT_ok hs hu) (opdT_ok hs hv) (xo := x) (yo := y) hc
        refine wp_value (v := .bool (!b)) ?_ (next_put hs hd (v := .one (.bool (!b))) rfl h)
        simp only [execOp]
        rw [Sem.run_bind, Sem.run_bind, q2]
        simp only [Result.andThen_ok, q4]
        rfl
    | false =>
    rw [hnk] at h
    simp only [cond_false] at h
    obtain ⟨z, q, hr, hz, hk⟩ := bin_ok (P := P) (xo := x) (yo := y) (fun k hk => hX.tk _ _ hk) h (opdT_ok hs hu) (opdT_ok hs hv)
    refine wp_value (v := q) ?_ (next_put hs hd hz hk)
    simp only [execOp]
    rw [Sem.run_bind, hr]
    rfl
  · cases h
theorem s_indexAddr (hX : XOk P X) (hs : Sim X.K w0 nt S β fp a w) (hd : slot dst nt) {t : TypeId} {x y : Operand} (h : ev X ⟨dst, .indexAddr t x y, ty, pos, aft, gd⟩ S k = some r) : Goal P X w0 nt k r Q ⟨dst, .indexAddr t x y, ty, pos, aft, gd⟩ a w := by
  simp only [ev] at h
  split at h
  · rename_i t1 t0 xs ki n ht hx hy
    obtain ⟨e, hA⟩ := cond_some h
    obtain ⟨h0, hB⟩ := cond_some hA
    clear h hA
    have e := of_decide_eq_true e
    have h0 := of_decide_eq_true h0
    subst e
    have h := hB
    clear hB
    cases he : xs[n.toNat]? with
    | none => rw [he] at h; cases h
    | some e =>
      rw [he] at h
      simp only [Option.bind_some] at h
      have hn := idx_lt he
      have hy := opd_ok hs hy
      simp only [SVOk, LfOk] at hy
      obtain ⟨p, c, hv, hok⟩ := elt_ok (objs := S.objs) (β := β) (fp := fp) (sv_one (opd_ok hs hx)) he
      refine wp_value (v := .pointer (some (p.add (n.toNat * X.K.sz t0)))) ?_ (next_put hs hd (v := .one (.elt t0 e 0)) hok h)
      simp only [execOp, hv, hy, Sem.run_bind, index_at (hX.tk _ _ ht).sli (hX.el t0).size h0 (show n < (xs.length : Int) by omega), Result.andThen_ok, Sem.run_pure]
  · rename_i t1 id p ki n ht hx hy
    obtain ⟨h0, h⟩ := cond_some h
    have h0 := of_decide_eq_true h0
    have hy := opd_ok hs hy
    simp only [SVOk, LfOk] at hy
    have hx := sv_one (opd_ok hs hx)
    have run : ∀ (zs : Nat) (A : Option Addr) (c : Nat), a.eval x = .slice A zs c → n < (zs : Int) → ∀ g, A = some g →
        (execOp a.eval ⟨dst, .indexAddr t x y, ty, pos, aft, gd⟩).run P w = .ok (.value (.pointer (some (g.add (n.toNat * X.K.sz t1))))) w := by
      intro zs A c hv hn g hg
      subst hg
      simp only [execOp, hv, hy, Sem.run_bind, index_at (hX.tk _ _ ht).sli (hX.el t1).size h0 hn, Result.andThen_ok, Sem.run_pure]
    simp only [Sli] at h
    split at h
    · rename_i t xs sh ho
      have hob := hs.objs id _ ho
      cases p with
      | nil =>
        obtain ⟨e, hC⟩ := cond_some (show cond (decide (t = t1)) (cond (decide (n < (xs.length : Int))) (k (S.put dst (.one (.ep id [] n.toNat 0)))) none) none = some r from h)
        obtain ⟨h1, hB⟩ := cond_some hC
        clear h hC
        have e := of_decide_eq_true e
        have h1 := of_decide_eq_true h1
        subst e
        have h := hB
        clear hB
        obtain ⟨A, c, he, hA⟩ := ob_head hob
        obtain ⟨g, rfl⟩ := hA (by omega)
        refine wp_value (run _ _ c (hx.2.trans he) h1 _ rfl) (next_put hs hd (v := .one (.ep id [] n.toNat 0)) ⟨⟨_, rfl⟩, fun t' xs' sh' ho' => ?_⟩ h)
        rw [ho] at ho'
        cases ho'
        exact ⟨by omega, _, _, c, he, by simp⟩
      | cons s p =>
        obtain ⟨hsh, t', zs, hp⟩ := hx.2 t xs sh ho
        subst hsh
        obtain ⟨e, hC⟩ := cond_some (path_pres hp h)
        obtain ⟨h1, hB⟩ := cond_some hC
        clear h hC
        have e := of_decide_eq_true e
        have h1 := of_decide_eq_true h1
        subst e
        have h := hB
        clear hB
        obtain ⟨G, _, hO⟩ := pres_own hp _ hob
        obtain ⟨A, c, he, hA⟩ := hO.head
        obtain ⟨g, rfl⟩ := hA (by omega)
        refine wp_value (run _ _ c he h1 _ rfl) (next_put hs hd (v := .one (.ep id (s :: p) n.toNat 0)) ⟨⟨_, rfl⟩, fun t0 xs' sh' ho' => ?_⟩ h)
        rw [ho] at ho'
        cases ho'
        exact ⟨rfl, t', zs, _, hp, by omega, _, _, c, he, by simp⟩
    · cases h
  · cases h

theorem s_index (hX : XOk P X) (hs : Sim X.K w0 nt S β fp a w) (hd : slot dst nt) {t : TypeId} {x y : Operand} (h : ev X ⟨dst, .index t x y, ty, pos, aft, gd⟩ S k = some r) : Goal P X w0 nt k r Q ⟨dst, .index t x y, ty, pos, aft, gd⟩ a w := by
  simp only [ev] at h
  split at h
  · rename_i s ki n ht hx hy
    obtain ⟨h0, h⟩ := cond_some h
    obtain ⟨h1, h⟩ := cond_some h
    have h0 := of_decide_eq_true h0
    have h1 := of_decide_eq_true h1
    have hx := opd_ok hs hx
    have hy := opd_ok hs hy
    simp only [SVOk, LfOk] at hx hy
    have hb : n.toNat < s.size := by omega
    have hg : s[n.toNat]? = some (s[n.toNat]'hb) := by simp [hb]
    refine wp_value (v := .int .u8 (sbt s n)) ?_ (next_put hs hd (v := .one (.int .u8 (sbt s n))) rfl h)
    simp only [execOp, hx, hy, Instr.index, asIntOf, Sem.run_bind, Sem.run_pure, Result.andThen_ok, run_under (hX.tk _ _ ht).str, if_pos h0, hg, sbt]
  · cases h

theorem bnd_ok (hs : Sim X.K w0 nt S β fp a w) {n : Nat} {x : Option Operand} {m : Int} (h : bnd S n x = some m) : (x = none ∧ m = n) ∨ ∃ y ki, x = some y ∧ a.eval y = .int ki m := by
  cases x with
  | none => simp [bnd] at h; exact .inl ⟨rfl, h.symm⟩
  | some y =>
    simp only [bnd] at h
    split at h
    · rename_i ki q hq
      cases h
      exact .inr ⟨y, ki, rfl, opd_ok hs hq⟩
    · cases h

theorem bounds_ok (hs : Sim X.K w0 nt S β fp a w) {isS : Bool} {len cap : Nat} {lo hi : Option Operand} {l h : Int} (hl : bnd S 0 lo = some l) (hh : bnd S len hi = some h) (h0 : 0 ≤ l) (h1 : l ≤ h) (h2 : h ≤ (len : Int)) (hc : len ≤ cap) :
    (Instr.sliceBounds isS len cap (lo.map a.eval) (hi.map a.eval) none).run P w = .ok (l.toNat, h.toNat, cap) w := by
  unfold Instr.sliceBounds
  rcases bnd_ok hs hl with ⟨rfl, rfl⟩ | ⟨y, ki, rfl, hy⟩ <;> rcases bnd_ok hs hh with ⟨rfl, rfl⟩ | ⟨z, kj, rfl, hz⟩
  · simp
  · simp [hz, Instr.sliceBound, asIntOf, show 0 ≤ h by omega, show h ≤ (cap : Int) by omega]
  · simp [hy, Instr.sliceBound, asIntOf, h0, h1]
  · have h3 : l ≤ ((h.toNat : Nat) : Int) := by omega
    simp only [Option.map_some, hy, hz, Instr.sliceBound, asIntOf, Sem.run_bind, Sem.run_pure, Result.andThen_ok, if_pos (show 0 ≤ h ∧ h ≤ (cap : Int) by omega), if_pos (show 0 ≤ l ∧ l ≤ ((h.toNat : Nat) : Int) from ⟨h0, h3⟩)]

theorem s_slice (hX : XOk P X) (hs : Sim X.K w0 nt S β fp a w) (hd : slot dst nt) {t : TypeId} {x : Operand} {lo hi mx : Option Operand} (h : ev X ⟨dst, .slice t x lo hi mx, ty, pos, aft, gd⟩ S k = some r) : Goal P X w0 nt k r Q ⟨dst, .slice t x lo hi mx, ty, pos, aft, gd⟩ a w := by
  simp only [ev] at h
  split at h
  · rename_i s ht hx
    split at h
    · rename_i l q hl hq
      obtain ⟨h0, h⟩ := cond_some h
      obtain ⟨h1, h⟩ := cond_some h
      obtain ⟨h2, h⟩ := cond_some h
      have h0 := of_decide_eq_true h0
      have h1 := of_decide_eq_true h1
      have h2 := of_decide_eq_true h2
      have hx := opd_ok hs hx
      simp only [SVOk, LfOk] at hx
      have hb := bounds_ok (P := P) hs (isS := false) hl hq h0 h1 h2 (Nat.le_refl _)
      refine wp_value (v := .string (s.extract l.toNat q.toNat)) ?_ (next_put hs hd (v := .one (.str (s.extract l.toNat q.toNat))) rfl h)
      simp only [execOp, Instr.sliceAt, Sem.run_bind, run_under (hX.tk _ _ ht).str, Result.andThen_ok]
      simp [Instr.slice, run_under (hX.tk _ _ ht).str, hx, hb]
    · cases h
  · rename_i t1 t0 xs ht hx
    split at h
    · rename_i l q hl hq
      obtain ⟨e, hC⟩ := cond_some h
      obtain ⟨h0, hD⟩ := cond_some hC
      obtain ⟨h1, hE⟩ := cond_some hD
      obtain ⟨h2, hB⟩ := cond_some hE
      clear h hC hD hE
      have e := of_decide_eq_true e
      have h0 := of_decide_eq_true h0
      have h1 := of_decide_eq_true h1
      have h2 := of_decide_eq_true h2
      subst e
      have h := hB
      clear hB
      have hx := sv_one (opd_ok hs hx)
      generalize hv : a.eval x = v at hx
      cases hx with
      | row _ _ A c p U hc hA hcell hrep =>
        have hb := bounds_ok (P := P) hs (isS := true) hl hq h0 h1 h2 hc
        have hlen : ((xs.take q.toNat).drop l.toNat).length = q.toNat - l.toNat := by simp; omega
        have hrun : (execOp a.eval ⟨dst, .slice t x lo hi none, ty, pos, aft, gd⟩).run P w = .ok (.value (.slice (if c = l.toNat then A else A.map (·.add (l.toNat * X.K.sz t0))) (q.toNat - l.toNat) (c - l.toNat))) w := by
          simp only [execOp, Instr.sliceAt, Sem.run_bind, run_under (hX.tk _ _ ht).sli, Result.andThen_ok]
          simp [Instr.slice, run_under (hX.tk _ _ ht).sli, hv, hb, (hX.el t0).size]
        refine wp_value hrun (next_put hs hd (v := .one (.row t0 ((xs.take q.toNat).drop l.toNat))) ?_ h)
        show Rep X.K w (stbOf S.objs fp w) (.row t0 ((xs.take q.toNat).drop l.toNat)) (.slice (if c = l.toNat then A else A.map (·.add (l.toNat * X.K.sz t0))) (q.toNat - l.toNat) (c - l.toNat))
        rw [← hlen]
        refine .row t0 _ _ _ (p.add (l.toNat * X.K.sz t0)) (fun m => U (l.toNat * X.K.sz t0 + m)) (by rw [hlen]; omega) (fun hne => ?_) (fun hne m hm => ?_) (fun j hj i lf hlf => ?_)
        · have h5 : 0 < ((xs.take q.toNat).drop l.toNat).length := List.length_pos_iff.2 hne
          have hne' : xs ≠ [] := by intro e; subst e; simp at h5
          obtain ⟨rfl, hb⟩ := hA hne'
          rw [if_neg (by omega)]
          exact ⟨rfl, by rw [add_block]; exact hb⟩
        · have h5 : 0 < ((xs.take q.toNat).drop l.toNat).length := List.length_pos_iff.2 hne
          have hne' : xs ≠ [] := by intro e; subst e; simp at h5
          rw [add_add]
          refine hcell hne' _ ?_
          rw [hlen] at hm
          have : (l.toNat + (q.toNat - l.toNat)) * X.K.sz t0 ≤ xs.length * X.K.sz t0 := Nat.mul_le_mul_right _ (by omega)
          rw [Nat.add_mul] at this
          omega
        · rw [hlen] at hj
          have hj' : l.toNat + j < xs.length := by omega
          have := hrep (l.toNat + j) hj' i lf (by
            have e : ((xs.take q.toNat).drop l.toNat)[j]'(by rw [hlen]; exact hj) = xs[l.toNat + j] := by simp
            rw [← e]; exact hlf)
          rw [Nat.add_mul, Nat.add_assoc] at this
          exact this
    · cases h
  · cases h

theorem s_len (hX : XOk P X) (hs : Sim X.K w0 nt S β fp a w) (hd : slot dst nt) {as : Array Operand} {ts : Array TypeId} (h : ev X ⟨dst, .call { callee := .builtin .len, args := as, argTypes := ts }, ty, pos, aft, gd⟩ S k = some r) : Goal P X w0 nt k r Q ⟨dst, .call { callee := .builtin .len, args := as, argTypes := ts }, ty, pos, aft, gd⟩ a w := by
  obtain ⟨al⟩ := as
  obtain ⟨tl⟩ := ts
  simp only [ev] at h
  split at h
  · rename_i x t
    split at h
    · rename_i s ht hx
      have hx := opd_ok hs hx
      simp only [SVOk, LfOk] at hx
      refine wp_value (v := .int .i64 s.size) ?_ (next_put hs hd (v := .one (.int .i64 s.size)) rfl h)
      simp [execOp, resolve, invoke, builtin, Builtin.len_, run_under (hX.tk _ _ ht).str, hx, goInt]
    · rename_i t1 l ht hx
      obtain ⟨t', xs, A, c, hk, hv, _⟩ := sli_head hs (sv_one (opd_ok hs hx)) h
      refine wp_value (v := .int .i64 xs.length) ?_ (next_put hs hd (v := .one (.int .i64 xs.length)) rfl hk)
      simp [execOp, resolve, invoke, builtin, Builtin.len_, run_under (hX.tk _ _ ht).sli, hv, goInt]
    · cases h
  · cases h
end
end Go.Proofs.Ytkiognopoigbhaa.Ab
