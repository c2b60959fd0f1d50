/- The abstract machine, part 16: calls by contract. -/
import Derived.Test.YtgpopgfidphheaaAb15
set_option linter.unusedVariables false
set_option linter.unusedSimpArgs false
set_option linter.unusedSectionVars false
namespace Go.Proofs.Ytgpopgfidphheaa.Ab
open Go Go.RowKit

section
variable {Ty : Type} [DecidableEq Ty] {C : Ty → Type}
variable {P : Program} {X : Cx C} {w0 w : World} {nt : Nat} {S : St C} {β : Nat → Value} {fp : Nat → Nat → Prop} {a : Act} {R : Type} {k : St C → Option R} {r : R}
variable {dst : Option Tmp} {ty : TypeId} {pos : String} {aft : Array Edge} {gd : Option (Nat × Bool)} {Q : Exit → Act → World → Prop}

/-- An argument of a function that only reads. -/
def ArgOk (K : Cd C) (w : World) (F : Nat → Prop) : SV C → Value → Prop
  | .one l, u => l.plain = true ∧ Rep K w F l u
  | .agg ls, u => ∃ us : List Value, u = .agg us.toArray ∧ us.length = ls.length ∧ ∀ (i : Nat) (l : Lf C), ls[i]? = some l → Rep K w F l (us.getD i undef)
  | _, _ => False

def packOne : Bool × List (Lf C) → List Value → Value
  | (true, _), us => .agg us.toArray
  | (false, _), us => us.headD undef
def packAll : List (Bool × List (Lf C)) → List Value → List Value
  | [], _ => []
  | x :: r, us => packOne x (us.take x.2.length) :: packAll r (us.drop x.2.length)
def pack (rs : List (Bool × List (Lf C))) (us : List Value) : Value := match packAll rs us with
  | [v] => v
  | vs => .tuple vs.toArray
def okRes : List (Bool × List (Lf C)) → Bool
  | [] => true
  | (b, ls) :: r => (b || Nat.beq ls.length 1) && okRes r

/-- Results that are new and the caller's. us: the values of their cells, one behind the other. -/
def ResOk (K : Cd C) (w w' : World) (rs : List (Bool × List (Lf C))) (v : Value) : Prop :=
  ∃ (us : List Value) (G : Nat → Nat → Prop), v = pack rs us ∧ us.length = (flatten rs).length ∧ okRes rs = true ∧
    (∀ m k, G m k → w.heap.size ≤ k ∧ k < w'.heap.size) ∧ (∀ m m' k, G m k → G m' k → m = m') ∧
    ∀ (m : Nat) (l : Lf C), (flatten rs)[m]? = some l → Own K w' w.heap.size (G m) l (us.getD m undef)

def ConOk (P : Program) (K : Cd C) (f : Nat) (c : Con C) : Prop :=
  (∃ fn, P.funcs[f]? = some fn ∧ fn.body.isNone = false ∧ fn.name ≠ "runtime.NumGoroutine") ∧
  ∀ (w : World) (vs : List (SV C)) (us : List Value) (r0 : c.R0), us.length = vs.length → (∀ (i : Nat) (v : SV C), vs[i]? = some v → ArgOk K w (fun k => k < w.heap.size) v (us.getD i undef)) → c.g vs = some r0 →
    Calls P f us.toArray w fun e w' => ∃ v, e = .returned v ∧ Below w.heap.size w w' ∧ ResOk K w w' (c.ret r0) v

theorem viewL_ok (hs : Sim X.K w0 nt S β fp a w) {l l' : Lf C} {v : Value} (h : viewL S l = some l') (hl : LfOk X.K w S.objs β fp (stbOf S.objs fp w) l v) : l'.plain = true ∧ Rep X.K w (fun k => k < w.heap.size) l' v := by
  cases l with
  | ref id p =>
    cases p with
    | cons s p => simp [viewL] at h
    | nil =>
      simp only [viewL] at h
      split at h
      · rename_i t xs sh ho
        cases h
        refine ⟨rfl, ?_⟩
        have e : v = β id := hl.2
        subst e
        have hob := hs.objs id _ ho
        cases sh with
        | false => exact (Own.rep hob).mono fun k hk => (hs.fresh id _ k ho hk).2
        | true =>
          obtain ⟨cells, h1, h2, h3⟩ := hob
          by_cases hx : xs = []
          · subst hx
            obtain ⟨A, c, e, _⟩ := owns_head h1
            rw [e]
            exact .row t [] A c default (fun _ => undef) (Nat.zero_le _) (fun h => absurd rfl h) (fun h => absurd rfl h) (fun j hj => absurd hj (by simp))
          · obtain ⟨g, cap, e, hb, hn, hcell⟩ := own_at h1 (Nat.mul_pos (List.length_pos_iff.2 hx) (X.K.pos t))
            rw [e]
            refine .row t xs _ cap ⟨g, 0, none⟩ (fun m => cells.getD m undef) hn (fun _ => ⟨rfl, (hs.fresh id _ g ho ((h2 g).2 (by rw [e]; rfl))).2⟩) (fun _ => hcell) fun j hj i l hl => ?_
            exact (h3 j xs[j] (by simp [hj]) i l hl).mono fun k hk => hk.1
      · cases h
  | nil t =>
    simp only [viewL] at h
    cases h
    have e : v = .slice none 0 0 := hl
    subst e
    exact ⟨rfl, .row t [] none 0 default (fun _ => undef) (Nat.zero_le _) (fun h => absurd rfl h) (fun h => absurd rfl h) (fun j hj => absurd hj (by simp))⟩
  | row t xs =>
    simp only [viewL] at h
    cases h
    exact ⟨rfl, Rep.mono hl fun k hk => hk.1⟩
  | int ki n => simp only [viewL] at h; cases h; have e : v = _ := hl; subst e; exact ⟨rfl, .int ..⟩
  | bool b => simp only [viewL] at h; cases h; have e : v = _ := hl; subst e; exact ⟨rfl, .bool ..⟩
  | str s => simp only [viewL] at h; cases h; have e : v = _ := hl; subst e; exact ⟨rfl, .str ..⟩
  | _ => simp [viewL] at h

theorem viewLs_ok (hs : Sim X.K w0 nt S β fp a w) : ∀ {ls ls' : List (Lf C)} {vs : List Value}, viewLs S ls = some ls' → LfsOk X.K w S.objs β fp (stbOf S.objs fp w) ls vs →
    ls'.length = ls.length ∧ ∀ (i : Nat) (l : Lf C), ls'[i]? = some l → Rep X.K w (fun k => k < w.heap.size) l (vs.getD i undef)
  | [], ls', vs, h, hl => by simp only [viewLs, Option.some.injEq] at h; subst h; exact ⟨rfl, fun i l h => by simp at h⟩
  | l :: ls, ls', vs, h, hl => by
    simp only [viewLs] at h
    split at h
    · rename_i l1 h1
      split at h
      · rename_i r' h2
        cases h
        obtain ⟨u, us, rfl⟩ : ∃ u us, vs = u :: us := by
          cases vs with
          | nil => have := hl.1; simp at this
          | cons u us => exact ⟨u, us, rfl⟩
        have hl1 : LfsOk X.K w S.objs β fp (stbOf S.objs fp w) ls us := ⟨by have := hl.1; simpa using this, fun i l' hi => hl.2 (i + 1) l' (by simpa using hi)⟩
        have ih := viewLs_ok hs h2 hl1
        refine ⟨by simp [ih.1], fun i l' hi => ?_⟩
        cases i with
        | zero => simp at hi; subst hi; exact (viewL_ok hs h1 (hl.2 0 l rfl)).2
        | succ i => exact ih.2 i l' (by simpa using hi)
      · cases h
    · cases h
theorem viewV_ok (hs : Sim X.K w0 nt S β fp a w) {v v' : SV C} {u : Value} (h : viewV S v = some v') (hv : SVOk X.K w S.objs β fp (stbOf S.objs fp w) v u) : ArgOk X.K w (fun k => k < w.heap.size) v' u := by
  cases v with
  | one l =>
    simp only [viewV] at h
    split at h
    · rename_i l' hl; cases h; exact viewL_ok hs hl hv
    · cases h
  | agg ls =>
    simp only [viewV] at h
    split at h
    · rename_i ls' hl
      cases h
      obtain ⟨vs, rfl, hv⟩ := hv
      obtain ⟨h1, h2⟩ := viewLs_ok hs hl hv
      exact ⟨vs, rfl, by rw [hv.1, h1], h2⟩
    · cases h
  | _ => simp [viewV] at h
theorem evalAll_ok (hs : Sim X.K w0 nt S β fp a w) : ∀ {xs : List Operand} {ts : List TypeId} {vs : List (SV C)}, evalAll S X xs ts = some vs →
    xs.length = vs.length ∧ ∀ (i : Nat) (v : SV C), vs[i]? = some v → ArgOk X.K w (fun k => k < w.heap.size) v ((xs.map a.eval).getD i undef)
  | [], ts, vs, h => by simp only [evalAll, Option.some.injEq] at h; subst h; exact ⟨rfl, fun i v h => by simp at h⟩
  | x :: xs, ts, vs, h => by
    simp only [evalAll] at h
    split at h
    · rename_i v hv
      split at h
      · rename_i v' hv'
        split at h
        · rename_i vs' hvs
          cases h
          obtain ⟨h1, h2⟩ := evalAll_ok hs hvs
          refine ⟨by simp [h1], fun i u hi => ?_⟩
          cases i with
          | zero => simp at hi; subst hi; exact viewV_ok hs hv' (opdT_ok hs hv)
          | succ i => exact h2 i u (by simpa using hi)
        · cases h
      · cases h
    · cases h

theorem lk_append {α : Type} (l r : List (Nat × α)) (n : Nat) : lk (l ++ r) n = match lk l n with
    | some v => some v
    | none => lk r n := by
  induction l with
  | nil => rfl
  | cons x l ih =>
    obtain ⟨m, v⟩ := x
    rw [List.cons_append, lk_cons, lk_cons, ih]
    split <;> rfl

/-- Several new rows at once. -/
theorem Sim.addMany {K : Cd C} (h : Sim K w0 nt S β fp a w) {w' : World} (hw : Below w.heap.size w w') {news : Objs C} (hids : ∀ id ob, lk news id = some ob → Unnamed S id)
    {hv : Nat → Value} {F : Nat → Nat → Prop} (hF : ∀ id ob k, lk news id = some ob → F id k → w.heap.size ≤ k ∧ k < w'.heap.size)
    (hdis : ∀ id id' ob ob' k, lk news id = some ob → lk news id' = some ob' → F id k → F id' k → id = id')
    (hob : ∀ id ob, lk news id = some ob → ∃ t xs, ob = .row t xs false ∧ Own K w' w0.heap.size (F id) (.row t xs) (hv id)) :
    Sim K w0 nt { S with objs := news ++ S.objs } (fun i => if (lk news i).isSome then hv i else β i) (fun i k => if (lk news i).isSome then F i k else fp i k) a w' := by
  have hsz : w0.heap.size ≤ w.heap.size := h.below.size
  have hsz' := hw.size
  have new : ∀ i ob, lk news i = some ob → lk (news ++ S.objs) i = some ob := fun i ob hi => by rw [lk_append, hi]
  have old : ∀ i, lk news i = none → lk (news ++ S.objs) i = lk S.objs i := fun i hi => by rw [lk_append, hi]
  have keep : ∀ i, lk news i = none → Keeps w w' S.objs (news ++ S.objs) β (fun i => if (lk news i).isSome then hv i else β i) fp (fun i k => if (lk news i).isSome then F i k else fp i k) i := fun i hi => by
    refine ⟨by simp [hi], fun t xs sh ho => ?_⟩
    rw [old i hi] at ho
    exact ⟨ho, fun k hk => ⟨by simpa [hi] using hk, hw.block k (h.fresh i _ k ho hk).2⟩⟩
  have hst : ∀ k, stbOf S.objs fp w k → stbOf (news ++ S.objs) (fun i k => if (lk news i).isSome then F i k else fp i k) w' k ∧ w'.heap[k]? = w.heap[k]? := fun k hk => by
    refine ⟨⟨by have := hk.1; omega, fun j ob hj => ?_⟩, hw.block k hk.1⟩
    cases e : lk news j with
    | some ob' =>
      simp only [e, Option.isSome_some, if_true]
      intro hf
      have := hF j ob' k e hf
      have := hk.1
      omega
    | none =>
      rw [old j e] at hj
      simp only [e, Option.isSome_none, Bool.false_eq_true, if_false]
      exact hk.2 j ob hj
  have nonew : ∀ i, (i ∈ idsE0 S.env ∨ i ∈ idsO S.objs) → lk news i = none := fun i hi => by
    cases e : lk news i with
    | none => rfl
    | some ob => have := hids i ob e; rcases hi with hi | hi; exact absurd hi this.1; exact absurd hi this.2
  refine ⟨h.below.trans (hw.mono hsz), h.defers, h.size, fun j ob k ho hk => ?_, fun i j oi oj k hi hj hki hkj => ?_, fun j ob ho => ?_, fun t v ht => ?_⟩
  · cases e : lk news j with
    | some ob' =>
      simp only [e, Option.isSome_some, if_true] at hk
      have := hF j ob' k e hk
      omega
    | none =>
      simp only at ho
      rw [old j e] at ho
      simp only [e, Option.isSome_none, Bool.false_eq_true, if_false] at hk
      have := h.fresh j ob k ho hk
      omega
  · simp only at hi hj
    cases ei : lk news i with
    | some oi' =>
      simp only [ei, Option.isSome_some, if_true] at hki
      cases ej : lk news j with
      | some oj' =>
        simp only [ej, Option.isSome_some, if_true] at hkj
        exact hdis i j oi' oj' k ei ej hki hkj
      | none =>
        rw [old j ej] at hj
        simp only [ej, Option.isSome_none, Bool.false_eq_true, if_false] at hkj
        have := hF i oi' k ei hki
        have := h.fresh j oj k hj hkj
        omega
    | none =>
      rw [old i ei] at hi
      simp only [ei, Option.isSome_none, Bool.false_eq_true, if_false] at hki
      cases ej : lk news j with
      | some oj' =>
        simp only [ej, Option.isSome_some, if_true] at hkj
        have := hF j oj' k ej hkj
        have := h.fresh i oi k hi hki
        omega
      | none =>
        rw [old j ej] at hj
        simp only [ej, Option.isSome_none, Bool.false_eq_true, if_false] at hkj
        exact h.disj i j oi oj k hi hj hki hkj
  · simp only at ho
    cases e : lk news j with
    | some ob' =>
      rw [new j ob' e] at ho
      cases ho
      obtain ⟨t, xs, rfl, hO⟩ := hob j _ e
      simp only [e, Option.isSome_some, if_true]
      exact hO
    | none =>
      rw [old j e] at ho
      have := (h.objs j ob ho).tr (objs' := news ++ S.objs) (β' := fun i => if (lk news i).isSome then hv i else β i) (fp' := fun i k => if (lk news i).isSome then F i k else fp i k) hst (fun k hk => hw.block k (h.fresh j ob k ho hk).2) fun ls els i hi => keep i (nonew i (.inr ((mem_idsO ho).2 ls els i hi)))
      simp only [e, Option.isSome_none, Bool.false_eq_true, if_false]
      exact this
  · exact (h.env t v ht).tr hst fun i hi => keep i (nonew i (.inl (mem_idsE ht hi)))
end
end Go.Proofs.Ytgpopgfidphheaa.Ab
