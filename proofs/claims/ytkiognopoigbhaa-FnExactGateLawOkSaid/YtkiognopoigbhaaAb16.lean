/- The abstract machine, part 16: calls by contract. -/
import Derived.Test.YtkiognopoigbhaaAb15
set_option linter.unusedVariables false
set_option linter.unusedSimpArgs false
set_option linter.unusedSectionVars false
namespace Go.Proofs.Ytkiognopoigbhaa.Ab
open Go Go.RowKit

section
variable {Ty : Type} [DecidableEq Ty] {C : Ty → Type}
variable {P : Program} {X : Cx C} {w0 w : World} {nt : Nat} {S : St C} {β : Nat → Value} {fp : Nat → Nat → Prop} {a : Act} {R : Type} {k : St C → Option R} {r : R}
variable {dst : Option Tmp} {ty : TypeId} {pos : String} {aft : Array Edge} {gd : Option (Nat × Bool)} {Q : Exit → Act → World → Prop}

/-- An argument of a function that only reads. -/
def ArgOk (K : Cd C) (w : World) (F : Nat → Prop) : SV C → Value → Prop
  | .one (.elt t x o), u => ∃ (a : Addr) (U : Nat → Value), u = .pointer (some (a.add o)) ∧ F a.block ∧ (∀ i, i < K.sz t → w.cell? (a.add i) = some (U i)) ∧ ∀ i l, (K.enc t x)[i]? = some l → Rep K w F l (U i)
  | .one l, u => l.plain = true ∧ Rep K w F l u
  | .agg ls, u => ∃ us : List Value, u = .agg us.toArray ∧ us.length = ls.length ∧ ∀ (i : Nat) (l : Lf C), ls[i]? = some l → Rep K w F l (us.getD i undef)
  | _, _ => False

def packOne : Bool × List (Lf C) → List Value → Value
  | (true, _), us => .agg us.toArray
  | (false, _), us => us.headD undef
def packAll : List (Bool × List (Lf C)) → List Value → List Value
  | [], _ => []
  | x :: r, us => packOne x (us.take x.2.length) :: packAll r (us.drop x.2.length)
def pack (rs : List (Bool × List (Lf C))) (us : List Value) : Value := match packAll rs us with
  | [v] => v
  | vs => .tuple vs.toArray
def okRes : List (Bool × List (Lf C)) → Bool
  | [] => true
  | (b, ls) :: r => (b || Nat.beq ls.length 1) && okRes r

/-- Results that are new and the caller's. us: the values of their cells, one behind the other. -/
def ResOk (K : Cd C) (w w' : World) (rs : List (Bool × List (Lf C))) (v : Value) : Prop :=
  ∃ (us : List Value) (G : Nat → Nat → Prop), v = pack rs us ∧ us.length = (flatten rs).length ∧ okRes rs = true ∧
    (∀ m k, G m k → w.heap.size ≤ k ∧ k < w'.heap.size) ∧ (∀ m m' k, G m k → G m' k → m = m') ∧
    ∀ (m : Nat) (l : Lf C), (flatten rs)[m]? = some l → Own K w' w.heap.size (G m) l (us.getD m undef)

def ConOk (P : Program) (K : Cd C) (f : Nat) (c : Con C) : Prop :=
  (∃ fn, P.funcs[f]? = some fn ∧ fn.body.isNone = false ∧ fn.name ≠ "runtime.NumGoroutine") ∧
  ∀ (w : World) (vs : List (SV C)) (us : List Value) (r0 : c.R0), us.length = vs.length → (∀ (i : Nat) (v : SV C), vs[i]? = some v → ArgOk K w (fun k => k < w.heap.size) v (us.getD i undef)) → c.g vs = some r0 →
    Calls P f us.toArray w fun e w' => ∃ v, e = .returned v ∧ Below w.heap.size w w' ∧ ResOk K w w' (c.ret r0) v

theorem viewL_ok (hs : Sim X.K w0 nt S β fp a w) {l l' : Lf C} {v : Value} (h : viewL S l = some l') (hl : LfOk X.K w S.objs β fp (stbOf S.objs fp w) l v) : l'.plain = true ∧ Rep X.K w (fun k => k < w.heap.size) l' v := by
  cases l with
  | ref id p =>
    cases p with
    | cons s p => simp [viewL] at h
    | nil =>
      simp only [viewL] at h
      split at h
      · rename_i t xs sh ho
        cases h
        refine ⟨rfl, ?_⟩
        have e : v = β id := hl.2
        subst e
        have hob := hs.objs id _ ho
        cases sh with
        | false => exact (Own.rep hob).mono fun k hk => (hs.fresh id _ k ho hk).2
        | true =>
          obtain ⟨cells, h1, h2, h3⟩ := hob
          by_cases hx : xs = []
          · subst hx
            obtain ⟨A, c, e, _⟩ := owns_head h1
            rw [e]
            exact .row t [] A c default (fun _ => undef) (Nat.zero_le _) (fun h => absurd rfl h) (fun h => absurd rfl h) (fun j hj => absurd hj (by simp))
          · obtain ⟨g, cap, e, hb, hn, hcell⟩ := own_at h1 (Nat.mul_pos (List.length_pos_iff.2 hx) (X.K.pos t))
            rw [e]
            refine .row t xs _ cap ⟨g, 0, none⟩ (fun m => cells.getD m undef) hn (fun _ => ⟨rfl, (hs.fresh id _ g ho ((h2 g).2 (by rw [e]; rfl))).2⟩) (fun _ => hcell) fun j hj i l hl => ?_
            exact (h3 j xs[j] (by simp [hj]) i l hl).mono fun k hk => hk.1
      · cases h
  | nil t =>
    simp only [viewL] at h
    cases h
    have e : v = .slice none 0 0 := hl
    subst e
    exact ⟨rfl, .row t [] none 0 default (fun _ => undef) (Nat.zero_le _) (fun h => absurd rfl h) (fun h => absurd rfl h) (fun j hj => absurd hj (by simp))⟩
  | row t xs =>
    simp only [viewL] at h
    cases h
    exact ⟨rfl, Rep.mono hl fun k hk => hk.1⟩
  | int ki n => simp only [viewL] at h; cases h; have e : v = _ := hl; subst e; exact ⟨rfl, .int ..⟩
  | bool b => simp only [viewL] at h; cases h; have e : v = _ := hl; subst e; exact ⟨rfl, .bool ..⟩
  | str s => simp only [viewL] at h; cases h; have e : v = _ := hl; subst e; exact ⟨rfl, .str ..⟩
  | fnc s => simp only [viewL] at h; cases h; have e : v = _ := hl; subst e; exact ⟨rfl, .fnc ..⟩
  | _ => simp [viewL] at h

theorem viewLs_ok (hs : Sim X.K w0 nt S β fp a w) : ∀ {ls ls' : List (Lf C)} {vs : List Value}, viewLs S ls = some ls' → LfsOk X.K w S.objs β fp (stbOf S.objs fp w) ls vs →
    ls'.length = ls.length ∧ ∀ (i : Nat) (l : Lf C), ls'[i]? = some l → Rep X.K w (fun k => k < w.heap.size) l (vs.getD i undef)
  | [], ls', vs, h, hl => by simp only [viewLs, Option.some.injEq] at h; subst h; exact ⟨rfl, fun i l h => by simp at h⟩
  | l :: ls, ls', vs, h, hl => by
    simp only [viewLs] at h
    split at h
    · rename_i l1 h1
      split at h
      · rename_i r' h2
        cases h
        obtain ⟨u, us, rfl⟩ : ∃ u us, vs = u :: us := by
          cases vs with
          | nil => have := hl.1; simp at this
          | cons u us => exact ⟨u, us, rfl⟩
        have hl1 : LfsOk X.K w S.objs β fp (stbOf S.objs fp w) ls us := ⟨by have := hl.1; simpa using this, fun i l' hi => hl.2 (i + 1) l' (by simpa using hi)⟩
        have ih := viewLs_ok hs h2 hl1
        refine ⟨by simp [ih.1], fun i l' hi => ?_⟩
        cases i with
        | zero => simp at hi; subst hi; exact (viewL_ok hs h1 (hl.2 0 l rfl)).2
        | succ i => exact ih.2 i l' (by simpa using hi)
      · cases h
    · cases h
theorem viewV_ok (hs : Sim X.K w0 nt S β fp a w) {v v' : SV C} {u : Value} (h : viewV S v = some v') (hv : SVOk X.K w S.objs β fp (stbOf S.objs fp w) v u) : ArgOk X.K w (fun k => k < w.heap.size) v' u := by
  cases v with
  | one l =>
    simp only [viewV] at h
    split at h
    · rename_i l' hl
      cases h
      have := viewL_ok hs hl hv
      cases l' <;> first | exact this | cases this.1
    · cases h
  | agg ls =>
    simp only [viewV] at h
    split at h
    · rename_i ls' hl
      cases h
      obtain ⟨vs, rfl, hv⟩ := hv
      obtain ⟨h1, h2⟩ := viewLs_ok hs hl hv
      exact ⟨vs, rfl, by rw [hv.1, h1], h2⟩
    · cases h
  | _ => simp [viewV] at h
theorem argsI_ok (hs : Sim X.K w0 nt S β fp a w) : ∀ {xs : List Operand} {ts : List TypeId} {vs : List (SV C)}, argsI X S xs ts = some vs → vs.length = xs.length ∧ ∀ (i : Nat) (v : SV C), vs[i]? = some v → SVOk X.K w S.objs β fp (stbOf S.objs fp w) v ((xs.map a.eval).getD i undef)
  | [], ts, vs, h => by
    simp only [argsI, Option.some.injEq] at h
    subst h
    exact ⟨rfl, fun i v h => by simp at h⟩
  | x :: xs, ts, vs, h => by
    simp only [argsI] at h
    split at h
    · rename_i l hv
      split at h
      · rename_i vs' hr
        cases h
        obtain ⟨h1, h2⟩ := argsI_ok hs hr
        refine ⟨by simp [h1], fun i v hi => ?_⟩
        cases i with
        | zero => simp at hi; subst hi; exact opdT_ok hs hv
        | succ i => simpa using h2 i v (by simpa using hi)
      · cases h
    · rename_i ls hv
      split at h
      · rename_i vs' hr
        cases h
        obtain ⟨h1, h2⟩ := argsI_ok hs hr
        refine ⟨by simp [h1], fun i v hi => ?_⟩
        cases i with
        | zero => simp at hi; subst hi; exact opdT_ok hs hv
        | succ i => simpa using h2 i v (by simpa using hi)
      · cases h
    · cases h


theorem block_lt {w : World} {p : Addr} {u : Value} (h : w.cell? p = some u) : p.block < w.heap.size := by
  unfold World.cell? at h
  cases e : w.heap[p.block]? with
  | none => rw [e] at h; cases h
  | some o => exact (Array.getElem?_eq_some_iff.1 e).1
theorem Rep.lt {K : Cd C} {F : Nat → Prop} {l : Lf C} {v : Value} (h : Rep K w F l v) : Rep K w (fun k => k < w.heap.size) l v := by
  induction h with
  | int => exact .int ..
  | bool => exact .bool ..
  | str => exact .str ..
  | fnc => exact .fnc ..
  | row t xs A c p U hc hA hcell hrep ih =>
    refine .row t xs A c p U hc (fun hx => ⟨(hA hx).1, ?_⟩) hcell ih
    have := block_lt (hcell hx 0 (Nat.mul_pos (List.length_pos_iff.2 hx) (K.pos t)))
    rwa [add_block] at this
theorem viewLX_ok (hs : Sim X.K w0 nt S β fp a w) {l l' : Lf C} {v : Value} (h : viewLX X S l = some l') (hl : LfOk X.K w S.objs β fp (stbOf S.objs fp w) l v) : l'.plain = true ∧ Rep X.K w (fun k => k < w.heap.size) l' v := by
  unfold viewLX at h
  split at h
  · obtain ⟨t, xs, F, h1, h2⟩ := sli_rep hs hl h
    cases h1
    exact ⟨rfl, h2.lt⟩
  · exact viewL_ok hs h hl
theorem viewLXs_ok (hs : Sim X.K w0 nt S β fp a w) : ∀ {ls ls' : List (Lf C)} , viewLXs X S ls = some ls' → ls'.length = ls.length ∧
    ∀ (i : Nat) (l' : Lf C), ls'[i]? = some l' → ∃ l, ls[i]? = some l ∧ ∀ v, LfOk X.K w S.objs β fp (stbOf S.objs fp w) l v → Rep X.K w (fun k => k < w.heap.size) l' v
  | [], ls', h => by simp only [viewLXs, Option.some.injEq] at h; subst h; exact ⟨rfl, fun i l h => by simp at h⟩
  | l :: ls, ls', h => by
    simp only [viewLXs] at h
    split at h
    · rename_i l1 h1
      split at h
      · rename_i r' h2
        cases h
        obtain ⟨q1, q2⟩ := viewLXs_ok hs h2
        refine ⟨by simp [q1], fun i l' hi => ?_⟩
        cases i with
        | zero => simp at hi; subst hi; exact ⟨l, rfl, fun v hv => (viewLX_ok hs h1 hv).2⟩
        | succ i => exact q2 i l' (by simpa using hi)
      · cases h
    · cases h
theorem viewP_ok (hs : Sim X.K w0 nt S β fp a w) {pt : Option Ty} {v v' : SV C} {u : Value} (h : viewP X S pt v = some v') (hv : SVOk X.K w S.objs β fp (stbOf S.objs fp w) v u) : ArgOk X.K w (fun k => k < w.heap.size) v' u := by
  unfold viewP at h
  split at h
  · exact viewV_ok hs h hv
  · rename_i t l
    obtain ⟨ls, p, h, rfl, hc⟩ := cells_ok hs hv h
    split at h
    · rename_i ls' hls
      split at h
      · rename_i x hx
        cases h
        obtain ⟨q1, q2⟩ := viewLXs_ok hs hls
        have henc := X.K.enc_dec _ _ _ hx
        have hlen : ls'.length = X.K.sz t := by rw [← henc, X.K.enc_len]
        have hle : X.K.sz t ≤ ls.length := by simp at q1; omega
        have hcell : ∀ i, i < X.K.sz t → ∃ l' u, ls[i]? = some l' ∧ w.cell? (p.add i) = some u ∧ LfOk X.K w S.objs β fp (stbOf S.objs fp w) l' u := fun i hi => by
          have e : ls[i]? = some (ls[i]'(by omega)) := by simp
          obtain ⟨u, h1, h2⟩ := hc i _ e
          exact ⟨_, u, e, h1, h2⟩
        have hz : p.add 0 = p := rfl
        refine ⟨p, fun i => (w.cell? (p.add i)).getD undef, rfl, ?_, fun i hi => ?_, fun i l hl => ?_⟩
        · obtain ⟨_, u, _, h1, _⟩ := hcell 0 (X.K.pos t)
          exact block_lt (p := p) h1
        · obtain ⟨_, u, _, h1, _⟩ := hcell i hi
          simp only [h1]; rfl
        · rw [henc] at hl
          have hi : i < X.K.sz t := by have := idx_lt hl; omega
          obtain ⟨l1, e1, e2⟩ := q2 i l hl
          obtain ⟨l2, u, e3, h1, h2⟩ := hcell i hi
          rw [List.getElem?_take, if_pos hi, e3] at e1
          cases e1
          simp only [h1]
          exact e2 _ h2
      · cases h
    · cases h
  · cases h
theorem views_ok (hs : Sim X.K w0 nt S β fp a w) : ∀ {vs : List (SV C)} {pt : List (Option Ty)} {vs' : List (SV C)} {us : List Value}, views X S pt vs = some vs' → us.length = vs.length →
    (∀ (i : Nat) (v : SV C), vs[i]? = some v → SVOk X.K w S.objs β fp (stbOf S.objs fp w) v (us.getD i undef)) →
    us.length = vs'.length ∧ ∀ (i : Nat) (v : SV C), vs'[i]? = some v → ArgOk X.K w (fun k => k < w.heap.size) v (us.getD i undef)
  | [], pt, vs', us, h, hl, hv => by simp only [views, Option.some.injEq] at h; subst h; exact ⟨hl, fun i v h => by simp at h⟩
  | v :: vs, pt, vs', us, h, hl, hv => by
    simp only [views] at h
    split at h
    · rename_i v1 h1
      split at h
      · rename_i r' h2
        cases h
        obtain ⟨u, us, rfl⟩ : ∃ u us', us = u :: us' := by
          cases us with
          | nil => simp at hl
          | cons u us => exact ⟨u, us, rfl⟩
        obtain ⟨q1, q2⟩ := views_ok hs h2 (us := us) (by simpa using hl) (fun i v hi => hv (i + 1) v (by simpa using hi))
        refine ⟨by simp [q1], fun i v' hi => ?_⟩
        cases i with
        | zero => simp at hi; subst hi; exact viewP_ok hs h1 (hv 0 v rfl)
        | succ i => exact q2 i v' (by simpa using hi)
      · cases h
    · cases h
/-- Told values, part by part. -/
def SVsOk (K : Cd C) (w : World) (objs : Objs C) (β : Nat → Value) (fp : Nat → Nat → Prop) (stb : Nat → Prop) (vs : List (SV C)) (us : List Value) : Prop :=
  us.length = vs.length ∧ ∀ (i : Nat) (v : SV C), vs[i]? = some v → SVOk K w objs β fp stb v (us.getD i undef)
theorem SVsOk.nil {K : Cd C} {objs : Objs C} {stb : Nat → Prop} : SVsOk K w objs β fp stb [] [] := ⟨rfl, fun i v h => by simp at h⟩
theorem SVsOk.append {K : Cd C} {objs : Objs C} {stb : Nat → Prop} {vs vs' : List (SV C)} {us us' : List Value} (h : SVsOk K w objs β fp stb vs us) (h' : SVsOk K w objs β fp stb vs' us') : SVsOk K w objs β fp stb (vs ++ vs') (us ++ us') := by
  refine ⟨by simp [h.1, h'.1], fun i v hi => ?_⟩
  have e : (us ++ us').getD i undef = if i < us.length then us.getD i undef else us'.getD (i - us.length) undef := by
    simp only [List.getD_eq_getElem?_getD, List.getElem?_append]
    split <;> rfl
  rw [List.getElem?_append] at hi
  rw [e, h.1]
  split at hi
  · rename_i hlt; rw [if_pos hlt]; exact h.2 i v hi
  · rename_i hlt; rw [if_neg hlt]; exact h'.2 _ v hi
theorem SVsOk.take {K : Cd C} {objs : Objs C} {stb : Nat → Prop} {vs : List (SV C)} {us : List Value} (h : SVsOk K w objs β fp stb vs us) (n : Nat) : SVsOk K w objs β fp stb (vs.take n) (us.take n) := by
  refine ⟨by simp [h.1], fun i v hi => ?_⟩
  have hlt : i < n := by
    rcases Nat.lt_or_ge i n with hn | hn
    · exact hn
    · rw [List.getElem?_take, if_neg (by omega)] at hi; cases hi
  rw [List.getElem?_take, if_pos hlt] at hi
  have e : (us.take n).getD i undef = us.getD i undef := by simp only [List.getD_eq_getElem?_getD, List.getElem?_take, if_pos hlt]
  rw [e]
  exact h.2 i v hi
theorem SVsOk.drop {K : Cd C} {objs : Objs C} {stb : Nat → Prop} {vs : List (SV C)} {us : List Value} (h : SVsOk K w objs β fp stb vs us) (n : Nat) : SVsOk K w objs β fp stb (vs.drop n) (us.drop n) := by
  refine ⟨by simp [h.1], fun i v hi => ?_⟩
  rw [List.getElem?_drop] at hi
  have e : (us.drop n).getD i undef = us.getD (n + i) undef := by simp only [List.getD_eq_getElem?_getD, List.getElem?_drop]
  rw [e]
  exact h.2 _ v hi
theorem unSh_ok {K : Cd C} {objs : Objs C} {stb : Nat → Prop} : ∀ {sh : List (Bool × Nat)} {ls : List (Lf C)} {us : List Value}, shOk sh ls.length = true → LfsOk K w objs β fp stb ls us → SVsOk K w objs β fp stb (unSh sh ls) (packSh sh us)
  | [], ls, us, h, hl => ⟨rfl, fun i v h => by simp [unSh] at h⟩
  | (b, n) :: sh, ls, us, h, hl => by
    simp only [shOk, Bool.and_eq_true, Bool.or_eq_true] at h
    obtain ⟨⟨h1, h2⟩, h3⟩ := h
    have h2 := Nat.le_of_ble_eq_true h2
    have hd : LfsOk K w objs β fp stb (ls.drop n) (us.drop n) := ⟨by simp [hl.1], fun i l hi => by
      rw [List.getElem?_drop] at hi
      have e : (us.drop n).getD i undef = us.getD (n + i) undef := by simp only [List.getD_eq_getElem?_getD, List.getElem?_drop]
      rw [e]
      exact hl.2 _ l hi⟩
    have ih := unSh_ok (sh := sh) (ls := ls.drop n) (us := us.drop n) (by simpa using h3) hd
    refine ⟨by simp [unSh, packSh, ih.1], fun i v hi => ?_⟩
    cases i with
    | succ i => simpa [packSh] using ih.2 i v (by simpa [unSh] using hi)
    | zero =>
      simp only [unSh, List.getElem?_cons_zero, Option.some.injEq] at hi
      subst hi
      cases b with
      | true =>
        refine ⟨us.take n, rfl, by simp [hl.1], fun i l hi => ?_⟩
        have hlt : i < n := by
          rcases Nat.lt_or_ge i n with hn | hn
          · exact hn
          · rw [List.getElem?_take, if_neg (by omega)] at hi; cases hi
        rw [List.getElem?_take, if_pos hlt] at hi
        have e : (us.take n).getD i undef = us.getD i undef := by simp only [List.getD_eq_getElem?_getD, List.getElem?_take, if_pos hlt]
        rw [e]
        exact hl.2 i l hi
      | false =>
        have hn : n = 1 := by
          rcases h1 with h1 | h1
          · cases h1
          · exact Nat.eq_of_beq_eq_true h1
        subst hn
        cases ls with
        | nil => simp at h2
        | cons l ls => cases us with
          | nil => have := hl.1; simp at this
          | cons u us => exact hl.2 0 l rfl
theorem argsI_sv (hs : Sim X.K w0 nt S β fp a w) {xs : List Operand} {ts : List TypeId} {vs : List (SV C)} (h : argsI X S xs ts = some vs) : SVsOk X.K w S.objs β fp (stbOf S.objs fp w) vs (xs.map a.eval) := by
  obtain ⟨h1, h2⟩ := argsI_ok hs h
  exact ⟨by simp [h1], h2⟩
theorem argsC_ok (hs : Sim X.K w0 nt S β fp a w) {pt : List (Option Ty)} {pre post : List (SV C)} {pu qu : List Value} {xs : List Operand} {ts : List TypeId} {vs : List (SV C)} (h : argsC X S pt pre xs ts post = some vs)
    (hpre : SVsOk X.K w S.objs β fp (stbOf S.objs fp w) pre pu) (hpost : SVsOk X.K w S.objs β fp (stbOf S.objs fp w) post qu) :
    (pu ++ (xs.map a.eval ++ qu)).length = vs.length ∧ ∀ (i : Nat) (v : SV C), vs[i]? = some v → ArgOk X.K w (fun k => k < w.heap.size) v ((pu ++ (xs.map a.eval ++ qu)).getD i undef) := by
  unfold argsC at h
  split at h
  · rename_i vs' hvs
    have := hpre.append ((argsI_sv hs hvs).append hpost)
    exact views_ok hs h this.1 this.2
  · cases h

theorem lk_append {α : Type} (l r : List (Nat × α)) (n : Nat) : lk (l ++ r) n = match lk l n with
    | some v => some v
    | none => lk r n := by
  induction l with
  | nil => rfl
  | cons x l ih =>
    obtain ⟨m, v⟩ := x
    rw [List.cons_append, lk_cons, lk_cons, ih]
    split <;> rfl

/-- Several new rows at once. -/
theorem Sim.addMany {K : Cd C} (h : Sim K w0 nt S β fp a w) {w' : World} (hw : Below w.heap.size w w') {news : Objs C} (hids : ∀ id ob, lk news id = some ob → Unnamed S id)
    {hv : Nat → Value} {F : Nat → Nat → Prop} (hF : ∀ id ob k, lk news id = some ob → F id k → w.heap.size ≤ k ∧ k < w'.heap.size)
    (hdis : ∀ id id' ob ob' k, lk news id = some ob → lk news id' = some ob' → F id k → F id' k → id = id')
    (hob : ∀ id ob, lk news id = some ob → ∃ t xs, ob = .row t xs false ∧ Own K w' w0.heap.size (F id) (.row t xs) (hv id)) :
    Sim K w0 nt { S with objs := news ++ S.objs } (fun i => if (lk news i).isSome then hv i else β i) (fun i k => if (lk news i).isSome then F i k else fp i k) a w' := by
  have hsz : w0.heap.size ≤ w.heap.size := h.below.size
  have hsz' := hw.size
  have new : ∀ i ob, lk news i = some ob → lk (news ++ S.objs) i = some ob := fun i ob hi => by rw [lk_append, hi]
  have old : ∀ i, lk news i = none → lk (news ++ S.objs) i = lk S.objs i := fun i hi => by rw [lk_append, hi]
  have keep : ∀ i, lk news i = none → Keeps w w' S.objs (news ++ S.objs) β (fun i => if (lk news i).isSome then hv i else β i) fp (fun i k => if (lk news i).isSome then F i k else fp i k) i := fun i hi => by
    refine ⟨by simp [hi], fun t xs sh ho => ?_⟩
    rw [old i hi] at ho
    exact ⟨ho, fun k hk => ⟨by simpa [hi] using hk, hw.block k (h.fresh i _ k ho hk).2⟩⟩
  have hst : ∀ k, stbOf S.objs fp w k → stbOf (news ++ S.objs) (fun i k => if (lk news i).isSome then F i k else fp i k) w' k ∧ w'.heap[k]? = w.heap[k]? := fun k hk => by
    refine ⟨⟨by have := hk.1; omega, fun j ob hj => ?_⟩, hw.block k hk.1⟩
    cases e : lk news j with
    | some ob' =>
      simp only [e, Option.isSome_some, if_true]
      intro hf
      have := hF j ob' k e hf
      have := hk.1
      omega
    | none =>
      rw [old j e] at hj
      simp only [e, Option.isSome_none, Bool.false_eq_true, if_false]
      exact hk.2 j ob hj
  have nonew : ∀ i, (i ∈ idsE0 S.env ∨ i ∈ idsO S.objs) → lk news i = none := fun i hi => by
    cases e : lk news i with
    | none => rfl
    | some ob => have := hids i ob e; rcases hi with hi | hi; exact absurd hi this.1; exact absurd hi this.2
  refine ⟨h.below.trans (hw.mono hsz), h.defers, h.size, fun j ob k ho hk => ?_, fun i j oi oj k hi hj hki hkj => ?_, fun j ob ho => ?_, fun t v ht => ?_⟩
  · cases e : lk news j with
    | some ob' =>
      simp only [e, Option.isSome_some, if_true] at hk
      have := hF j ob' k e hk
      omega
    | none =>
      simp only at ho
      rw [old j e] at ho
      simp only [e, Option.isSome_none, Bool.false_eq_true, if_false] at hk
      have := h.fresh j ob k ho hk
      omega
  · simp only at hi hj
    cases ei : lk news i with
    | some oi' =>
      simp only [ei, Option.isSome_some, if_true] at hki
      cases ej : lk news j with
      | some oj' =>
        simp only [ej, Option.isSome_some, if_true] at hkj
        exact hdis i j oi' oj' k ei ej hki hkj
      | none =>
        rw [old j ej] at hj
        simp only [ej, Option.isSome_none, Bool.false_eq_true, if_false] at hkj
        have := hF i oi' k ei hki
        have := h.fresh j oj k hj hkj
        omega
    | none =>
      rw [old i ei] at hi
      simp only [ei, Option.isSome_none, Bool.false_eq_true, if_false] at hki
      cases ej : lk news j with
      | some oj' =>
        simp only [ej, Option.isSome_some, if_true] at hkj
        have := hF j oj' k ej hkj
        have := h.fresh i oi k hi hki
        omega
      | none =>
        rw [old j ej] at hj
        simp only [ej, Option.isSome_none, Bool.false_eq_true, if_false] at hkj
        exact h.disj i j oi oj k hi hj hki hkj
  · simp only at ho
    cases e : lk news j with
    | some ob' =>
      rw [new j ob' e] at ho
      cases ho
      obtain ⟨t, xs, rfl, hO⟩ := hob j _ e
      simp only [e, Option.isSome_some, if_true]
      exact hO
    | none =>
      rw [old j e] at ho
      have := (h.objs j ob ho).tr (objs' := news ++ S.objs) (β' := fun i => if (lk news i).isSome then hv i else β i) (fp' := fun i k => if (lk news i).isSome then F i k else fp i k) hst (fun k hk => hw.block k (h.fresh j ob k ho hk).2) fun kd ls els i hi => keep i (nonew i (.inr ((mem_idsO ho).2 kd ls els i hi)))
      simp only [e, Option.isSome_none, Bool.false_eq_true, if_false]
      exact this
  · exact (h.env t v ht).tr hst fun i hi => keep i (nonew i (.inl (mem_idsE ht hi)))
end
end Go.Proofs.Ytkiognopoigbhaa.Ab
