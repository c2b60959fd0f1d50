/- The abstract machine: maps. -/
import Derived.Test.YtkiognopoigbhaaAm1
import Derived.ChangeMaps5
set_option linter.unusedVariables false
set_option linter.unusedSimpArgs false
set_option linter.unusedSectionVars false
namespace Go.Proofs.Ytkiognopoigbhaa.Ab
open Go Go.RowKit
open Go.ChangeMaps (setBlock)

section
variable {Ty : Type} [DecidableEq Ty] {C : Ty → Type}
variable {P : Program} {X : Cx C} {K : Cd C} {w0 w : World} {nt : Nat} {S : St C} {β : Nat → Value} {fp : Nat → Nat → Prop} {a : Act} {R : Type} {k : St C → Option R} {r : R}
variable {dst : Option Tmp} {ty : TypeId} {pos : String} {aft : Array Edge} {gd : Option (Nat × Bool)} {Q : Exit → Act → World → Prop} {objs : Objs C} {stb : Nat → Prop}

theorem lf_plainV {l : Lf C} {u : Value} (hp : l.plain = true) (hr : ∀ t xs, l ≠ .row t xs) : LfOk K w objs β fp stb l u ↔ u = plainV l := by
  cases l with
  | row t xs => exact absurd rfl (hr t xs)
  | int => exact Iff.rfl
  | bool => exact Iff.rfl
  | str => exact Iff.rfl
  | fnc => exact Iff.rfl
  | _ => cases hp
theorem flat_leaf {t : Ty} (hf : K.flat t = true) {x : C t} {l : Lf C} (hl : l ∈ K.enc t x) : l.plain = true ∧ ∀ t' ys, l ≠ .row t' ys :=
  ⟨K.enc_plain t x l hl, fun t' ys e => K.enc_flat t hf x t' ys (e ▸ hl)⟩
theorem lfs_plain {t : Ty} (hf : K.flat t = true) {x : C t} {us : List Value} : LfsOk K w objs β fp stb (K.enc t x) us ↔ us = (K.enc t x).map plainV := by
  constructor
  · intro h
    apply List.ext_getElem (by simp [h.1])
    intro i h1 h2
    have hi : i < (K.enc t x).length := by simpa using h2
    have hm := flat_leaf hf (x := x) (List.getElem_mem hi)
    have := (lf_plainV hm.1 hm.2).1 (h.2 i _ (List.getElem?_eq_getElem hi))
    simp only [List.getElem_map]
    rw [← this]
    simp [List.getD, h1]
  · rintro rfl
    refine ⟨by simp, fun i l hl => ?_⟩
    have hm := flat_leaf hf (x := x) (List.mem_of_getElem? hl)
    refine (lf_plainV hm.1 hm.2).2 ?_
    simp [List.getD, hl]
/-- A key, a value: as it is. -/
theorem sv_mkV {t : Ty} (hf : K.flat t = true) {x : C t} {v : SV C} {u : Value} {ag : Bool} (he : K.enc t x = v.leaves) (hok : okV v = true) (ha : aggV v = ag) (hv : SVOk K w objs β fp stb v u) : u = mkV ag ((K.enc t x).map plainV) := by
  subst ha
  cases v with
  | one l =>
    have h1 : LfsOk K w objs β fp stb (K.enc t x) [u] := by
      rw [he]
      refine ⟨rfl, fun i l' hi => ?_⟩
      cases i with
      | zero => simp [SV.leaves] at hi; subst hi; exact hv
      | succ i => simp [SV.leaves] at hi
    rw [← (lfs_plain hf).1 h1]
    rfl
  | agg ls =>
    obtain ⟨us, rfl, h⟩ := hv
    have h1 : LfsOk K w objs β fp stb (K.enc t x) us := by rw [he]; exact h
    rw [← (lfs_plain hf).1 h1]
    rfl
  | _ => cases hok
theorem mkEq_ok {a b : MK} (h : mkEq a b = true) : a = b := by
  obtain ⟨a1, a2, a3, a4⟩ := a
  obtain ⟨b1, b2, b3, b4⟩ := b
  simp only [mkEq, Bool.and_eq_true, beq_iff_eq] at h
  obtain ⟨⟨⟨rfl, rfl⟩, rfl⟩, rfl⟩ := h
  rfl
/-- What a map's value and the key are. -/
theorem mapAt_ok (hs : Sim X.K w0 nt S β fp a w) {m : MT Ty} {T : TypeId} (hm : MFact P X.K T m) {l : Lf C} {key : SV C} {u uk : Value} {kk : (kt vt : Ty) → C kt → List (Nat × C kt × C vt) → Nat → Option R}
    (h : mapAt X S m l key kk = some r) (hl : LfOk X.K w S.objs β fp (stbOf S.objs fp w) l u) (hk : SVOk X.K w S.objs β fp (stbOf S.objs fp w) key uk) :
    ∃ x xs c, kk m.kt m.vt x xs c = some r ∧ uk = keyV X.K m.fl m.kt x ∧ ((l = .nilv .map ∧ u = .map none ∧ xs = []) ∨
      ∃ id b es, l = .vo id ∧ lk S.objs id = some (.map m.fl m.kt m.vt xs c) ∧ u = .map (some b) ∧ w.heap[b]? = some (.map es c) ∧ (∀ k, fp id k ↔ k = b) ∧ β id = .map (some b) ∧ es.toList = xs.map (entV X.K m.fl m.kt m.vt)) := by
  obtain ⟨ktid, etid, hM⟩ := hm
  unfold mapAt at h
  obtain ⟨hb, h⟩ := cond_some h
  simp only [Bool.and_eq_true, beq_iff_eq] at hb
  split at h
  · split at h
    · rename_i x hx
      exact ⟨x, [], 0, h, sv_mkV hM.fk (X.K.enc_dec _ _ _ hx) hb.1 hb.2 hk, .inl ⟨rfl, hl, rfl⟩⟩
    · cases h
  · rename_i id _
    split at h
    · rename_i mk kt vt xs c ho
      obtain ⟨hq, h5⟩ := cond_some h
      clear h
      simp only [Bool.and_eq_true, decide_eq_true_eq] at hq
      obtain ⟨⟨e1, e2⟩, hq⟩ := hq
      have hq := mkEq_ok hq
      subst e1 e2 hq
      split at h5
      · rename_i x hx
        obtain ⟨b, es, h1, h2, h3, h4⟩ := hs.objs id _ ho
        exact ⟨x, xs, c, h5, sv_mkV hM.fk (X.K.enc_dec _ _ _ hx) hb.1 hb.2 hk, .inr ⟨id, b, es, rfl, ho, hl.2.trans h1, h2, h3, h1, h4⟩⟩
      · cases h5
    · cases h
  · cases h

variable {fl : MK} {kt vt : Ty}
theorem mfind_get (x : C kt) : ∀ (xs : List (Nat × C kt × C vt)) (i : Nat), (mget K kt vt x xs = none ∧ mfind K fl kt vt x xs i = none) ∨ ∃ e j, mget K kt vt x xs = some e ∧ mfind K fl kt vt x xs i = some (j, valV K fl vt e.2.2)
  | [], i => .inl ⟨rfl, rfl⟩
  | e :: r, i => by
    simp only [mget, mfind]
    cases h : keysEq (K.enc kt e.2.1) (K.enc kt x) with
    | true => exact .inr ⟨e, i, rfl, rfl⟩
    | false => exact mfind_get x r (i + 1)
theorem mput_none (x : C kt) (y : C vt) (c : Nat) : ∀ (xs : List (Nat × C kt × C vt)) (i : Nat), mfind K fl kt vt x xs i = none → mput K kt vt x y c xs = xs ++ [(c, x, y)]
  | [], i, h => rfl
  | e :: r, i, h => by
    simp only [mfind] at h
    simp only [mput]
    cases hk : keysEq (K.enc kt e.2.1) (K.enc kt x) with
    | true => rw [hk] at h; cases h
    | false => rw [hk] at h; simp only [cond_false, List.cons_append, mput_none x y c r (i + 1) h]
theorem mput_some (x : C kt) (y : C vt) (c : Nat) : ∀ (xs : List (Nat × C kt × C vt)) (i j : Nat) (v : Value), mfind K fl kt vt x xs i = some (j, v) →
    i ≤ j ∧ (∃ e, xs[j - i]? = some e ∧ keysEq (K.enc kt e.2.1) (K.enc kt x) = true) ∧ (xs.map (entV K fl kt vt)).modify (j - i) (fun e => { e with key := keyV K fl kt x, val := valV K fl vt y }) = (mput K kt vt x y c xs).map (entV K fl kt vt)
  | [], i, j, v, h => by cases h
  | e :: r, i, j, v, h => by
    simp only [mfind] at h
    simp only [mput]
    cases hk : keysEq (K.enc kt e.2.1) (K.enc kt x) with
    | true =>
      rw [hk] at h
      cases h
      refine ⟨Nat.le_refl _, ⟨e, by simp, hk⟩, ?_⟩
      simp [entV]
    | false =>
      rw [hk] at h
      obtain ⟨h1, ⟨e', h2, h3⟩, h4⟩ := mput_some x y c r (i + 1) j v h
      have e1 : j - i = (j - (i + 1)) + 1 := by omega
      refine ⟨by omega, ⟨e', by rw [e1]; simpa using h2, h3⟩, ?_⟩
      rw [e1]
      simp only [List.map_cons, List.modify_succ_cons, cond_false, h4]
theorem mdel_some (x : C kt) : ∀ (xs : List (Nat × C kt × C vt)) (i j : Nat) (v : Value), mfind K fl kt vt x xs i = some (j, v) → i ≤ j ∧ j - i < xs.length ∧ (xs.map (entV K fl kt vt)).eraseIdx (j - i) = (mdel K kt vt x xs).map (entV K fl kt vt)
  | [], i, j, v, h => by cases h
  | e :: r, i, j, v, h => by
    simp only [mfind] at h
    simp only [mdel]
    cases hk : keysEq (K.enc kt e.2.1) (K.enc kt x) with
    | true =>
      rw [hk] at h
      cases h
      refine ⟨Nat.le_refl _, by simp, by simp⟩
    | false =>
      rw [hk] at h
      obtain ⟨h1, h2, h4⟩ := mdel_some x r (i + 1) j v h
      have e1 : j - i = (j - (i + 1)) + 1 := by omega
      refine ⟨by omega, by rw [e1]; simpa using h2, ?_⟩
      rw [e1]
      simp only [List.map_cons, List.eraseIdx_cons_succ, cond_false, h4]
theorem mdel_none (x : C kt) : ∀ (xs : List (Nat × C kt × C vt)) (i : Nat), mfind K fl kt vt x xs i = none → mdel K kt vt x xs = xs
  | [], i, h => rfl
  | e :: r, i, h => by
    simp only [mfind] at h
    simp only [mdel]
    cases hk : keysEq (K.enc kt e.2.1) (K.enc kt x) with
    | true => rw [hk] at h; cases h
    | false => rw [hk] at h; simp only [cond_false, mdel_none x r (i + 1) h]
theorem mbr_ok {yes : C vt → Option R} {no : Option R} (x : C kt) : ∀ {xs : List (Nat × C kt × C vt)}, mbr K kt vt x yes no xs = some r → (∃ e, mget K kt vt x xs = some e ∧ yes e.2.2 = some r) ∨ (mget K kt vt x xs = none ∧ no = some r)
  | [], h => .inr ⟨rfl, h⟩
  | e :: xs, h => by
    simp only [mbr] at h
    simp only [mget]
    cases hk : keysEq (K.enc kt e.2.1) (K.enc kt x) with
    | true => rw [hk] at h; exact .inl ⟨e, rfl, h⟩
    | false => rw [hk] at h; exact mbr_ok x h

/-- A look-up's run. -/
theorem look_run {T : TypeId} {m : MT Ty} {ktid etid : TypeId} (hM : MFact0 P K T m ktid etid) {u : Value} {x : C m.kt} {xs : List (Nat × C m.kt × C m.vt)} {c : Nat}
    (hu : (u = .map none ∧ xs = []) ∨ ∃ b es, u = .map (some b) ∧ w.heap[b]? = some (.map es c) ∧ es.toList = xs.map (entV K m.fl m.kt m.vt)) (ok : Bool) :
    (Instr.lookup T u (keyV K m.fl m.kt x) ok).run P w = .ok (cond ok (.tuple #[valV K m.fl m.vt (mval K m.kt m.vt x xs), .bool (mhas K m.kt m.vt x xs)]) (valV K m.fl m.vt (mval K m.kt m.vt x xs))) w := by
  have key : ∀ es : Array MapEntry, es.toList = xs.map (entV K m.fl m.kt m.vt) → ((do
      Instr.checkKey es.isEmpty 10000 ktid (keyV K m.fl m.kt x)
      let (v, ok') ← match ← Instr.findKey ktid (keyV K m.fl m.kt x) es.toList with
        | some (_, v) => pure (v, true)
        | none => pure (← zeroValue etid, false)
      pure (if ok then .tuple #[v, .bool ok'] else v) : Sem Value)).run P w = .ok (cond ok (.tuple #[valV K m.fl m.vt (mval K m.kt m.vt x xs), .bool (mhas K m.kt m.vt x xs)]) (valV K m.fl m.vt (mval K m.kt m.vt x xs))) w := by
    intro es he
    rw [he]
    simp only [Sem.run_bind, hM.chk, Result.andThen_ok, hM.find]
    rcases mfind_get (K := K) (fl := m.fl) x xs 0 with ⟨h1, h2⟩ | ⟨e, j, h1, h2⟩
    · rw [h2]
      simp only [Sem.run_bind, hM.zero, Result.andThen_ok, Sem.run_pure, mval, mhas, h1]
      cases ok <;> rfl
    · rw [h2]
      simp only [Sem.run_pure, Result.andThen_ok, mval, mhas, h1]
      cases ok <;> rfl
  unfold Instr.lookup
  simp only [Sem.run_bind, run_under hM.und, Result.andThen_ok]
  rcases hu with ⟨rfl, rfl⟩ | ⟨b, es, rfl, hb, he⟩
  · have := key #[] rfl
    have hp : (pure #[] : Sem (Array MapEntry)).run P w = .ok #[] w := rfl
    simp only [Sem.run_bind] at this ⊢
    rw [hp]
    exact this
  · have hg : (getObj b).run P w = .ok (.map es c) w := by simp [getObj, Sem.run, hb]
    have := key es he
    simp only [Sem.run_bind] at this
    have hp : (pure es : Sem (Array MapEntry)).run P w = .ok es w := rfl
    simp only [Sem.run_bind, hg, Result.andThen_ok]
    rw [hp]
    exact this
theorem mvalT_ok {T : TypeId} {m : MT Ty} {ktid etid : TypeId} (hM : MFact0 P X.K T m ktid etid) (y : C m.vt) : TupOk X.K w objs β fp stb (mvalT X m.fl m.vt y) (valV X.K m.fl m.vt y) := by
  have h1 := hM.vone
  have h2 := (lfs_plain (K := X.K) (w := w) (objs := objs) (β := β) (fp := fp) (stb := stb) hM.fv (x := y)).2 rfl
  have h3 := X.K.enc_len m.vt y
  unfold mvalT valV mkV
  cases hu : m.fl.un with
  | true => exact ⟨[], rfl, rfl, fun i l h => by simp at h⟩
  | false =>
    simp only [cond_false]
    cases hv : m.fl.vag with
    | true => exact ⟨_, rfl, h2⟩
    | false =>
      rw [h1 hv hu] at h3
      obtain ⟨l, hl⟩ := List.length_eq_one_iff.1 h3
      rw [hl] at h2 ⊢
      exact ⟨l, rfl, h2.2 0 l rfl⟩
theorem unTup0_ok {x : Bool × List (Lf C)} {v : Value} (h : TupOk K w objs β fp stb x v) : SVOk K w objs β fp stb (unTup0 x) v := by
  obtain ⟨b, ls⟩ := x
  cases b with
  | false => obtain ⟨l, h1, h2⟩ := h; have h1 : ls = [l] := h1; subst h1; exact h2
  | true => exact h
theorem tup_bool (b : Bool) : TupOk K w objs β fp stb (false, [.bool b]) (.bool b) := ⟨.bool b, rfl, rfl⟩
theorem tup2_ok {x y : Bool × List (Lf C)} {u v : Value} (h : TupOk K w objs β fp stb x u) (h' : TupOk K w objs β fp stb y v) : SVOk K w objs β fp stb (.tup [x, y]) (.tuple #[u, v]) := by
  refine ⟨[u, v], rfl, rfl, fun i z hz => ?_⟩
  match i with
  | 0 => simp at hz; subst hz; exact h
  | 1 => simp at hz; subst hz; exact h'
  | i + 2 => simp at hz
theorem s_lookup (hX : XOk P X) (hs : Sim X.K w0 nt S β fp a w) (hd : slot dst nt) {t : TypeId} {x i : Operand} {ok : Bool} (h : ev X ⟨dst, .lookup t x i ok, ty, pos, aft, gd⟩ S k = some r) : Goal P X w0 nt k r Q ⟨dst, .lookup t x i ok, ty, pos, aft, gd⟩ a w := by
  simp only [ev] at h
  split at h
  case h_2 => cases h
  rename_i m l key hm hx hi
  obtain ⟨ktid, etid, hM⟩ := hX.mp _ _ hm
  have hexec : ∀ v, (Instr.lookup t (a.eval x) (a.eval i) ok).run P w = .ok v w → (execOp a.eval ⟨dst, .lookup t x i ok, ty, pos, aft, gd⟩).run P w = .ok (.value v) w := fun v hv => by
    simp [execOp, hv]
  have hx' := opd_ok hs hx
  have hi' := opd_ok hs hi
  cases hbr : m.fl.br with
  | false =>
    rw [hbr] at h
    simp only [cond_false, lookV] at h
    obtain ⟨kx, xs, c, h, hk, hu⟩ := mapAt_ok hs (hX.mp _ _ hm) h hx' hi'
    have hrun := look_run (w := w) hM (u := a.eval x) (x := kx) (xs := xs) (c := c) (hu.imp (fun h => h.2) fun ⟨_, b, es, _, _, q1, q2, _, _, q3⟩ => ⟨b, es, q1, q2, q3⟩) ok
    rw [← hk] at hrun
    cases ok with
    | true => exact wp_value (hexec _ hrun) (next_put hs hd (tup2_ok (mvalT_ok hM _) (tup_bool _)) h)
    | false => exact wp_value (hexec _ hrun) (next_put hs hd (unTup0_ok (mvalT_ok hM _)) h)
  | true =>
    rw [hbr] at h
    simp only [cond_true, lookB] at h
    obtain ⟨kx, xs, c, h, hk, hu⟩ := mapAt_ok hs (hX.mp _ _ hm) h hx' hi'
    have hrun := look_run (w := w) hM (u := a.eval x) (x := kx) (xs := xs) (c := c) (hu.imp (fun h => h.2) fun ⟨_, b, es, _, _, q1, q2, _, _, q3⟩ => ⟨b, es, q1, q2, q3⟩) ok
    rw [← hk] at hrun
    cases ok with
    | true =>
      simp only [cond_true] at h
      rcases mbr_ok kx h with ⟨e, h1, h⟩ | ⟨h1, h⟩
      · simp only [mval, mhas, h1] at hrun
        exact wp_value (hexec _ hrun) (next_put hs hd (tup2_ok (mvalT_ok hM _) (tup_bool _)) h)
      · simp only [mval, mhas, h1] at hrun
        exact wp_value (hexec _ hrun) (next_put hs hd (tup2_ok (mvalT_ok hM _) (tup_bool _)) h)
    | false =>
      simp only [cond_false] at h
      rcases mbr_ok kx h with ⟨e, h1, h⟩ | ⟨h1, h⟩
      · simp only [mval, mhas, h1] at hrun
        exact wp_value (hexec _ hrun) (next_put hs hd (unTup0_ok (mvalT_ok hM _)) h)
      · simp only [mval, mhas, h1] at hrun
        exact wp_value (hexec _ hrun) (next_put hs hd (unTup0_ok (mvalT_ok hM _)) h)

theorem s_makeMap (hs : Sim X.K w0 nt S β fp a w) (hd : slot dst nt) {t : TypeId} {n : Option Operand} (h : ev X ⟨dst, .makeMap t n, ty, pos, aft, gd⟩ S k = some r) : Goal P X w0 nt k r Q ⟨dst, .makeMap t n, ty, pos, aft, gd⟩ a w := by
  simp only [ev] at h
  split at h
  case h_2 => cases h
  rename_i m hm
  split at h
  case h_2 => cases h
  rename_i S' hadd
  obtain ⟨hn, rfl⟩ := add_some hadd
  have hw : Below w.heap.size w (w.alloc (.map #[] 0)) := (Below.refl _ _).alloc (Nat.le_refl _) _
  have h2 := hs.addNew hw hn (ob := .map m.fl m.kt m.vt [] 0) (hv := .map (some w.heap.size)) (F := fun k => k = w.heap.size) (fun k hk => ⟨by omega, by rw [hk]; simp⟩)
    ⟨w.heap.size, #[], rfl, heap_alloc_new w _, fun k => Iff.rfl, rfl⟩
  refine wp_value (v := .map (some w.heap.size)) (w' := w.alloc (.map #[] 0)) ?_ (next_put h2 hd (v := .one (.vo _)) ⟨rfl, (upd_same _ _ _).symm⟩ h)
  simp [execOp, Instr.makeMap, newObj]
  rfl

theorem hset {w : World} {r : Nat} {o o' : Obj} (hb : w.heap[r]? = some o) : (setBlock w r o').heap[r]? = some o' ∧ ∀ r', r' ≠ r → (setBlock w r o').heap[r']? = w.heap[r']? := by
  have hlt : r < w.heap.size := (Array.getElem?_eq_some_iff.1 hb).1
  exact ⟨by simp [setBlock, hlt], fun r' hne => by simp [setBlock, Ne.symm hne]⟩
/-- A map is turned. -/
theorem turn_map (hs : Sim X.K w0 nt S β fp a w) {id b : Nat} {es es' : Array MapEntry} {c c' : Nat} {fl : MK} {kt vt : Ty} {xs xs' : List (Nat × C kt × C vt)} (ho : lk S.objs id = some (.map fl kt vt xs c))
    (hb : w.heap[b]? = some (.map es c)) (hf : ∀ k, fp id k ↔ k = b) (hβ : β id = .map (some b)) (he : es'.toList = xs'.map (entV X.K fl kt vt)) :
    Sim X.K w0 nt (S.setObj id (.map fl kt vt xs' c')) β fp a (setBlock w b (.map es' c')) := by
  have hbl : w0.heap.size ≤ b := (hs.fresh id _ b ho ((hf b).2 rfl)).1
  have hother : ∀ k, k ≠ b → (setBlock w b (.map es' c')).heap[k]? = w.heap[k]? := fun k hk => (hset hb).2 k hk
  refine hs.turn ho (fun _ _ _ e => by cases e) ⟨rfl, rfl, rfl, by simp [setBlock], fun k hk => hother k (by omega)⟩ (fun k hk => hother k fun e => hk ((hf k).2 e)) ?_
  exact ⟨b, es', hβ, (hset hb).1, hf, he⟩
theorem set_run {b : Nat} {es : Array MapEntry} {c : Nat} (hb : w.heap[b]? = some (.map es c)) (o : Obj) : (setObj b o).run P w = .ok () (setBlock w b o) := by
  simp [setObj, Sem.run, hb, setBlock]
theorem get_run {b : Nat} {es : Array MapEntry} {c : Nat} (hb : w.heap[b]? = some (.map es c)) : (getObj b).run P w = .ok (.map es c) w := by
  simp [getObj, Sem.run, hb]
theorem upd_run {T : TypeId} {m : MT Ty} {ktid etid : TypeId} (hM : MFact0 P K T m ktid etid) {b : Nat} {es : Array MapEntry} {c : Nat} {x : C m.kt} {y : C m.vt} {xs : List (Nat × C m.kt × C m.vt)} (hb : w.heap[b]? = some (.map es c)) (he : es.toList = xs.map (entV K m.fl m.kt m.vt)) :
    ∃ es', es'.toList = (mput K m.kt m.vt x y c xs).map (entV K m.fl m.kt m.vt) ∧
      (Instr.mapUpdate T (.map (some b)) (keyV K m.fl m.kt x) (valV K m.fl m.vt y)).run P w = .ok () (setBlock w b (.map es' (mclk K m.kt m.vt x c xs))) := by
  unfold Instr.mapUpdate
  simp only [Sem.run_bind, run_under hM.und, Result.andThen_ok, get_run hb, hM.chk]
  rw [he]
  simp only [hM.find, Result.andThen_ok]
  rcases mfind_get (K := K) (fl := m.fl) x xs 0 with ⟨h1, h2⟩ | ⟨e, j, h1, h2⟩
  · rw [h2]
    refine ⟨es.push { key := keyV K m.fl m.kt x, val := valV K m.fl m.vt y, born := c }, ?_, ?_⟩
    · rw [mput_none x y c xs 0 h2]
      simp [he, entV]
    · simp only [set_run hb, mclk, mhas, h1]
      rfl
  · rw [h2]
    obtain ⟨_, ⟨e', h3, h4⟩, h5⟩ := mput_some x y c xs 0 j _ h2
    simp only [Nat.sub_zero] at h3 h5
    refine ⟨es.modify j fun e => { e with key := keyV K m.fl m.kt x, val := valV K m.fl m.vt y }, ?_, ?_⟩
    · rw [← h5, ← he]
      simp [Array.toList_modify]
    · have hold : ((es[j]?).map (·.key)).getD (keyV K m.fl m.kt x) = keyV K m.fl m.kt e'.2.1 := by
        have : es[j]? = some (entV K m.fl m.kt m.vt e') := by
          rw [← Array.getElem?_toList, he, List.getElem?_map, h3]; rfl
        rw [this]; rfl
      dsimp only
      rw [hold]
      obtain ⟨_, h7⟩ := hM.bits x e'.2.1 h4
      have hk : (Instr.keyThatStays (keyV K m.fl m.kt e'.2.1) (keyV K m.fl m.kt x)).run P w = .ok (keyV K m.fl m.kt x) w := by
        unfold Instr.keyThatStays
        rw [if_pos h7]
        rfl
      simp only [Sem.run_bind, hk, Result.andThen_ok, set_run hb, mclk, mhas, h1]
      rfl
theorem del_run {T k' ty' : TypeId} {m : MT Ty} {ktid etid : TypeId} (hM : MFact0 P K T m ktid etid) {b : Nat} {es : Array MapEntry} {c : Nat} {x : C m.kt} {xs : List (Nat × C m.kt × C m.vt)} (hb : w.heap[b]? = some (.map es c)) (he : es.toList = xs.map (entV K m.fl m.kt m.vt)) :
    ∃ es', es'.toList = (mdel K m.kt m.vt x xs).map (entV K m.fl m.kt m.vt) ∧
      (Builtin.delete_ #[T, k'] ty' #[.map (some b), keyV K m.fl m.kt x]).run P w = .ok (.tuple #[]) (setBlock w b (.map es' c)) := by
  have hrun : (Builtin.delete_ #[T, k'] ty' #[.map (some b), keyV K m.fl m.kt x]).run P w = (match mfind K m.fl m.kt m.vt x xs 0 with
      | some (i, _) => .ok (.tuple #[]) (setBlock w b (.map (es.eraseIdxIfInBounds i) c))
      | none => .ok (.tuple #[]) (setBlock w b (.map es c))) := by
    simp only [Builtin.delete_]
    simp only [List.getElem?_toArray, List.getElem?_cons_zero, List.getElem?_cons_succ, Sem.run_bind, run_under hM.und, Result.andThen_ok, get_run hb, hM.chk]
    rw [he]
    simp only [hM.find, Result.andThen_ok]
    cases mfind K m.fl m.kt m.vt x xs 0 with
    | none => simp only [Sem.run_bind, set_run hb, Result.andThen_ok]; rfl
    | some p => simp only [Sem.run_bind, set_run hb, Result.andThen_ok]; rfl
  cases hf : mfind K m.fl m.kt m.vt x xs 0 with
  | none =>
    rw [hf] at hrun
    exact ⟨es, by rw [mdel_none x xs 0 hf, he], hrun⟩
  | some p =>
    obtain ⟨j, v⟩ := p
    rw [hf] at hrun
    obtain ⟨_, h1, h2⟩ := mdel_some x xs 0 j v hf
    refine ⟨_, ?_, hrun⟩
    have hlt : j < es.size := by
      have : es.toList.length = xs.length := by rw [he]; simp
      simp at this
      omega
    simp only [Nat.sub_zero] at h2
    rw [← h2, ← he]
    simp [Array.eraseIdxIfInBounds, hlt]
theorem upd1_sound (hX : XOk P X) (hs : Sim X.K w0 nt S β fp a w) {t : TypeId} {x i y : Operand} {m : MT Ty} {l : Lf C} {key v : SV C} (hm : X.mp t = some m) (hx : opd S x = some (.one l)) (hi : opd S i = some key) (hy : opdT X S (X.K.tid m.vt) y = some v)
    {k' : St C → Option R} (h : upd1 X S m l key v k' = some r) : ∃ S' w', k' S' = some r ∧ Sim X.K w0 nt S' β fp a w' ∧ (Instr.mapUpdate t (a.eval x) (a.eval i) (a.eval y)).run P w = .ok () w' := by
  obtain ⟨ktid, etid, hM⟩ := hX.mp _ _ hm
  unfold upd1 at h
  split at h
  case h_2 => cases h
  rename_i id
  obtain ⟨kx, xs, c, h, hk, hu⟩ := mapAt_ok hs (hX.mp _ _ hm) h (opd_ok hs hx) (opd_ok hs hi)
  obtain ⟨hb0, h⟩ := cond_some h
  simp only [Bool.and_eq_true, beq_iff_eq] at hb0
  split at h
  case h_2 => cases h
  rename_i vy hvy
  rcases hu with ⟨q1, q2⟩ | ⟨id', b, es, e, ho, q1, q2, q3, q4, q5⟩
  · cases q1
  · cases e
    have hval : a.eval y = valV X.K m.fl m.vt vy := by
      have hv := opdT_ok hs hy
      unfold valV
      cases hun : m.fl.un with
      | true =>
        rw [hun] at hb0
        cases v with
        | agg ls =>
          obtain ⟨us, e, h3⟩ := hv
          have hls : ls = [] := by simpa [SV.leaves] using hb0.2
          subst hls
          obtain rfl : us = [] := by have := h3.1; simpa using this
          exact e
        | _ => simp [aggV] at hb0
      | false =>
        rw [hun] at hvy hb0
        exact sv_mkV hM.fv (X.K.enc_dec _ _ _ hvy) hb0.1.1 (by simpa using hb0.1.2) hv
    obtain ⟨es', h5, h6⟩ := upd_run hM (x := kx) (y := vy) q2 q5
    refine ⟨_, _, h, turn_map hs ho q2 q3 q4 h5, ?_⟩
    rw [q1, hk, hval]
    exact h6
theorem s_mapUpdate (hX : XOk P X) (hs : Sim X.K w0 nt S β fp a w) {t : TypeId} {x i y : Operand} (h : ev X ⟨dst, .mapUpdate t x i y, ty, pos, aft, gd⟩ S k = some r) : Goal P X w0 nt k r Q ⟨dst, .mapUpdate t x i y, ty, pos, aft, gd⟩ a w := by
  simp only [ev] at h
  split at h
  case h_2 => cases h
  rename_i m l key hm hx hi
  split at h
  case h_2 => cases h
  rename_i v hy
  obtain ⟨S', w', h1, h2, h3⟩ := upd1_sound hX hs hm hx hi hy h
  exact wp_skip (by simp [execOp, h3]) ⟨_, ⟨_, _, h2.drop dst undef⟩, h1⟩
theorem s_insert (hX : XOk P X) (hs : Sim X.K w0 nt S β fp a w) {t : TypeId} {x i y : Operand} (h : ev X ⟨dst, .insert t x i y, ty, pos, aft, gd⟩ S k = some r) : Goal P X w0 nt k r Q ⟨dst, .insert t x i y, ty, pos, aft, gd⟩ a w := by
  simp only [ev] at h
  split at h
  case h_2 => cases h
  rename_i m l key hm hx hi
  split at h
  case h_2 => cases h
  rename_i v hy
  obtain ⟨S', w', h1, h2, h3⟩ := upd1_sound hX hs hm hx hi hy h
  exact wp_skip (by simp [execOp, h3]) ⟨_, ⟨_, _, h2.drop dst undef⟩, h1⟩
theorem s_delete (hX : XOk P X) (hs : Sim X.K w0 nt S β fp a w) {as : Array Operand} {ts : Array TypeId} (h : ev X ⟨dst, .call { callee := .builtin .delete, args := as, argTypes := ts }, ty, pos, aft, gd⟩ S k = some r) : Goal P X w0 nt k r Q ⟨dst, .call { callee := .builtin .delete, args := as, argTypes := ts }, ty, pos, aft, gd⟩ a w := by
  obtain ⟨al⟩ := as
  obtain ⟨tl⟩ := ts
  simp only [ev] at h
  split at h
  case h_2 => cases h
  rename_i m x t t'
  split at h
  case h_2 => cases h
  rename_i mt l key hm hx hi
  obtain ⟨ktid, etid, hM⟩ := hX.mp _ _ hm
  unfold del1 at h
  split at h
  case h_2 => cases h
  rename_i id _
  obtain ⟨kx, xs, c, h, hk, hu⟩ := mapAt_ok hs (hX.mp _ _ hm) h (opd_ok hs hx) (opdT_ok hs hi)
  rcases hu with ⟨q1, q2⟩ | ⟨id', b, es, e, ho, q1, q2, q3, q4, q5⟩
  · cases q1
  · cases e
    obtain ⟨es', h5, h6⟩ := del_run (k' := t') (ty' := ty) hM (x := kx) q2 q5
    refine wp_value (v := .tuple #[]) (w' := setBlock w b (.map es' c)) ?_ ⟨_, ⟨_, _, (turn_map hs ho q2 q3 q4 h5).drop dst _⟩, h⟩
    have e : #[m, x].map a.eval = #[Value.map (some b), keyV X.K mt.fl mt.kt kx] := by
      simp [q1, hk]
    simp only [execOp, resolve]
    simp only [Sem.run_bind, Sem.run_pure, Result.andThen_ok, invoke, builtin, e, h6]
end
end Go.Proofs.Ytkiognopoigbhaa.Ab
