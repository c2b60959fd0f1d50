/- The abstract machine, part 12: rows are made, filled, appended to. -/
import Derived.Test.YtkiognopoigbhaaAb11
import Derived.Maps.AppendAt
set_option linter.unusedVariables false
set_option linter.unusedSimpArgs false
set_option linter.unusedSectionVars false
namespace Go.Proofs.Ytkiognopoigbhaa.Ab
open Go Go.RowKit

section
variable {Ty : Type} [DecidableEq Ty] {C : Ty → Type}
variable {P : Program} {X : Cx C} {w0 w : World} {nt : Nat} {S : St C} {β : Nat → Value} {fp : Nat → Nat → Prop} {a : Act} {R : Type} {k : St C → Option R} {r : R}
variable {dst : Option Tmp} {ty : TypeId} {pos : String} {aft : Array Edge} {gd : Option (Nat × Bool)} {Q : Exit → Act → World → Prop}

/-- The blocks of what has left the state. -/
def Left' (S : St C) (fp : Nat → Nat → Prop) (O1 : Objs C) (k : Nat) : Prop := ∃ j ob, lk S.objs j = some ob ∧ lk O1 j = none ∧ fp j k

theorem left_not {K : Cd C} (h : Sim K w0 nt S β fp a w) {O1 : Objs C} (hO : ∀ j ob, lk O1 j = some ob → lk S.objs j = some ob) {j : Nat} {ob : Ob C} (hj : lk O1 j = some ob) {k : Nat} (hk : fp j k) : ¬ Left' S fp O1 k := by
  rintro ⟨j', ob', h1, h2, h3⟩
  have := h.disj j j' ob ob' k (hO j ob hj) h1 hk h3
  subst this
  rw [hj] at h2; cases h2

/-- What has left the state becomes something new. -/
theorem stb_reown {K : Cd C} (h : Sim K w0 nt S β fp a w) {O1 : Objs C} (hO : ∀ j ob, lk O1 j = some ob → lk S.objs j = some ob) {w' : World} (hsz : w.heap.size ≤ w'.heap.size) (hb : ∀ k, k < w.heap.size → ¬ Left' S fp O1 k → w'.heap[k]? = w.heap[k]?)
    {id : Nat} {ob : Ob C} {F : Nat → Prop} (hF : ∀ k, F k → Left' S fp O1 k ∨ w.heap.size ≤ k) {k : Nat} (hk : stbOf S.objs fp w k) :
    stbOf ((id, ob) :: O1) (upd fp id F) w' k ∧ w'.heap[k]? = w.heap[k]? := by
  have hnl : ¬ Left' S fp O1 k := fun ⟨j, ob', h1, _, h3⟩ => hk.2 j ob' h1 h3
  refine ⟨⟨Nat.lt_of_lt_of_le hk.1 hsz, fun j ob' hj => ?_⟩, hb k hk.1 hnl⟩
  rw [lk_cons] at hj
  by_cases e : j = id
  · subst e
    rw [upd_same]
    intro hf
    rcases hF k hf with h1 | h1
    · exact hnl h1
    · have := hk.1; omega
  · rw [if_neg e] at hj
    rw [upd_ne _ _ e]
    exact hk.2 j ob' (hO j ob' hj)
theorem keeps_reown {K : Cd C} (h : Sim K w0 nt S β fp a w) {O1 : Objs C} (hO : ∀ j ob, lk O1 j = some ob → lk S.objs j = some ob) {w' : World} (hb : ∀ k, k < w.heap.size → ¬ Left' S fp O1 k → w'.heap[k]? = w.heap[k]?)
    {id : Nat} {ob : Ob C} {hv : Value} {F : Nat → Prop} {i : Nat} (hne : i ≠ id) : Keeps w w' S.objs ((id, ob) :: O1) β (upd β id hv) fp (upd fp id F) i := by
  refine ⟨upd_ne _ _ hne, fun t xs sh hj => ?_⟩
  rw [lk_cons, if_neg hne] at hj
  exact ⟨hO _ _ hj, fun k hk => ⟨by rw [upd_ne _ _ hne]; exact hk, hb k (h.fresh i _ k (hO _ _ hj) hk).2 (left_not h hO hj hk)⟩⟩

theorem Sim.reown {K : Cd C} (h : Sim K w0 nt S β fp a w) {O1 : Objs C} (hO : ∀ j ob, lk O1 j = some ob → lk S.objs j = some ob) {w' : World} (hw : Below w0.heap.size w w') (hb : ∀ k, k < w.heap.size → ¬ Left' S fp O1 k → w'.heap[k]? = w.heap[k]?)
    {id : Nat} (hid : id ∉ idsE0 S.env ∧ id ∉ idsO O1) {ob : Ob C} {hv : Value} {F : Nat → Prop} (hF : ∀ k, F k → Left' S fp O1 k ∨ (w.heap.size ≤ k ∧ k < w'.heap.size))
    (hob : ObOk K w' w0.heap.size ((id, ob) :: O1) (upd β id hv) (upd fp id F) (stbOf ((id, ob) :: O1) (upd fp id F) w') F ob hv) (bs : Nat) :
    Sim K w0 nt ⟨S.env, (id, ob) :: O1, bs⟩ (upd β id hv) (upd fp id F) a w' := by
  have hst := fun k hk => stb_reown h hO hw.size hb (id := id) (ob := ob) (F := F) (fun k hk => (hF k hk).imp (fun h => h) fun h => h.1) (k := k) hk
  have hsz0 := h.below.size
  have hFi : ∀ k, F k → ∀ j ob', lk O1 j = some ob' → ¬ fp j k := fun k hk j ob' hj hjk => by
    rcases hF k hk with h1 | h1
    · exact left_not h hO hj hjk h1
    · have := (h.fresh j ob' k (hO _ _ hj) hjk).2; omega
  refine ⟨h.below.trans hw, h.defers, h.size, fun j ob' k ho hk => ?_, fun i j oi oj k hi hj hki hkj => ?_, fun j ob' ho => ?_, fun t v ht => ?_⟩
  · rw [lk_cons] at ho
    by_cases e : j = id
    · subst e
      rw [upd_same] at hk
      have := hw.size
      rcases hF k hk with ⟨j', ob1, h1, h2, h3⟩ | h1
      · have := h.fresh j' ob1 k h1 h3; omega
      · omega
    · rw [if_neg e] at ho
      rw [upd_ne _ _ e] at hk
      have := h.fresh j ob' k (hO _ _ ho) hk
      have := hw.size
      omega
  · rw [lk_cons] at hi hj
    by_cases ei : i = id <;> by_cases ej : j = id
    · rw [ei, ej]
    · subst ei
      rw [if_neg ej] at hj
      rw [upd_same] at hki
      rw [upd_ne _ _ ej] at hkj
      exact absurd hkj (hFi k hki j oj hj)
    · subst ej
      rw [if_neg ei] at hi
      rw [upd_same] at hkj
      rw [upd_ne _ _ ei] at hki
      exact absurd hki (hFi k hkj i oi hi)
    · rw [if_neg ei] at hi
      rw [if_neg ej] at hj
      rw [upd_ne _ _ ei] at hki
      rw [upd_ne _ _ ej] at hkj
      exact h.disj i j oi oj k (hO _ _ hi) (hO _ _ hj) hki hkj
  · rw [lk_cons] at ho
    by_cases e : j = id
    · subst e
      rw [if_pos rfl] at ho
      cases ho
      rw [upd_same, upd_same]
      exact hob
    · rw [if_neg e] at ho
      rw [upd_ne _ _ e, upd_ne _ _ e]
      exact (h.objs j ob' (hO _ _ ho)).tr hst (fun k hk => hb k (h.fresh j ob' k (hO _ _ ho) hk).2 (left_not h hO ho hk)) fun kd ls els i hi => keeps_reown h hO hb fun ei => hid.2 (by subst ei; exact (mem_idsO ho).2 kd ls els i hi)
  · exact (h.env t v ht).tr hst fun i hi => keeps_reown h hO hb fun ei => hid.1 (by subst ei; exact mem_idsE ht hi)

theorem below_grown {w0 : World} {row : Option Nat} {w' : World} (h : w.grownBy w' row) (hr : ∀ g, row = some g → w0.heap.size ≤ g) (hsz : w0.heap.size ≤ w.heap.size) : Below w0.heap.size w w' :=
  ⟨h.os, h.tape, h.output, h.size, fun k hk => h.block k (by omega) fun e => by have := hr k e.symm; omega⟩

theorem own_lower {b b' : Nat} {e : TypeId} {s n : Nat} {v : Value} {cs : List Value} (h : w.ownsRow b e s v n cs) (hb : b' ≤ b) : w.ownsRow b' e s v n cs := by
  obtain ⟨h1, h2⟩ := h
  refine ⟨h1, ?_⟩
  rcases h2 with h2 | ⟨g, cap, cur, rfl, hg, r⟩
  · exact .inl h2
  · exact .inr ⟨g, cap, cur, rfl, Nat.le_trans hb hg, r⟩
theorem owns_lt {b : Nat} {e : TypeId} {s n : Nat} {v : Value} {cs : List Value} (h : w.ownsRow b e s v n cs) {g : Nat} (hg : v.ownBlock = some g) : b ≤ g ∧ g < w.heap.size := h.lt g hg

theorem s_makeSlice (hX : XOk P X) (hs : Sim X.K w0 nt S β fp a w) (hd : slot dst nt) {t : TypeId} {x y : Operand} (h : ev X ⟨dst, .makeSlice t x y, ty, pos, aft, gd⟩ S k = some r) : Goal P X w0 nt k r Q ⟨dst, .makeSlice t x y, ty, pos, aft, gd⟩ a w := by
  simp only [ev] at h
  cases hz0 : isZeroC x with
  | true =>
    rw [hz0] at h
    simp only [cond_true] at h
    split at h
    case h_2 => cases h
    rename_i t1 km m ht hy
    obtain ⟨h0, hB⟩ := cond_some h
    obtain ⟨h1, hC⟩ := cond_some hB
    clear h hB
    have h0 := of_decide_eq_true h0
    have h1 := of_decide_eq_true h1
    split at hC
    case h_2 => cases hC
    rename_i S' hadd
    have hx : ∃ kn, a.eval x = .int kn 0 := by
      unfold isZeroC at hz0
      split at hz0
      · rename_i kn n
        have := of_decide_eq_true hz0
        subst this
        exact ⟨kn, rfl⟩
      · cases hz0
    obtain ⟨kn, hx⟩ := hx
    obtain ⟨hn, rfl⟩ := add_some hadd
    have hy := opd_ok hs hy
    simp only [SVOk, LfOk] at hy
    obtain ⟨i, z, hi, hsz, hby, hpos, hz, hzs, hzl⟩ := hX.el t1
    obtain ⟨n', rfl⟩ : ∃ n' : Nat, m = n' := ⟨m.toNat, by omega⟩
    have hb : n' * X.K.bytes t1 ≤ 140737488355328 := by
      have : ((n' * X.K.bytes t1 : Nat) : Int) ≤ 140737488355328 := by rw [Int.natCast_mul]; exact h1
      omega
    have hn' : n' ≤ 140737488355328 := Nat.le_trans (Nat.le_mul_of_pos_right _ hpos) hb
    obtain ⟨w', hr, hown, hg⟩ := run_make_own (P := P) w w.heap.size t (X.K.tid t1) i z (X.K.sz t1) (hX.tk _ _ ht).sli hi hz hsz kn km n' (by rw [hby, Nat.mul_comm]; omega) (by simp only [maxLen]; omega) (Nat.le_refl _)
    have hsz0 := hs.below.size
    have hw : Below w.heap.size w w' := below_grown (w0 := w) hg (fun g e => by cases e) (Nat.le_refl _)
    have hlt := owns_lt hown (g := w.heap.size) rfl
    have h2 := hs.addNew hw hn (ob := .row t1 [] false) (hv := .slice (some ⟨w.heap.size, 0, none⟩) 0 n') (F := fun k => k = w.heap.size) (fun k hk => ⟨by omega, by omega⟩)
      (.row _ t1 [] _ [] (fun _ _ _ => False) (own_lower hown hsz0) (fun g hg => by simp [Value.ownBlock] at hg; omega) (fun _ _ _ h => h.elim) (fun _ _ _ _ _ h => h.elim) (fun j hj => absurd hj (by simp)))
    refine wp_value (v := .slice (some ⟨w.heap.size, 0, none⟩) 0 n') (w' := w') ?_ (next_put h2 hd (v := .one (.ref _ [])) ⟨rfl, (upd_same _ _ _).symm⟩ hC)
    simp only [execOp, hx, hy, Sem.run_bind, hr, Result.andThen_ok, Sem.run_pure]
  | false =>
  rw [hz0] at h
  simp only [cond_false] at h
  split at h
  · rename_i t1 kn n km m ht hx hy
    obtain ⟨e, hA⟩ := cond_some h
    obtain ⟨h0, hB⟩ := cond_some hA
    obtain ⟨h1, hC⟩ := cond_some hB
    clear h hA hB
    have e := of_decide_eq_true e
    have h0 := of_decide_eq_true h0
    have h1 := of_decide_eq_true h1
    subst e
    have h := hC
    clear hC
    split at h
    · rename_i S' hadd
      obtain ⟨hn, rfl⟩ := add_some hadd
      have hx := opd_ok hs hx
      have hy := opd_ok hs hy
      simp only [SVOk, LfOk] at hx hy
      obtain ⟨i, z, hi, hsz, hby, hpos, hz, hzs, hzl⟩ := hX.el t1
      obtain ⟨n', rfl⟩ : ∃ n' : Nat, n = n' := ⟨n.toNat, by omega⟩
      have hb : n' * X.K.bytes t1 ≤ 140737488355328 := by
        have : ((n' * X.K.bytes t1 : Nat) : Int) ≤ 140737488355328 := by rw [Int.natCast_mul]; exact h1
        omega
      have hn' : n' ≤ 140737488355328 := Nat.le_trans (Nat.le_mul_of_pos_right _ hpos) hb
      obtain ⟨w', hr, hown, hg⟩ := run_make_full (P := P) w w.heap.size t (X.K.tid t1) i z (X.K.sz t1) (hX.tk _ _ ht).sli hi hz hsz kn km n' (by rw [hby, Nat.mul_comm]; omega) (by simp only [maxLen]; omega) (Nat.le_refl _)
      have hsz0 := hs.below.size
      have hw : Below w.heap.size w w' := below_grown (w0 := w) hg (fun g e => by cases e) (Nat.le_refl _)
      have hlt := owns_lt hown (g := w.heap.size) rfl
      have hcell : ∀ j i', j < n' → i' < X.K.sz t1 → (madeCells z.cells (n' * X.K.sz t1)).toList.getD (j * X.K.sz t1 + i') undef = z.cells.getD i' undef := fun j i' hj hi' => by
        have hm : j * X.K.sz t1 + i' < n' * X.K.sz t1 := cell_in hj hi'
        have hmod : (j * X.K.sz t1 + i') % X.K.sz t1 = i' := by rw [Nat.add_comm, Nat.add_mul_mod_self_right, Nat.mod_eq_of_lt hi']
        simp [madeCells, List.getD, hm, hzs, hmod, getElem!_def, Array.getD_eq_getD_getElem?, hi']
      have h2 := hs.addNew hw hn (ob := .row t1 (List.replicate n' (X.K.zero t1)) false) (hv := .slice (some ⟨w.heap.size, 0, none⟩) n' n') (F := fun k => k = w.heap.size) (fun k hk => ⟨by omega, by omega⟩)
        (.row _ t1 _ _ (madeCells z.cells (n' * X.K.sz t1)).toList (fun _ _ _ => False) (by simpa using own_lower hown hsz0) (fun g hg => by simp [Value.ownBlock] at hg; omega) (fun _ _ _ h => h.elim) (fun _ _ _ _ _ h => h.elim) (fun j hj i' l hl => by
          have hj' : j < n' := by simpa using hj
          have hl : (X.K.enc t1 (X.K.zero t1))[i']? = some l := by simpa using hl
          rw [hcell j i' hj' (enc_lt hl)]
          exact hzl i' l hl w' _ _))
      refine wp_value (v := .slice (some ⟨w.heap.size, 0, none⟩) n' n') (w' := w') ?_ (next_put h2 hd (v := .one (.ref _ [])) ⟨rfl, (upd_same _ _ _).symm⟩ (by simpa using h))
      simp only [execOp, hx, hy, Sem.run_bind, hr, Result.andThen_ok, Sem.run_pure]
    · cases h
  · cases h

/-- append, whatever is handed. -/
theorem append_run {t e : TypeId} {base : Nat} {i : TypeInfo} {z : Value} {size bytes : Nat} (ht : P.underlying t = some (.slice e)) (hi : P.info? e = some i) (hz : i.zero = some z) (hsize : i.size = size) (hby : i.bytes = bytes) (hzs : z.cells.size = size) (hsz : 0 < size)
    {v : Value} {n : Nat} {cs : List Value} (hown : w.ownsRow base e size v n cs) {A : Option Addr} {m c : Nat} {f : Nat → Value} (hA : 0 < m → ∃ p, A = some p ∧ ∀ j, j < m * size → w.cell? (p.add j) = some (f j)) (h1 : ∀ j, j < m * size → (f j).oneCell' = true)
    (h63 : n + m ≤ maxLen) (hbytes : (n + m) * bytes ≤ 140737488355328) (hbase : base ≤ w.heap.size) {ty : TypeId} :
    ∃ v' w', (Builtin.append_ #[t, t] ty #[v, .slice A m c]).run P w = .ok v' w' ∧ w'.ownsRow base e size v' (n + m) (cs ++ (List.range (m * size)).map f) ∧ w.grownBy w' v.ownBlock ∧ (v'.ownBlock = v.ownBlock ∨ v'.ownBlock = some w.heap.size) := by
  cases A with
  | some p =>
    have hnews : ∀ j u, ((List.range (m * size)).map f)[j]? = some u → w.cell? (p.add j) = some u := fun j u hu => by
      simp only [List.getElem?_map, Option.map_eq_some_iff] at hu
      obtain ⟨j', hj, rfl⟩ := hu
      have hlt := idx_lt hj
      simp only [List.length_range] at hlt
      have : j' = j := by simp [hlt] at hj; exact hj.symm
      subst this
      have hm : 0 < m := by
        rcases Nat.eq_zero_or_pos m with h | h
        · subst h; simp at hlt
        · exact h
      obtain ⟨p', e, hc⟩ := hA hm
      cases e
      exact hc _ hlt
    obtain ⟨v', w', q1, q2, q3, _, q4⟩ := run_append_own_at (P := P) w base t ty e i z size bytes ht hi hz hsize hby hzs hsz v n cs hown p m c ((List.range (m * size)).map f) (by simp) hnews
      (fun u hu => by
        obtain ⟨j, hj, rfl⟩ := List.mem_map.1 hu
        exact h1 j (by simpa using hj)) h63 hbytes hbase
    exact ⟨v', w', q1, q2, q3, q4⟩
  | none =>
    have hm : m = 0 := by
      rcases Nat.eq_zero_or_pos m with h | h
      · exact h
      · obtain ⟨p, e, _⟩ := hA h; cases e
    subst hm
    refine ⟨v, w, ?_, by simpa using hown, ⟨rfl, rfl, rfl, Nat.le_refl _, fun _ _ _ => rfl⟩, .inl rfl⟩
    rcases hown.2 with ⟨rfl, rfl⟩ | ⟨g, cap, cur, rfl, _, _, hnc, _⟩
    · simp [Builtin.append_, run_underlying ht, sizeOf, typeInfo, hi, Builtin.lenOf, Builtin.firstCells]
    · simp [Builtin.append_, run_underlying ht, sizeOf, typeInfo, hi, Builtin.lenOf, Builtin.firstCells, hnc, storeCells]
end
end Go.Proofs.Ytkiognopoigbhaa.Ab
