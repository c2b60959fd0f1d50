/- The plain law: rows of fields, each behind what it needs: the program's search goes deep, the reference takes what is ready. -/
import Derived.Test.YtkiognopoigbhaaPb
set_option linter.unusedVariables false
set_option linter.unusedSimpArgs false
namespace Go.Proofs.Ytkiognopoigbhaa.Ab
open Go Go.RowKit

/-! ### What a field needs -/
def ndep (m : VGateMend) : List ByteArray := (cond (decide (m.When = ⟨#[]⟩)) [] [m.When]) ++ (cond (decide (m.From = ⟨#[]⟩)) [] [m.From])
def depOne (K y : ByteArray) (m : VGateMend) : List ByteArray := cond (decide (m.Kind = K)) (cond (decide (m.Field = y)) (ndep m) []) []
def depsOf (ms : List VGateMend) (K y : ByteArray) : List ByteArray := ms.flatMap (depOne K y)
theorem depOne_len (K y : ByteArray) (m : VGateMend) : (depOne K y m).length ≤ 2 := by
  unfold depOne ndep
  cases decide (m.Kind = K) <;> cases decide (m.Field = y) <;> cases decide (m.When = ⟨#[]⟩) <;> cases decide (m.From = ⟨#[]⟩) <;> simp
theorem depsOf_len (K y : ByteArray) : ∀ ms : List VGateMend, (depsOf ms K y).length ≤ 2 * ms.length
  | [] => by simp [depsOf]
  | m :: r => by
    have := depsOf_len K y r
    have h2 := depOne_len K y m
    unfold depsOf at this ⊢
    rw [List.flatMap_cons, List.length_append, List.length_cons]; omega
theorem deps_take {ms : List VGateMend} {K y : ByteArray} {i : Nat} (hi : i < ms.length) : depsOf (ms.take (i + 1)) K y = depsOf (ms.take i) K y ++ depOne K y ms[i] := by
  unfold depsOf
  rw [← List.take_append_getElem hi, List.flatMap_append]
  simp
theorem mem_bound {a b c : Nat} (hd : a ≤ 2 * b) (hb : b ≤ c) (hl : c ≤ 1048576) : (a + 1) * 16 ≤ 140737488355328 ∧ (a + 1 + 1) * 16 ≤ 140737488355328 := by omega
theorem g89 {ms : List VGateMend} (hl : ms.length ≤ 1048576) (y K : ByteArray) (fs : List VGateField) : G89 y ms ⟨K, fs⟩ = some (depsOf ms K y) := by
  have := lp_idx (rnd := r89_0 fuel) (st := fun i => (y, (⟨K, fs⟩ : VGateShape), depsOf (ms.take i) K y, ms, (ms.length : Int), (i : Int))) (val := fun i => some (depsOf ms K y)) ms.length (fun rec => by
    simp only [r89_0, Int.lt_irrefl, decide_false, cond_false, List.take_length]) (fun rec i hi hr => by
    have hw := wrap_nat (i := i) (by omega)
    have h1 : (i : Int) < (ms.length : Int) := by omega
    have hd := depsOf_len K y (ms.take i)
    have hd2 : (ms.take i).length ≤ ms.length := by simp only [List.length_take]; exact Nat.min_le_right _ _
    rw [deps_take hi] at hr
    generalize hA : depsOf (ms.take i) K y = A at hr hd ⊢
    obtain ⟨m1, m2⟩ := mem_bound hd hd2 hl
    simp only [r89_0, h1, decide_true, cond_true, Int.natCast_nonneg, hw]
    rw [get_cast hi]
    simp only [Option.bind_some, List.length_append, List.length_singleton, m1, m2, decide_true, cond_true]
    unfold depOne ndep at hr
    generalize hB : rec = R at hr ⊢
    cases h3 : decide (ms[i].Kind = K) with
    | false =>
      rw [h3] at hr
      simp only [cond_false, List.append_nil] at hr
      exact hr
    | true =>
      cases h4 : decide (ms[i].Field = y) with
      | false =>
        rw [h3, h4] at hr
        simp only [cond_false, cond_true, List.append_nil] at hr
        exact hr
      | true =>
        rw [h3, h4] at hr
        cases h5 : decide (ms[i].When = ⟨#[]⟩) <;> cases h6 : decide (ms[i].From = ⟨#[]⟩) <;> rw [h5, h6] at hr <;> simp only [cond_false, cond_true, List.append_nil, List.nil_append, ← List.append_assoc] at hr <;> exact hr) fuel 0 (Nat.zero_le _) (by have := fuel_big; omega)
  unfold G89 G89n LP89_0
  simpa [depsOf] using this
/-! ### Lists -/
theorem nodup_len : ∀ {xs ys : List ByteArray}, xs.Nodup → (∀ x ∈ xs, x ∈ ys) → xs.length ≤ ys.length
  | [], ys, _, _ => Nat.zero_le _
  | x :: r, ys, hn, hs => by
    rw [List.nodup_cons] at hn
    obtain ⟨p, q, rfl⟩ := List.append_of_mem (hs x (List.mem_cons_self ..))
    have h := nodup_len (ys := p ++ q) hn.2 fun z hz => by
      have hm := hs z (List.mem_cons_of_mem _ hz)
      rw [List.mem_append, List.mem_cons] at hm
      rw [List.mem_append]
      rcases hm with hm | hm | hm
      · exact Or.inl hm
      · exact absurd (hm ▸ hz) hn.1
      · exact Or.inr hm
    rw [List.length_append] at h
    rw [List.length_append, List.length_cons, List.length_cons]; omega
theorem count_lt {p q : ByteArray → Bool} {y : ByteArray} : ∀ {xs : List ByteArray}, (∀ x ∈ xs, p x = true → q x = true) → y ∈ xs → p y = false → q y = true → xs.countP p < xs.countP q
  | [], _, h, _, _ => by cases h
  | x :: r, hi, hm, h1, h2 => by
    have hr : ∀ z ∈ r, p z = true → q z = true := fun z hz => hi z (List.mem_cons_of_mem _ hz)
    have hle : r.countP p ≤ r.countP q := List.countP_mono_left hr
    rw [List.countP_cons, List.countP_cons]
    rcases List.mem_cons.1 hm with e | hm
    · subst e
      rw [h1, h2]; simp; omega
    · have := count_lt hr hm h1 h2
      have hx := hi x (List.mem_cons_self ..)
      cases hp : p x with
      | true => rw [hx hp]; simp; omega
      | false => cases q x <;> simp <;> omega
/-- Each stands behind what it needs. -/
def Topo (dp : ByteArray → List ByteArray) (T : List ByteArray) : Prop := ∀ p x s, T = p ++ x :: s → ∀ d ∈ dp x, d ∈ p
theorem topo_nil (dp : ByteArray → List ByteArray) : Topo dp [] := fun p x s e => by cases p <;> cases e
theorem topo_snoc {dp : ByteArray → List ByteArray} {T : List ByteArray} {y : ByteArray} (h : Topo dp T) (hd : ∀ d ∈ dp y, d ∈ T) : Topo dp (T ++ [y]) := by
  intro p x s e d hdx
  rcases List.eq_nil_or_concat s with rfl | ⟨s', z, rfl⟩
  · have := List.append_inj' e rfl
    obtain ⟨e1, e2⟩ := this
    cases e2
    subst e1
    exact hd d hdx
  · have e' : T ++ [y] = (p ++ x :: s') ++ [z] := by simpa using e
    have := List.append_inj' e' rfl
    exact h p x s' this.1 d hdx
def rk : List ByteArray → ByteArray → Nat
  | [], _ => 0
  | x :: r, z => if x = z then 0 else rk r z + 1
theorem rk_at {x : ByteArray} {s : List ByteArray} : ∀ {p : List ByteArray}, x ∉ p → rk (p ++ x :: s) x = p.length
  | [], _ => by simp [rk]
  | a :: p, h => by
    have h1 : ¬ a = x := fun e => h (e ▸ List.mem_cons_self ..)
    have := rk_at (s := s) (p := p) fun hm => h (List.mem_cons_of_mem _ hm)
    simp [rk, h1, this]
theorem rk_in {d : ByteArray} {s : List ByteArray} : ∀ {p : List ByteArray}, d ∈ p → rk (p ++ s) d < p.length
  | a :: p, h => by
    by_cases e : a = d
    · simp [rk, e]
    · rcases List.mem_cons.1 h with e' | h
      · exact absurd e'.symm e
      · have := rk_in (s := s) h
        simp only [List.cons_append, rk, if_neg e, List.length_cons]
        omega
/-- A row that is told whole gives each name a rank. -/
theorem topo_rank {dp : ByteArray → List ByteArray} {T : List ByteArray} (hn : T.Nodup) (ht : Topo dp T) {x d : ByteArray} (hx : x ∈ T) (hd : d ∈ dp x) : rk T d < rk T x := by
  obtain ⟨p, s, rfl⟩ := List.append_of_mem hx
  have hxp : x ∉ p := by
    rw [List.nodup_append] at hn
    intro hm
    exact hn.2.2 x hm x (List.mem_cons_self ..) rfl
  rw [rk_at hxp]
  exact rk_in (ht p x s rfl d hd)
/-! ### The program's search -/
abbrev Mp := List (Nat × ByteArray × Int)
noncomputable def sta (m : Mp) (z : ByteArray) : Int := mval KK .e9 .e3 z m
theorem sta_put (m : Mp) (x : ByteArray) (y : Int) (c : Nat) (z : ByteArray) : sta (mput KK .e9 .e3 x y c m) z = if z = x then y else sta m z := mval_put z x y c m
noncomputable def freeN (N : List ByteArray) (m : Mp) : Nat := N.countP fun z => decide (sta m z = 0)
structure Inv (N : List ByteArray) (dp : ByteArray → List ByteArray) (row : List ByteArray) (m : Mp) : Prop where
  three : ∀ z, sta m z = 0 ∨ sta m z = 1 ∨ sta m z = 2
  mem : ∀ z, z ∈ row ↔ sta m z = 2
  nd : row.Nodup
  sub : ∀ z ∈ row, z ∈ N
  topo : Topo dp row
def Rank (N : List ByteArray) (dp : ByteArray → List ByteArray) (ρ : ByteArray → Nat) : Prop := ∀ x ∈ N, ∀ d ∈ dp x, ρ d < ρ x
def Good (N : List ByteArray) (dp : ByteArray → List ByteArray) (y : ByteArray) (m0 : Mp) (r : List ByteArray × Mp × Bool) : Prop :=
  (r.2.2 = true → Inv N dp r.1 r.2.1 ∧ sta r.2.1 y = 2 ∧ (∀ z, sta r.2.1 z = 1 ↔ sta m0 z = 1) ∧ (∀ z, sta m0 z = 2 → sta r.2.1 z = 2)) ∧
  (r.2.2 = false → ∀ ρ, Rank N dp ρ → (∀ x, sta m0 x = 1 → ρ y < ρ x) → False)
theorem free_le {N : List ByteArray} {dp : ByteArray → List ByteArray} {row : List ByteArray} {m m' : Mp} (h : Inv N dp row m) (h1 : ∀ z, sta m z = 1 → sta m' z = 1) (h2 : ∀ z, sta m z = 2 → sta m' z = 2) : freeN N m' ≤ freeN N m := by
  refine List.countP_mono_left fun z hz hp => ?_
  simp only [decide_eq_true_eq] at hp ⊢
  rcases h.three z with e | e | e
  · exact e
  · have := h1 z e; omega
  · have := h2 z e; omega
section
variable {ms : List VGateMend} {K : ByteArray} {fs : List VGateField} {N : List ByteArray}
theorem dfs_loop (hN : N.length ≤ 1048576) (hdep : ∀ x ∈ N, ∀ d ∈ depsOf ms K x, d ∈ N) (d : Nat)
    (ih : ∀ y row m c, y ∈ N → Inv N (depsOf ms K) row m → freeN N m < d → ∃ row' m' c' ok, G109d fuel d y row m c ms K fs = some (row', m', c', ms, K, fs, ok) ∧ Good N (depsOf ms K) y m (row', m', ok))
    (y : ByteArray) (hy : y ∈ N) (m0 : Mp) (h0 : sta m0 y = 0) (hl : (depsOf ms K y).length ≤ 4194304) :
    ∀ n i row m c, i ≤ (depsOf ms K y).length → (depsOf ms K y).length - i < n → Inv N (depsOf ms K) row m → sta m y = 1 → freeN N m < d → (∀ z, sta m z = 1 ↔ (z = y ∨ sta m0 z = 1)) → (∀ j (hj : j < (depsOf ms K y).length), j < i → sta m (depsOf ms K y)[j] = 2) → (∀ z, sta m0 z = 2 → sta m z = 2) →
      ∃ row' m' c' ok, lpN (r109_0 fuel (G109d fuel d)) n (y, depsOf ms K y, ((depsOf ms K y).length : Int), (i : Int), row, m, c, ms, K, fs) = some (row', m', c', ms, K, fs, ok) ∧ Good N (depsOf ms K) y m0 (row', m', ok) := by
  intro n
  induction n with
  | zero => intro i row m c _ h; omega
  | succ n ihn =>
    intro i row m c hi hn hI hy1 hfr h1 hdone h2
    rw [lp_succ]
    rcases Nat.lt_or_ge i (depsOf ms K y).length with h | h
    · have hw := wrap_nat (i := i) (by omega)
      have hlt : (i : Int) < ((depsOf ms K y).length : Int) := by omega
      have hz : (depsOf ms K y)[i] ∈ depsOf ms K y := List.getElem_mem h
      obtain ⟨row', m', c', ok, e, hg⟩ := ih (depsOf ms K y)[i] row m c (hdep y hy _ hz) hI hfr
      simp only [r109_0, hlt, decide_true, cond_true, Int.natCast_nonneg, hw]
      rw [get_cast h]
      simp only [Option.bind_some, e]
      cases ok with
      | false =>
        refine ⟨row', m', c', false, rfl, ?_, fun _ ρ hρ hx => ?_⟩
        · intro hc; cases hc
        · refine hg.2 rfl ρ hρ fun x hx1 => ?_
          have hr := hρ y hy _ hz
          rcases (h1 x).1 hx1 with rfl | hx2
          · exact hr
          · exact Nat.lt_trans hr (hx x hx2)
      | true =>
        obtain ⟨g1, g2, g3, g4⟩ := hg.1 rfl
        simp only [Bool.not_true, cond_false]
        refine ihn (i + 1) row' m' c' (by omega) (by omega) g1 ((g3 y).2 hy1) (Nat.lt_of_le_of_lt (free_le hI (fun z hz => (g3 z).2 hz) g4) hfr) (fun z => (g3 z).trans (h1 z)) (fun j hj hji => ?_) (fun z hz => g4 z (h2 z hz))
        rcases Nat.lt_or_ge j i with h' | h'
        · exact g4 _ (hdone j hj h')
        · obtain rfl : j = i := by omega
          exact g2
    · have e : i = (depsOf ms K y).length := by omega
      subst e
      have hlen : row.length ≤ N.length := nodup_len hI.nd hI.sub
      have m1 : (row.length + 1) * 16 ≤ 140737488355328 := by omega
      simp only [r109_0, Int.lt_irrefl, decide_false, cond_false, List.length_singleton, m1, decide_true, cond_true]
      refine ⟨_, _, _, true, rfl, fun _ => ⟨⟨fun z => ?_, fun z => ?_, ?_, fun z hz => ?_, ?_⟩, ?_, fun z => ?_, fun z hz => ?_⟩, fun hc => by cases hc⟩
      · rw [sta_put]
        by_cases e : z = y
        · simp [e]
        · rw [if_neg e]; exact hI.three z
      · rw [sta_put, List.mem_append, hI.mem]
        by_cases e : z = y
        · subst e; simp
        · rw [if_neg e]; simp [e]
      · rw [List.nodup_append]
        refine ⟨hI.nd, by simp, fun a ha b hb e => ?_⟩
        simp at hb
        subst hb e
        have := (hI.mem a).1 ha
        omega
      · rcases List.mem_append.1 hz with hz | hz
        · exact hI.sub z hz
        · simp at hz; subst hz; exact hy
      · refine topo_snoc hI.topo fun d hd => ?_
        obtain ⟨j, hj, rfl⟩ := List.mem_iff_getElem.1 hd
        exact (hI.mem _).2 (hdone j hj hj)
      · rw [sta_put, if_pos rfl]
      · rw [sta_put]
        by_cases e : z = y
        · subst e; simp [h0]
        · rw [if_neg e, h1]; simp [e]
      · rw [sta_put]
        by_cases e : z = y
        · rw [if_pos e]
        · rw [if_neg e]; exact h2 z hz
theorem dfs (hms : ms.length ≤ 1048576) (hN : N.length ≤ 1048576) (hdep : ∀ x ∈ N, ∀ d ∈ depsOf ms K x, d ∈ N) : ∀ d y row m c, y ∈ N → Inv N (depsOf ms K) row m → freeN N m < d →
    ∃ row' m' c' ok, G109d fuel d y row m c ms K fs = some (row', m', c', ms, K, fs, ok) ∧ Good N (depsOf ms K) y m (row', m', ok) := by
  intro d
  induction d with
  | zero => intro y row m c _ _ h; omega
  | succ d ih =>
    intro y row m c hy hI hfr
    show ∃ row' m' c' ok, B109 fuel (G109d fuel d) y row m c ms K fs = _ ∧ _
    unfold B109
    rw [show mval KK .e9 .e3 y m = sta m y from rfl, g89 hms]
    rcases hI.three y with e | e | e
    · have k1 : (sta m y == 1) = false := by rw [e]; rfl
      have k2 : (sta m y == 2) = false := by rw [e]; rfl
      rw [k1, k2]
      simp only [cond_false, Option.bind_some]
      have hlen := depsOf_len K y ms
      have hst : ∀ z, sta (mput KK .e9 .e3 y 1 c m) z = 1 ↔ (z = y ∨ sta m z = 1) := fun z => by
        rw [sta_put]
        by_cases e' : z = y
        · simp [e']
        · rw [if_neg e']; simp [e']
      have h2 : ∀ z, sta m z = 2 → sta (mput KK .e9 .e3 y 1 c m) z = 2 := fun z hz => by
        rw [sta_put]
        by_cases e' : z = y
        · subst e'; omega
        · rw [if_neg e']; exact hz
      refine dfs_loop (N := N) hN hdep d ih y hy m e (by omega) fuel 0 row _ _ (Nat.zero_le _) (by have := fuel_big; omega) ⟨fun z => ?_, fun z => ?_, hI.nd, hI.sub, hI.topo⟩ ((hst y).2 (Or.inl rfl)) ?_ hst (fun j hj hji => by omega) h2
      · rw [sta_put]
        by_cases e' : z = y
        · simp [e']
        · rw [if_neg e']; exact hI.three z
      · rw [hI.mem, sta_put]
        by_cases e' : z = y
        · subst e'; simp [e]
        · rw [if_neg e']
      · have : freeN N (mput KK .e9 .e3 y 1 c m) < freeN N m := by
          refine count_lt (y := y) (fun z hz hp => ?_) hy ?_ ?_
          · simp only [decide_eq_true_eq] at hp ⊢
            rw [sta_put] at hp
            by_cases e' : z = y
            · rw [if_pos e'] at hp; omega
            · rw [if_neg e'] at hp; exact hp
          · rw [sta_put, if_pos rfl]; rfl
          · rw [e]; rfl
        omega
    · have k1 : (sta m y == 1) = true := by rw [e]; rfl
      rw [k1]
      refine ⟨row, m, c, false, rfl, ?_, ?_⟩
      · intro hc; cases hc
      · intro _ ρ _ hx; exact Nat.lt_irrefl _ (hx y e)
    · have k1 : (sta m y == 1) = false := by rw [e]; rfl
      have k2 : (sta m y == 2) = true := by rw [e]; rfl
      rw [k1, k2]
      refine ⟨row, m, c, true, rfl, ?_, ?_⟩
      · intro _; exact ⟨hI, e, fun z => Iff.rfl, fun z hz => hz⟩
      · intro hc; cases hc
end
end Go.Proofs.Ytkiognopoigbhaa.Ab

/- The plain law: the program's row and the reference's are full together. -/
set_option linter.unusedVariables false
set_option linter.unusedSimpArgs false
namespace Go.Proofs.Ytkiognopoigbhaa.Ab
open Go Go.RowKit

def namesOf (fs : List VGateField) : List ByteArray := fs.map (·.Name)
/-- All fields in an order in which each stands behind what it needs. -/
structure Full (N : List ByteArray) (dp : ByteArray → List ByteArray) (T : List ByteArray) : Prop where
  nd : T.Nodup
  mem : ∀ z, z ∈ T ↔ z ∈ N
  topo : Topo dp T
section
variable {ms : List VGateMend} {K : ByteArray} {fs : List VGateField} {N : List ByteArray}
theorem free_len {m : Mp} : freeN N m ≤ N.length := List.countP_le_length
theorem top_loop (hms : ms.length ≤ 1048576) (hN : N.length ≤ 1048576) (hdep : ∀ x ∈ N, ∀ d ∈ depsOf ms K x, d ∈ N) :
    ∀ n i row m c, i ≤ N.length → N.length - i < n → Inv N (depsOf ms K) row m → (∀ z, sta m z ≠ 1) → (∀ j (hj : j < N.length), j < i → sta m N[j] = 2) →
      ∃ row' ok, lpN (r54_1 fuel) n (N, (N.length : Int), (i : Int), row, m, c, ms, K, fs) = some (row', ok) ∧ (ok = true → Full N (depsOf ms K) row') ∧ (ok = false → ∀ ρ, Rank N (depsOf ms K) ρ → False) := by
  intro n
  induction n with
  | zero => intro i row m c _ h; omega
  | succ n ihn =>
    intro i row m c hi hn hI h1 hdone
    rw [lp_succ]
    rcases Nat.lt_or_ge i N.length with h | h
    · have hw := wrap_nat (i := i) (by omega)
      have hlt : (i : Int) < (N.length : Int) := by omega
      have hz : N[i] ∈ N := List.getElem_mem h
      obtain ⟨row', m', c', ok, e, hg⟩ := dfs (fs := fs) hms hN hdep fuel N[i] row m c hz hI (by have := free_len (N := N) (m := m); have := fuel_big; omega)
      simp only [r54_1, hlt, decide_true, cond_true, Int.natCast_nonneg, hw]
      rw [get_cast h]
      simp only [Option.bind_some, e]
      cases ok with
      | false =>
        refine ⟨[], false, rfl, ?_, fun _ ρ hρ => hg.2 rfl ρ hρ fun x hx => absurd hx (h1 x)⟩
        intro hc; cases hc
      | true =>
        obtain ⟨g1, g2, g3, g4⟩ := hg.1 rfl
        simp only [Bool.not_true, cond_false]
        refine ihn (i + 1) row' m' c' (by omega) (by omega) g1 (fun z hz => h1 z ((g3 z).1 hz)) (fun j hj hji => ?_)
        rcases Nat.lt_or_ge j i with h' | h'
        · exact g4 _ (hdone j hj h')
        · obtain rfl : j = i := by omega
          exact g2
    · have e : i = N.length := by omega
      subst e
      simp only [r54_1, Int.lt_irrefl, decide_false, cond_false]
      refine ⟨row, true, rfl, fun _ => ⟨hI.nd, fun z => ⟨hI.sub z, fun hz => ?_⟩, hI.topo⟩, ?_⟩
      · obtain ⟨j, hj, rfl⟩ := List.mem_iff_getElem.1 hz
        exact (hI.mem _).2 (hdone j hj hj)
      · intro hc; cases hc
theorem g54 (hms : ms.length ≤ 1048576) (hfs : fs.length ≤ 1048576) (hdep : ∀ x ∈ namesOf fs, ∀ d ∈ depsOf ms K x, d ∈ namesOf fs) :
    ∃ row ok, G54 ⟨K, fs⟩ ms = some (row, ok) ∧ (ok = true → Full (namesOf fs) (depsOf ms K) row) ∧ (ok = false → ∀ ρ, Rank (namesOf fs) (depsOf ms K) ρ → False) := by
  have hlen : (namesOf fs).length = fs.length := by simp [namesOf]
  obtain ⟨row, ok, e, h⟩ := top_loop (fs := fs) hms (by omega) hdep fuel 0 [] [] 0 (Nat.zero_le _) (by have := fuel_big; omega)
    ⟨fun z => Or.inl rfl, fun z => ⟨fun h => (by cases h), fun h => (by cases h)⟩, List.nodup_nil, fun z h => (by cases h), topo_nil _⟩ (fun z h => by cases h) (fun j hj h => by omega)
  refine ⟨row, ok, ?_, h⟩
  have key := lp_idx (rnd := r54_0 fuel) (st := fun i => (namesOf (fs.take i), fs, (fs.length : Int), (i : Int), K, fs, ms)) (val := fun i => some (row, ok)) fs.length (fun rec => by
    simp only [r54_0, Int.lt_irrefl, decide_false, cond_false, List.take_length]
    exact e) (fun rec i hi hr => by
    have hw := wrap_nat (i := i) (by omega)
    have h1 : (i : Int) < (fs.length : Int) := by omega
    have hl : (namesOf (fs.take i)).length = i := by simp [namesOf]; omega
    have h3 : (i + 1) * 16 ≤ 140737488355328 := by omega
    simp only [r54_0, h1, decide_true, cond_true, Int.natCast_nonneg, hw]
    rw [get_cast hi]
    simp only [Option.bind_some, hl, List.length_singleton, h3, decide_true, cond_true]
    rw [show namesOf (fs.take i) ++ [fs[i].Name] = namesOf (fs.take (i + 1)) from by unfold namesOf; rw [← List.take_append_getElem hi, List.map_append]; rfl]
    exact hr) fuel 0 (Nat.zero_le _) (by have := fuel_big; omega)
  unfold G54 G54n LP54_0
  simpa [namesOf] using key
/-! ### The reference takes what is ready -/
def readyB (ms : List VGateMend) (K y : ByteArray) (R : List ByteArray) : Bool := (depsOf ms K y).all (hasB R)
theorem ready_cons {m : VGateMend} {r : List VGateMend} {K y : ByteArray} {R : List ByteArray} : readyB (m :: r) K y R = ((depOne K y m).all (hasB R) && readyB r K y R) := by
  unfold readyB depsOf
  rw [List.flatMap_cons, List.all_append]
theorem g103 (hms : ms.length ≤ 1048576) {y : ByteArray} {R : List ByteArray} (hR : R.length ≤ 1048576) : G103 ms K y R = some (readyB ms K y R) := by
  have := lp_idx (rnd := r103_0 fuel) (st := fun i => (ms, K, y, R, (i : Int))) (val := fun i => some (readyB (ms.drop i) K y R)) ms.length (fun rec => by
    simp [r103_0, readyB, depsOf]) (fun rec i hi hr => by
    have hw := wrap_nat (i := i) (by omega)
    have h1 : (i : Int) < (ms.length : Int) := by omega
    simp only [r103_0, h1, decide_true, cond_true, Int.natCast_nonneg, hw]
    rw [get_cast hi, List.drop_eq_getElem_cons hi, ready_cons]
    simp only [Option.bind_some, g102 hR]
    unfold depOne ndep
    rw [hr]
    cases decide (ms[i].Kind = K) with
    | false => simp
    | true =>
      cases decide (ms[i].Field = y) with
      | false => simp
      | true =>
        cases decide (ms[i].When = ⟨#[]⟩) <;> cases decide (ms[i].From = ⟨#[]⟩) <;> simp only [cond_true, cond_false, Bool.not_true, Bool.not_false, List.append_nil, List.nil_append, List.all_cons, List.all_nil, Bool.and_true, Bool.true_and, List.cons_append]
        · cases hasB R ms[i].When <;> cases hasB R ms[i].From <;> simp
        · cases hasB R ms[i].When <;> simp
        · cases hasB R ms[i].From <;> simp) fuel 0 (Nat.zero_le _) (by have := fuel_big; omega)
  unfold G103 G103n LP103_0
  simpa using this
def nextP (ms : List VGateMend) (K : ByteArray) (R : List ByteArray) (f : VGateField) : Bool := !hasB R f.Name && readyB ms K f.Name R
def gr (ms : List VGateMend) (K : ByteArray) (fs : List VGateField) : Nat → List ByteArray → List ByteArray
  | 0, R => R
  | k + 1, R => match fs.find? (nextP ms K R) with
    | some f => gr ms K fs k (R ++ [f.Name])
    | none => gr ms K fs k R
theorem lp73_1 (hms : ms.length ≤ 1048576) (hfs : fs.length ≤ 1048576) {R : List ByteArray} (hR : R.length ≤ 1048576) {rec0 : A73_0 → Option (List (C .e9))} {i : Nat} (hi : i < 4194304) :
    LP73_1 fuel rec0 (ms, R, (i : Int), 0, K, fs) = match fs.find? (nextP ms K R) with
      | some f => rec0 (ms, R ++ [f.Name], ((i + 1 : Nat) : Int), K, fs)
      | none => rec0 (ms, R, ((i + 1 : Nat) : Int), K, fs) := by
  have hw0 := wrap_nat (i := i) (by omega)
  have := lp_idx (rnd := r73_1 fuel rec0) (st := fun j => (ms, R, (i : Int), (j : Int), K, fs)) (val := fun j => match (fs.drop j).find? (nextP ms K R) with
      | some f => rec0 (ms, R ++ [f.Name], ((i + 1 : Nat) : Int), K, fs)
      | none => rec0 (ms, R, ((i + 1 : Nat) : Int), K, fs)) fs.length (fun rec => by
    simp [r73_1, hw0]) (fun rec j hj hr => by
    have hw := wrap_nat (i := j) (by omega)
    have h1 : (j : Int) < (fs.length : Int) := by omega
    have h3 : (R.length + 1) * 16 ≤ 140737488355328 := by omega
    simp only [r73_1, h1, decide_true, cond_true, Int.natCast_nonneg, hw, hw0]
    rw [get_cast hj, List.drop_eq_getElem_cons hj, List.find?_cons]
    simp only [Option.bind_some, g102 hR, g103 hms hR, List.length_singleton, h3, decide_true, cond_true]
    rw [hr]
    unfold nextP
    cases hasB R fs[j].Name <;> cases readyB ms K fs[j].Name R <;> rfl) fuel 0 (Nat.zero_le _) (by have := fuel_big; omega)
  unfold LP73_1
  simpa using this
theorem lp73_0 (hms : ms.length ≤ 1048576) (hfs : fs.length ≤ 1048576) : ∀ k i R n, i + k = fs.length → R.length ≤ i → k < n → lpN (r73_0 fuel) n (ms, R, (i : Int), K, fs) = some (gr ms K fs k R) := by
  intro k
  induction k with
  | zero =>
    intro i R n hi hR hn
    rw [lp_open (by omega)]
    have : ¬ (i : Int) < (fs.length : Int) := by omega
    simp [r73_0, this, gr]
  | succ k ih =>
    intro i R n hi hR hn
    rw [lp_open (by omega)]
    have h1 : (i : Int) < (fs.length : Int) := by omega
    simp only [r73_0, h1, decide_true, cond_true]
    rw [lp73_1 hms hfs (by omega) (by omega)]
    simp only [gr]
    cases fs.find? (nextP ms K R) with
    | none => exact ih (i + 1) R (n - 1) (by omega) (by omega) (by omega)
    | some f => exact ih (i + 1) _ (n - 1) (by omega) (by rw [List.length_append, List.length_singleton]; omega) (by omega)
theorem g73 (hms : ms.length ≤ 1048576) (hfs : fs.length ≤ 1048576) : G73 ⟨K, fs⟩ ms = some (gr ms K fs fs.length []) := by
  unfold G73 G73n
  exact lp73_0 hms hfs fs.length 0 [] fuel (by omega) (Nat.le_refl _) (by have := fuel_big; omega)
structure GInv (N : List ByteArray) (dp : ByteArray → List ByteArray) (R : List ByteArray) : Prop where
  nd : R.Nodup
  sub : ∀ z ∈ R, z ∈ N
  topo : Topo dp R
theorem ready_iff {y : ByteArray} {R : List ByteArray} : readyB ms K y R = true ↔ ∀ d ∈ depsOf ms K y, d ∈ R := by
  unfold readyB
  rw [List.all_eq_true]
  exact ⟨fun h d hd => has_iff.1 (h d hd), fun h d hd => has_iff.2 (h d hd)⟩
theorem next_ginv {R : List ByteArray} {f : VGateField} (h : GInv (namesOf fs) (depsOf ms K) R) (hf : fs.find? (nextP ms K R) = some f) : GInv (namesOf fs) (depsOf ms K) (R ++ [f.Name]) := by
  have hp := List.find?_some hf
  have hm := List.mem_of_find?_eq_some hf
  unfold nextP at hp
  rw [Bool.and_eq_true, Bool.not_eq_true', Bool.eq_false_iff, ne_eq, has_iff, ready_iff] at hp
  refine ⟨?_, fun z hz => ?_, topo_snoc h.topo hp.2⟩
  · rw [List.nodup_append]
    refine ⟨h.nd, by simp, fun a ha b hb e => ?_⟩
    simp at hb
    subst hb e
    exact hp.1 ha
  · rcases List.mem_append.1 hz with hz | hz
    · exact h.sub z hz
    · simp at hz; subst hz; exact List.mem_map.2 ⟨f, hm, rfl⟩
theorem gr_ginv : ∀ k R, GInv (namesOf fs) (depsOf ms K) R → GInv (namesOf fs) (depsOf ms K) (gr ms K fs k R)
  | 0, R, h => h
  | k + 1, R, h => by
    simp only [gr]
    cases hf : fs.find? (nextP ms K R) with
    | none => exact gr_ginv k R h
    | some f => exact gr_ginv k _ (next_ginv h hf)
/-- The first of a list that is not in R. -/
theorem first_out {R : List ByteArray} : ∀ {T : List ByteArray}, (∃ z ∈ T, z ∉ R) → ∃ p x s, T = p ++ x :: s ∧ x ∉ R ∧ ∀ z ∈ p, z ∈ R
  | [], ⟨z, h, _⟩ => by cases h
  | t :: T, ⟨z, h, hz⟩ => by
    by_cases ht : t ∈ R
    · rcases List.mem_cons.1 h with e | h
      · exact absurd (e ▸ ht) hz
      · obtain ⟨p, x, s, e, hx, hp⟩ := first_out (R := R) (T := T) ⟨z, h, hz⟩
        refine ⟨t :: p, x, s, by rw [e]; rfl, hx, fun w hw => ?_⟩
        rcases List.mem_cons.1 hw with rfl | hw
        · exact ht
        · exact hp w hw
    · exact ⟨[], t, T, rfl, ht, fun w hw => by cases hw⟩
theorem next_some {T R : List ByteArray} (hT : Full (namesOf fs) (depsOf ms K) T) (hnd : (namesOf fs).Nodup) (h : GInv (namesOf fs) (depsOf ms K) R) (hl : R.length < (namesOf fs).length) : ∃ f, fs.find? (nextP ms K R) = some f := by
  have hout : ∃ z ∈ T, z ∉ R := Classical.byContradiction fun hc => by
    have : (namesOf fs).length ≤ R.length := nodup_len hnd fun z hz => Classical.byContradiction fun hz2 => hc ⟨z, (hT.mem z).2 hz, hz2⟩
    omega
  obtain ⟨p, x, s, e, hx, hp⟩ := first_out hout
  have hxN : x ∈ namesOf fs := (hT.mem x).1 (by rw [e]; simp)
  obtain ⟨f, hf, rfl⟩ := List.mem_map.1 hxN
  cases hfd : fs.find? (nextP ms K R) with
  | some g => exact ⟨g, rfl⟩
  | none =>
    have := List.find?_eq_none.1 hfd f hf
    refine absurd ?_ this
    unfold nextP
    rw [Bool.and_eq_true, Bool.not_eq_true', Bool.eq_false_iff, ne_eq, has_iff, ready_iff]
    exact ⟨hx, fun d hd => hp d (hT.topo p _ s e d hd)⟩
theorem gr_full {T : List ByteArray} (hT : Full (namesOf fs) (depsOf ms K) T) (hnd : (namesOf fs).Nodup) : ∀ k R, GInv (namesOf fs) (depsOf ms K) R → R.length + k = (namesOf fs).length → (gr ms K fs k R).length = (namesOf fs).length
  | 0, R, h, hl => by simpa [gr] using hl
  | k + 1, R, h, hl => by
    obtain ⟨f, hf⟩ := next_some hT hnd h (by omega)
    simp only [gr, hf]
    exact gr_full hT hnd k _ (next_ginv h hf) (by rw [List.length_append, List.length_singleton]; omega)
theorem ginv_full {R : List ByteArray} (h : GInv (namesOf fs) (depsOf ms K) R) (hl : R.length = (namesOf fs).length) : Full (namesOf fs) (depsOf ms K) R := by
  refine ⟨h.nd, fun z => ⟨h.sub z, fun hz => Classical.byContradiction fun hn => ?_⟩, h.topo⟩
  have : (z :: R).length ≤ (namesOf fs).length := nodup_len (List.nodup_cons.2 ⟨hn, h.nd⟩) fun w hw => by
    rcases List.mem_cons.1 hw with rfl | hw
    · exact hz
    · exact h.sub w hw
  rw [List.length_cons] at this
  omega
/-- The program's search succeeds if and only if the reference's row takes all fields. -/
theorem rows_alike (hms : ms.length ≤ 1048576) (hfs : fs.length ≤ 1048576) (hnd : (namesOf fs).Nodup) (hdep : ∀ x ∈ namesOf fs, ∀ d ∈ depsOf ms K x, d ∈ namesOf fs) :
    ∃ row, G54 ⟨K, fs⟩ ms = some (row, decide ((gr ms K fs fs.length []).length = fs.length)) ∧ ((gr ms K fs fs.length []).length = fs.length → Full (namesOf fs) (depsOf ms K) row) := by
  obtain ⟨row, ok, e, h1, h2⟩ := g54 hms hfs hdep
  have hlen : (namesOf fs).length = fs.length := by simp [namesOf]
  have h0 : GInv (namesOf fs) (depsOf ms K) [] := ⟨List.nodup_nil, fun z h => (by cases h), topo_nil _⟩
  have hok : ok = decide ((gr ms K fs fs.length []).length = fs.length) := by
    cases ok with
    | true =>
      have := gr_full (h1 rfl) hnd fs.length [] h0 (by simp [hlen])
      rw [hlen] at this
      simp [this]
    | false =>
      have hn : ¬ (gr ms K fs fs.length []).length = fs.length := fun hl => by
        have hF := ginv_full (gr_ginv fs.length [] h0) (by rw [hlen]; exact hl)
        exact h2 rfl (rk (gr ms K fs fs.length [])) fun x hx d hd => topo_rank hF.nd hF.topo ((hF.mem x).2 hx) hd
      simp [hn]
  rw [← hok]
  refine ⟨row, e, fun hl => h1 ?_⟩
  rw [hok]
  simp [hl]
end
end Go.Proofs.Ytkiognopoigbhaa.Ab

/- The plain law: mends, all together. -/
set_option linter.unusedVariables false
set_option linter.unusedSimpArgs false
namespace Go.Proofs.Ytkiognopoigbhaa.Ab
open Go Go.RowKit

/-! ### Texts in order differ -/
theorem bl_irrefl : ∀ x : List UInt8, Go.Op.bytesLess x x = false
  | [] => rfl
  | a :: x => by
    have h : ¬ a < a := UInt8.lt_irrefl a
    simp [Go.Op.bytesLess, bl_irrefl x, h]
theorem bl_trans : ∀ {x y z : List UInt8}, Go.Op.bytesLess x y = true → Go.Op.bytesLess y z = true → Go.Op.bytesLess x z = true
  | _, [], _, h, _ => by simp [Go.Op.bytesLess] at h
  | _, _ :: _, [], _, h => by simp [Go.Op.bytesLess] at h
  | [], _ :: _, _ :: _, _, _ => by simp [Go.Op.bytesLess]
  | a :: x, b :: y, c :: z, h1, h2 => by
    simp only [Go.Op.bytesLess, Bool.or_eq_true, Bool.and_eq_true, decide_eq_true_eq, beq_iff_eq] at h1 h2 ⊢
    rcases h1 with h1 | ⟨rfl, h1⟩
    · rcases h2 with h2 | ⟨rfl, h2⟩
      · exact Or.inl (UInt8.lt_trans h1 h2)
      · exact Or.inl h1
    · rcases h2 with h2 | ⟨rfl, h2⟩
      · exact Or.inl h2
      · exact Or.inr ⟨rfl, bl_trans h1 h2⟩
theorem slt_irrefl (a : ByteArray) : slt a a = false := bl_irrefl _
theorem slt_trans {a b c : ByteArray} (h1 : slt a b = true) (h2 : slt b c = true) : slt a c = true := bl_trans h1 h2
/-- Names of which each stands behind the one before it. -/
theorem asc_lt {xs : List ByteArray} (h : ∀ j, 0 < j → j < xs.length → slt (xs.getD (j - 1) ⟨#[]⟩) (xs.getD j ⟨#[]⟩) = true) : ∀ j i, i < j → j < xs.length → slt (xs.getD i ⟨#[]⟩) (xs.getD j ⟨#[]⟩) = true := by
  intro j
  induction j with
  | zero => intro i hi; omega
  | succ j ih =>
    intro i hi hj
    have h1 := h (j + 1) (by omega) hj
    rcases Nat.lt_or_ge i j with h2 | h2
    · exact slt_trans (ih i h2 (by omega)) h1
    · obtain rfl : i = j := by omega
      exact h1
theorem asc_inj {xs : List ByteArray} (h : ∀ j, 0 < j → j < xs.length → slt (xs.getD (j - 1) ⟨#[]⟩) (xs.getD j ⟨#[]⟩) = true) {i j : Nat} (hi : i < xs.length) (hj : j < xs.length) (e : xs.getD i ⟨#[]⟩ = xs.getD j ⟨#[]⟩) : i = j := by
  rcases Nat.lt_trichotomy i j with h1 | h1 | h1
  · have := asc_lt h j i h1 hj
    rw [e, slt_irrefl] at this; cases this
  · exact h1
  · have := asc_lt h i j h1 hi
    rw [e, slt_irrefl] at this; cases this
theorem ascAt_lt {xs : List ByteArray} {j : Nat} (h0 : 0 < j) (h : ascAt xs j = true) : slt (xs.getD (j - 1) ⟨#[]⟩) (xs.getD j ⟨#[]⟩) = true := by
  unfold ascAt at h
  rw [Bool.and_eq_true, Bool.or_eq_true] at h
  rcases h.2 with e | e
  · exact absurd (of_decide_eq_true e) (by omega)
  · exact e
/-! ### Shapes in order -/
structure ShapesOk (xs : List VGateShape) : Prop where
  asc : ascB (kindsOf xs) = true
  fl : ∀ x ∈ xs, fldsB (kindsOf xs) x.Fields = true
theorem shapes_ok {xs : List VGateShape} (h : shapesB xs = true) : ShapesOk xs := by
  unfold shapesB at h
  rw [Bool.and_eq_true, asc_shapes, Bool.and_eq_true, List.all_eq_true] at h
  refine ⟨h.2.1, fun x hx => ?_⟩
  have := h.2.2 x hx
  unfold shB at this
  rw [Bool.and_eq_true] at this
  exact this.2
theorem shape_at {xs : List VGateShape} (h : ShapesOk xs) {x : VGateShape} (hx : x ∈ xs) : shapeAt xs x.Kind = some x := by
  obtain ⟨i, hi, rfl⟩ := List.mem_iff_getElem.1 hx
  have hlen : (kindsOf xs).length = xs.length := by simp [kindsOf]
  have ha : ∀ j, 0 < j → j < (kindsOf xs).length → slt ((kindsOf xs).getD (j - 1) ⟨#[]⟩) ((kindsOf xs).getD j ⟨#[]⟩) = true := fun j h0 hj => by
    have := h.asc
    unfold ascB at this
    exact ascAt_lt h0 (allN_iff.1 this j hj)
  unfold shapeAt
  rw [List.find?_eq_some_iff_getElem]
  refine ⟨by simp, i, hi, rfl, fun j hj => ?_⟩
  simp only [Bool.not_eq_true', decide_eq_false_iff_not]
  intro e
  have := asc_inj ha (i := j) (j := i) (by omega) (by omega) (by rw [kinds_at (show j < xs.length by omega), kinds_at hi]; exact e)
  omega
theorem names_nodup {ks : List ByteArray} {fs : List VGateField} (h : fldsB ks fs = true) : (namesOf fs).Nodup := by
  unfold fldsB at h
  rw [allN_iff] at h
  have hlen : (namesOf fs).length = fs.length := by simp [namesOf]
  unfold List.Nodup
  rw [List.pairwise_iff_getElem]
  intro i j hi hj hij e
  have := h j (by omega)
  rw [Bool.and_eq_true, Bool.not_eq_true', Bool.eq_false_iff, ne_eq, dup_iff (show j < fs.length by omega)] at this
  exact this.2 ⟨i, hij, by simpa [namesOf] using e⟩
theorem pl_mem {fs : List VGateField} {a : ByteArray} (h : plB fs a = true) : a ∈ namesOf fs := by
  unfold plB fieldOf at h
  cases hf : fs.find? (fun x => decide (x.Name = a)) with
  | none => rw [hf] at h; cases h
  | some x =>
    have h1 := List.find?_some hf
    have h2 := List.mem_of_find?_eq_some hf
    simp only [decide_eq_true_eq] at h1
    exact List.mem_map.2 ⟨x, h2, h1⟩
theorem deps_in {xs : List VGateShape} {ms : List VGateMend} (h : ShapesOk xs) (hm : ms.all (mdB xs) = true) {x : VGateShape} (hx : x ∈ xs) : ∀ y ∈ namesOf x.Fields, ∀ d ∈ depsOf ms x.Kind y, d ∈ namesOf x.Fields := by
  intro y hy d hd
  unfold depsOf at hd
  obtain ⟨m, hmm, hd⟩ := List.mem_flatMap.1 hd
  have hmd := List.all_eq_true.1 hm m hmm
  unfold depOne at hd
  cases hk : decide (m.Kind = x.Kind) with
  | false => rw [hk] at hd; cases hd
  | true =>
    cases hf : decide (m.Field = y) with
    | false => rw [hk, hf] at hd; cases hd
    | true =>
      rw [hk, hf] at hd
      simp only [cond_true] at hd
      unfold mdB at hmd
      rw [of_decide_eq_true hk, shape_at h hx] at hmd
      simp only at hmd
      unfold mendB at hmd
      simp only [Bool.and_eq_true, Bool.or_eq_true] at hmd
      unfold ndep at hd
      rcases List.mem_append.1 hd with hd | hd
      · cases hw : decide (m.When = ⟨#[]⟩) with
        | true => rw [hw] at hd; cases hd
        | false =>
          rw [hw] at hd
          simp at hd
          subst hd
          rcases hmd.2.1 with h' | h'
          · rw [hw] at h'; cases h'
          · exact pl_mem h'
      · cases hw : decide (m.From = ⟨#[]⟩) with
        | true => rw [hw] at hd; cases hd
        | false =>
          rw [hw] at hd
          simp at hd
          subst hd
          rcases hmd.2.2.1 with h' | h'
          · rw [hw] at h'; cases h'
          · exact pl_mem h'
def rwB (ms : List VGateMend) (x : VGateShape) : Bool := decide ((gr ms x.Kind x.Fields x.Fields.length []).length = x.Fields.length)
theorem ne_cast (a b : Nat) : ((a : Int) != (b : Int)) = !decide (a = b) := by
  by_cases h : a = b
  · subst h; simp
  · have : ¬ (a : Int) = (b : Int) := by omega
    simp [h, this]
theorem lp39_1 {xs : List VGateShape} {ms : List VGateMend} (hx : xs.length ≤ 1048576) (hs : ∀ x ∈ xs, SSm x) (hl : ms.length ≤ 1048576) : LP39_1 fuel (xs, ms, 0) = some (xs.all (rwB ms)) := by
  refine all_lp (rnd := r39_1 fuel) (st := fun i => (xs, ms, (i : Int))) hx (fun rec => by simp [r39_1]) (fun rec i hi => ?_)
  have hw := wrap_nat (i := i) (by omega)
  have h1 : (i : Int) < (xs.length : Int) := by omega
  have hg : G73 xs[i] ms = some (gr ms xs[i].Kind xs[i].Fields xs[i].Fields.length []) := g73 hl (hs _ (List.getElem_mem hi)).l
  simp only [r39_1]
  rw [get_cast hi, hw]
  simp only [h1, decide_true, cond_true, Int.natCast_nonneg, Option.bind_some, hg, ne_cast]
  rw [show decide ((gr ms xs[i].Kind xs[i].Fields xs[i].Fields.length []).length = xs[i].Fields.length) = rwB ms xs[i] from rfl]
  cases rwB ms xs[i] <;> rfl
theorem lp31_1 {xs : List VGateShape} {ms : List VGateMend} (hx : xs.length ≤ 1048576) (hs : ∀ x ∈ xs, SSm x) (hl : ms.length ≤ 1048576) (h : ShapesOk xs) (hm : ms.all (mdB xs) = true) : LP31_1 fuel (ms, xs, (xs.length : Int), 0) = some (xs.all (rwB ms)) := by
  refine all_lp (rnd := r31_1 fuel) (st := fun i => (ms, xs, (xs.length : Int), (i : Int))) hx (fun rec => by simp [r31_1]) (fun rec i hi => ?_)
  have hw := wrap_nat (i := i) (by omega)
  have h1 : (i : Int) < (xs.length : Int) := by omega
  have hi' : xs[i] ∈ xs := List.getElem_mem hi
  obtain ⟨row, e, _⟩ := rows_alike (K := xs[i].Kind) hl (hs _ hi').l (names_nodup (h.fl _ hi')) (deps_in h hm hi')
  have hg : G54 xs[i] ms = some (row, rwB ms xs[i]) := e
  simp only [r31_1]
  rw [get_cast hi, hw]
  simp only [h1, decide_true, cond_true, Int.natCast_nonneg, Option.bind_some, hg]
  cases rwB ms xs[i] <;> rfl
theorem len12 {n : Nat} : decide ((n : Int) > 12) = !decide (n ≤ 12) := by
  by_cases h : n ≤ 12
  · have : ¬ (n : Int) > 12 := by omega
    simp [h, this]
  · have : (n : Int) > 12 := by omega
    rw [decide_eq_true this, decide_eq_false h]; rfl
def mendsB (xs : List VGateShape) (ms : List VGateMend) : Bool := shapesB xs && (decide (ms.length ≤ 12) && (ms.all (mdB xs) && xs.all (rwB ms)))
structure LSm (xs : List VGateShape) (ms : List VGateMend) : Prop where
  x : xs.length ≤ 1048576
  s : ∀ x ∈ xs, SSm x
  l : ms.length ≤ 1048576
  m : ∀ m ∈ ms, m.Put.size ≤ 1048576
theorem g39 {xs : List VGateShape} {ms : List VGateMend} (h : LSm xs ms) : G39 xs ms = some (mendsB xs ms) := by
  unfold G39 G39n mendsB
  rw [g71 h.x h.s, len12, lp39_0 h.x h.s h.l h.m, lp39_1 h.x h.s h.l]
  cases shapesB xs <;> cases decide (ms.length ≤ 12) <;> cases ms.all (mdB xs) <;> rfl
theorem g31 {xs : List VGateShape} {ms : List VGateMend} (h : LSm xs ms) : G31 xs ms = some (mendsB xs ms) := by
  unfold G31 G31n mendsB
  rw [g67 h.x h.s, len12, lp31_0 h.x h.s h.l h.m]
  cases hsh : shapesB xs with
  | false => rfl
  | true =>
    cases decide (ms.length ≤ 12) with
    | false => rfl
    | true =>
      cases hm : ms.all (mdB xs) with
      | false => rfl
      | true =>
        rw [lp31_1 h.x h.s h.l (shapes_ok hsh) hm]
        rfl
end Go.Proofs.Ytkiognopoigbhaa.Ab

/- The plain law: teams, and the law. -/
set_option linter.unusedVariables false
set_option linter.unusedSimpArgs false
namespace Go.Proofs.Ytkiognopoigbhaa.Ab
open Go Go.RowKit

def teamNames (ts : List VGateTeam) : List ByteArray := ts.map (·.Name)
def teamB (ts : List VGateTeam) (s : ByteArray) : Bool := ts.any fun x => decide (x.Name = s)
def overOf (ts : List VGateTeam) (s : ByteArray) : ByteArray := match ts.find? fun x => decide (x.Name = s) with
  | some x => x.Over
  | none => ⟨#[]⟩
def cl (ts : List VGateTeam) : Nat → ByteArray → Bool
  | 0, s => decide (s = ⟨#[]⟩)
  | k + 1, s => cond (decide (s = ⟨#[]⟩)) true (cl ts k (overOf ts s))
theorem g75 {ts : List VGateTeam} (h : ts.length ≤ 1048576) (s : ByteArray) : G75 ts s = some (teamB ts s) := by
  unfold G75 G75n
  refine any_lp (rnd := r75_0 fuel) (st := fun i => (ts, s, (i : Int))) h (fun rec => by simp [r75_0]) (fun rec i hi => ?_)
  have hw := wrap_nat (i := i) (by omega)
  have h1 : (i : Int) < (ts.length : Int) := by omega
  simp only [r75_0]
  rw [get_cast hi, hw]
  simp only [h1, decide_true, cond_true, Int.natCast_nonneg, Option.bind_some]
theorem g76 {ts : List VGateTeam} (h : ts.length ≤ 1048576) (s : ByteArray) : G76 ts s = some (overOf ts s) := by
  have := lp_idx (rnd := r76_0 fuel) (st := fun i => (ts, s, (i : Int))) (val := fun i => some (match (ts.drop i).find? fun x => decide (x.Name = s) with
  | some x => x.Over
  | none => ⟨#[]⟩)) ts.length (fun rec => by simp [r76_0]) (fun rec i hi hr => by
    have hw := wrap_nat (i := i) (by omega)
    have h1 : (i : Int) < (ts.length : Int) := by omega
    simp only [r76_0]
    rw [get_cast hi, hw, List.drop_eq_getElem_cons hi, List.find?_cons]
    simp only [h1, decide_true, cond_true, Int.natCast_nonneg, Option.bind_some]
    cases decide (ts[i].Name = s) with
    | true => rfl
    | false => exact hr) fuel 0 (Nat.zero_le _) (by have := fuel_big; omega)
  unfold G76 G76n LP76_0 overOf
  simpa using this
theorem lp40_1 {ts : List VGateTeam} (h : ts.length ≤ 1048576) {rec0 : A40_0 → Option Bool} {i : Nat} (hi : i < 4194304) : ∀ (k : Nat) (x : Int) (s : ByteArray) (n : Nat), x + k = 5 → 0 ≤ x → k < n →
    lpN (r40_1 fuel rec0) n (ts, (i : Int), s, x) = cond (cl ts k s) (rec0 (ts, ((i + 1 : Nat) : Int))) (some false) := by
  intro k
  induction k with
  | zero =>
    intro x s n hx hx0 hn
    rw [lp_open (by omega)]
    have hw := wrap_nat (i := i) (by omega)
    have h1 : ¬ x ≤ 4 := by omega
    simp only [r40_1, h1, decide_false, cond_false, hw, cl]
    cases decide (s = ⟨#[]⟩) <;> rfl
  | succ k ih =>
    intro x s n hx hx0 hn
    rw [lp_open (by omega)]
    have hw := wrap_nat (i := i) (by omega)
    have h1 : x ≤ 4 := by omega
    have hw2 : IntKind.i64.wrap (x + 1) = x + 1 := wrap_id (by omega) (by omega)
    simp only [r40_1, h1, decide_true, cond_true, hw, hw2, g76 h, Option.bind_some, cl]
    cases decide (s = ⟨#[]⟩) with
    | true => rfl
    | false => exact ih (x + 1) _ (n - 1) (by omega) (by omega) (by omega)
def tbB (ts : List VGateTeam) (j : Nat) : Bool := ascAt (teamNames ts) j && (match ts[j]? with | some x => decide (x.Over = ⟨#[]⟩) || teamB ts x.Over | none => true)
theorem tname_at {ts : List VGateTeam} {i : Nat} (h : i < ts.length) : (teamNames ts).getD i ⟨#[]⟩ = ts[i].Name := by simp [teamNames, List.getD, h]
def tcB (ts : List VGateTeam) (j : Nat) : Bool := match ts[j]? with | some x => cl ts 5 x.Name | none => true
theorem tb_at {ts : List VGateTeam} {i : Nat} (hi : i < ts.length) : tbB ts i = ((nmB ts[i].Name && (decide (i = 0) || slt ((teamNames ts).getD (i - 1) ⟨#[]⟩) ts[i].Name)) && (decide (ts[i].Over = ⟨#[]⟩) || teamB ts ts[i].Over)) := by
  unfold tbB ascAt
  rw [tname_at hi, List.getElem?_eq_getElem hi]
theorem g40 {ts : List VGateTeam} (h : ts.length ≤ 1048576) : G40 ts = some (decide (ts.length ≤ 12) && allN (fun j => tbB ts j && tcB ts j) ts.length 0) := by
  have hl : LP40_0 fuel (ts, 0) = some (allN (fun j => tbB ts j && tcB ts j) ts.length 0) := lp_idx (rnd := r40_0 fuel) (st := fun i => (ts, (i : Int))) (val := fun i => some (allN (fun j => tbB ts j && tcB ts j) ts.length i)) ts.length (fun rec => by simp [r40_0, allN_end]) (fun rec i hi hr => by
    have h1 : (i : Int) < (ts.length : Int) := by omega
    have hcl : LP40_1 fuel rec (ts, (i : Int), ts[i].Name, 0) = cond (cl ts 5 ts[i].Name) (rec (ts, ((i + 1 : Nat) : Int))) (some false) := lp40_1 h (by omega) 5 0 _ fuel (by omega) (by omega) (by have := fuel_big; omega)
    simp only [r40_0, h1, decide_true, cond_true, Int.natCast_nonneg]
    rw [get_cast hi, allN_step hi, tb_at hi]
    rw [show tcB ts i = cl ts 5 ts[i].Name from by unfold tcB; rw [List.getElem?_eq_getElem hi]]
    simp only [Option.bind_some, g74, g75 h, hcl]
    rw [hr]
    cases hb : nmB ts[i].Name with
    | false => rfl
    | true =>
      rcases Nat.eq_zero_or_pos i with h0 | h0
      · subst h0
        cases decide (ts[0].Over = ⟨#[]⟩) <;> cases teamB ts ts[0].Over <;> cases cl ts 5 ts[0].Name <;> rfl
      · have hp := wrap_pred h0 (by omega)
        have h2 : (i : Int) > 0 := by omega
        have h3 : ¬ i = 0 := by omega
        rw [hp, get_cast (show i - 1 < ts.length by omega), tname_at (show i - 1 < ts.length by omega)]
        simp only [h2, h3, decide_true, decide_false, cond_true, Int.natCast_nonneg, Option.bind_some, Bool.not_true, cond_false, Bool.false_or, Bool.true_and]
        cases slt (ts[i - 1]'(by omega)).Name ts[i].Name <;> cases decide (ts[i].Over = ⟨#[]⟩) <;> cases teamB ts ts[i].Over <;> cases cl ts 5 ts[i].Name <;> rfl) fuel 0 (Nat.zero_le _) (by have := fuel_big; omega)
  unfold G40 G40n
  rw [len12, hl]
  cases decide (ts.length ≤ 12) <;> rfl
/-! ### The program's teams -/
theorem pos_team {ts : List VGateTeam} {s : ByteArray} : decide (posL (fun x => decide (x.Name = s)) ts 0 < 0) = !teamB ts s := by
  unfold teamB
  rcases posL_cases (fun x : VGateTeam => decide (x.Name = s)) ts with ⟨e, h⟩ | ⟨i, hi, e, h, _⟩
  · rw [e]
    have : ts.any (fun x => decide (x.Name = s)) = false := by
      rw [List.any_eq_false]
      intro x hx
      rw [h x hx]; simp
    rw [this]; rfl
  · rw [e]
    have : ts.any (fun x => decide (x.Name = s)) = true := List.any_eq_true.2 ⟨ts[i], List.getElem_mem hi, h⟩
    have hn : ¬ (i : Int) < 0 := by omega
    rw [this, decide_eq_false hn]; rfl
structure TOk (ts : List VGateTeam) : Prop where
  l : ts.length ≤ 1048576
  b : ∀ j, j < ts.length → tbB ts j = true
theorem tok_over {ts : List VGateTeam} (h : TOk ts) {x : VGateTeam} (hx : x ∈ ts) (h0 : x.Over ≠ ⟨#[]⟩) : teamB ts x.Over = true := by
  obtain ⟨i, hi, rfl⟩ := List.mem_iff_getElem.1 hx
  have := h.b i hi
  rw [tb_at hi, Bool.and_eq_true, Bool.or_eq_true] at this
  rcases this.2 with e | e
  · exact absurd (of_decide_eq_true e) h0
  · exact e
theorem over_self {ts : List VGateTeam} (h : TOk ts) {x : VGateTeam} (hx : x ∈ ts) : overOf ts x.Name = x.Over := by
  obtain ⟨i, hi, rfl⟩ := List.mem_iff_getElem.1 hx
  have hlen : (teamNames ts).length = ts.length := by simp [teamNames]
  have ha : ∀ j, 0 < j → j < (teamNames ts).length → slt ((teamNames ts).getD (j - 1) ⟨#[]⟩) ((teamNames ts).getD j ⟨#[]⟩) = true := fun j h0 hj => by
    have := h.b j (by omega)
    unfold tbB at this
    rw [Bool.and_eq_true] at this
    exact ascAt_lt h0 this.1
  have : ts.find? (fun x => decide (x.Name = ts[i].Name)) = some ts[i] := by
    rw [List.find?_eq_some_iff_getElem]
    refine ⟨by simp, i, hi, rfl, fun j hj => ?_⟩
    simp only [Bool.not_eq_true', decide_eq_false_iff_not]
    intro e
    have := asc_inj ha (i := j) (j := i) (by omega) (by omega) (by rw [tname_at (show j < ts.length by omega), tname_at hi]; exact e)
    omega
  unfold overOf
  rw [this]
theorem lp42_2 {ts : List VGateTeam} (h : TOk ts) {rec1 : A42_1 → Option Bool} {i : Nat} {L : Int} (hi : i < 4194304) : ∀ (k : Nat) (x : Int) (s : ByteArray) (n : Nat), x + k = 4 → 0 ≤ x → k < n → (s ≠ ⟨#[]⟩ → teamB ts s = true) →
    lpN (r42_2 fuel rec1) n (ts, x, s, ts, L, (i : Int)) = cond (cl ts k s) (rec1 (ts, ts, L, ((i + 1 : Nat) : Int))) (some false) := by
  intro k
  induction k with
  | zero =>
    intro x s n hx hx0 hn hs
    rw [lp_open (by omega)]
    have hw := wrap_nat (i := i) (by omega)
    have hw2 : IntKind.i64.wrap (x + 1) = x + 1 := wrap_id (by omega) (by omega)
    have h1 : x + 1 > 4 := by omega
    simp only [r42_2, hw, hw2, h1, decide_true, cl]
    cases decide (s = ⟨#[]⟩) <;> rfl
  | succ k ih =>
    intro x s n hx hx0 hn hs
    rw [lp_open (by omega)]
    have hw := wrap_nat (i := i) (by omega)
    have hw2 : IntKind.i64.wrap (x + 1) = x + 1 := wrap_id (by omega) (by omega)
    have h1 : ¬ x + 1 > 4 := by omega
    by_cases he : s = ⟨#[]⟩
    · simp only [r42_2, he, decide_true, cl, hw, cond_true, cond_false, Bool.not_true]
    · simp only [r42_2, hw, hw2, h1, he, decide_false, cl, cond_false, Bool.not_false, cond_true, g79 h.l, Option.bind_some]
      rcases pos_find (fun x : VGateTeam => decide (x.Name = s)) ts with ⟨e, hf⟩ | ⟨j, hj, e, hf⟩
      · have hb := hs he
        unfold teamB at hb
        obtain ⟨t, ht, hp⟩ := List.any_eq_true.1 hb
        exact absurd hp (List.find?_eq_none.1 hf t ht)
      · rw [e]
        simp only [Int.natCast_nonneg, decide_true, cond_true]
        rw [get_cast hj]
        have ho : overOf ts s = ts[j].Over := by unfold overOf; rw [hf]
        simp only [Option.bind_some, ho]
        exact ih (x + 1) _ (n - 1) (by omega) (by omega) (by omega) fun h0 => tok_over h (List.getElem_mem hj) h0
theorem cl_name {ts : List VGateTeam} (h : TOk ts) {i : Nat} (hi : i < ts.length) : cl ts 5 ts[i].Name = cl ts 4 ts[i].Over := by
  have hb := h.b i hi
  rw [tb_at hi, Bool.and_eq_true, Bool.and_eq_true] at hb
  have hn := nm_ne hb.1.1
  show cond (decide (ts[i].Name = ⟨#[]⟩)) true (cl ts 4 (overOf ts ts[i].Name)) = _
  rw [decide_eq_false hn, over_self h (List.getElem_mem hi)]
  rfl
theorem lp42_1 {ts : List VGateTeam} (h : TOk ts) : LP42_1 fuel (ts, ts, (ts.length : Int), 0) = some (allN (tcB ts) ts.length 0) :=
  lp_idx (rnd := r42_1 fuel) (st := fun i => (ts, ts, (ts.length : Int), (i : Int))) (val := fun i => some (allN (tcB ts) ts.length i)) ts.length (fun rec => by simp [r42_1, allN_end]) (fun rec i hi hr => by
    have hl := h.l
    have h1 : (i : Int) < (ts.length : Int) := by omega
    have hcl : LP42_2 fuel rec (ts, 0, ts[i].Over, ts, (ts.length : Int), (i : Int)) = cond (cl ts 4 ts[i].Over) (rec (ts, ts, (ts.length : Int), ((i + 1 : Nat) : Int))) (some false) := lp42_2 h (by omega) 4 0 _ fuel (by omega) (by omega) (by have := fuel_big; omega) fun h0 => tok_over h (List.getElem_mem hi) h0
    simp only [r42_1, h1, decide_true, cond_true, Int.natCast_nonneg]
    rw [get_cast hi, allN_step hi]
    rw [show tcB ts i = cl ts 5 ts[i].Name from by unfold tcB; rw [List.getElem?_eq_getElem hi], cl_name h hi]
    simp only [Option.bind_some, hcl]
    rw [hr]
    cases cl ts 4 ts[i].Over <;> rfl) fuel 0 (Nat.zero_le _) (by have := fuel_big; have := h.l; omega)
theorem g42 {ts : List VGateTeam} (h : ts.length ≤ 1048576) : G42 ts = some (decide (ts.length ≤ 12) && allN (fun j => tbB ts j && tcB ts j) ts.length 0) := by
  have hl : LP42_0 fuel (ts, ts, (ts.length : Int), 0) = cond (allN (tbB ts) ts.length 0) (LP42_1 fuel (ts, ts, (ts.length : Int), 0)) (some false) := lp_idx (rnd := r42_0 fuel) (st := fun i => (ts, ts, (ts.length : Int), (i : Int))) (val := fun i => cond (allN (tbB ts) ts.length i) (LP42_1 fuel (ts, ts, (ts.length : Int), 0)) (some false)) ts.length (fun rec => by simp [r42_0, allN_end]) (fun rec i hi hr => by
    have h1 : (i : Int) < (ts.length : Int) := by omega
    have hw := wrap_nat (i := i) (by omega)
    simp only [r42_0, h1, decide_true, cond_true, Int.natCast_nonneg, hw]
    rw [get_cast hi, allN_step hi, tb_at hi]
    simp only [Option.bind_some, g78, g79 h, pos_team]
    rw [hr]
    cases hb : nmB ts[i].Name with
    | false => rfl
    | true =>
      rcases Nat.eq_zero_or_pos i with h0 | h0
      · subst h0
        cases decide (ts[0].Over = ⟨#[]⟩) <;> cases teamB ts ts[0].Over <;> rfl
      · have hp := wrap_pred h0 (by omega)
        have h2 : (i : Int) > 0 := by omega
        have h3 : ¬ i = 0 := by omega
        rw [hp, get_cast (show i - 1 < ts.length by omega), tname_at (show i - 1 < ts.length by omega)]
        simp only [h2, h3, decide_true, decide_false, cond_true, Int.natCast_nonneg, Option.bind_some, Bool.not_true, cond_false, Bool.false_or, Bool.true_and]
        cases slt (ts[i - 1]'(by omega)).Name ts[i].Name <;> cases decide (ts[i].Over = ⟨#[]⟩) <;> cases teamB ts ts[i].Over <;> rfl) fuel 0 (Nat.zero_le _) (by have := fuel_big; omega)
  unfold G42 G42n
  rw [len12, hl]
  cases decide (ts.length ≤ 12) with
  | false => rfl
  | true =>
    simp only [Bool.not_true, cond_false, Bool.true_and]
    cases hb : allN (tbB ts) ts.length 0 with
    | false =>
      have : allN (fun j => tbB ts j && tcB ts j) ts.length 0 = false := by
        rw [Bool.eq_false_iff, ne_eq, allN_iff]
        intro hc
        rw [Bool.eq_false_iff, ne_eq, allN_iff] at hb
        exact hb fun j hj => (Bool.and_eq_true _ _ ▸ hc j hj : tbB ts j = true ∧ tcB ts j = true).1
      rw [this]
      rfl
    | true =>
      have hT : TOk ts := ⟨h, allN_iff.1 hb⟩
      rw [lp42_1 hT]
      simp only [cond_true]
      congr 1
      rw [Bool.eq_iff_iff, allN_iff, allN_iff]
      constructor
      · intro hc j hj
        rw [hT.b j hj, hc j hj]; rfl
      · intro hc j hj
        have := hc j hj
        rw [Bool.and_eq_true] at this
        exact this.2
/-! ### The law -/
theorem to_GateLaw' {x : VGateLaw} (h1 : s_GateShapeS x.Shapes ≤ 1048576) (h2 : s_GateMendS x.Mends ≤ 1048576) (h3 : s_GateTeamS x.Teams ≤ 1048576) : G9 x = some x := by
  unfold G9 G9n
  simp only [to_GateShapeS h1, to_GateMendS h2, to_GateTeamS h3, Option.bind_some]
theorem pure3 (a0 : VGateLaw) (h0 : Sm KK (.row .e74 a0.Shapes)) (h1 : Sm KK (.row .e77 a0.Mends)) (h2 : Sm KK (.row .e103 a0.Teams)) : G3 a0 = some true := by
  unfold G3 G3n
  have hA := sm_GateShapeS_of h0
  have hB := sm_GateMendS_of h1
  have hC := sm_GateTeamS_of h2
  have hz : Szd 1048576 (s_GateShapeS a0.Shapes + (s_GateMendS a0.Mends + (s_GateTeamS a0.Teams + 0))) (G7 a0 1048576) := by
    unfold G7 G7n
    refine szd_bind (sz_GateShapeS hA.1 hA.2 (by omega) (by omega)) fun b hb1 hb2 => ?_
    refine szd_bind (sz_GateMendS hB.1 hB.2 hb1 (by omega)) fun c hc1 hc2 => ?_
    refine szd_bind (sz_GateTeamS hC.1 hC.2 hc1 (by omega)) fun d hd1 hd2 => ?_
    exact szd_ret hd1
  obtain ⟨r, e, hr | ⟨hr0, hr1⟩⟩ := hz
  · simp only [e, Option.bind_some, hr, decide_true, cond_true]
  · have hr : ¬ r < 0 := by omega
    have t1 : s_GateShapeS a0.Shapes ≤ 1048576 := by omega
    have t2 : s_GateMendS a0.Mends ≤ 1048576 := by omega
    have t3 : s_GateTeamS a0.Teams ≤ 1048576 := by omega
    have l1 := s_GateShapeS_len a0.Shapes
    have l2 := s_GateMendS_len a0.Mends
    have l3 := s_GateTeamS_len a0.Teams
    have w1 := ws_GateShapeS a0.Shapes
    have w2 := ws_GateMendS a0.Mends
    have w3 := ws_GateTeamS a0.Teams
    have hL : LSm a0.Shapes a0.Mends := ⟨by omega, fun x hx => ssm_of (by have := s_GateShapeS_mem hx; omega), by omega, fun m hm => by
      have := s_GateMendS_mem hm
      unfold s_GateMend at this
      omega⟩
    have hT : a0.Teams.length ≤ 1048576 := by omega
    have g8 : G8 a0 = some (mendsB a0.Shapes a0.Mends && (decide (a0.Teams.length ≤ 12) && allN (fun j => tbB a0.Teams j && tcB a0.Teams j) a0.Teams.length 0)) := by
      unfold G8 G8n
      rw [g39 hL, g40 hT]
      cases mendsB a0.Shapes a0.Mends <;> rfl
    have g10 : G10 a0 = some (mendsB a0.Shapes a0.Mends && (decide (a0.Teams.length ≤ 12) && allN (fun j => tbB a0.Teams j && tcB a0.Teams j) a0.Teams.length 0)) := by
      unfold G10 G10n
      rw [g31 hL, g42 hT]
      cases mendsB a0.Shapes a0.Mends <;> rfl
    have g11 : G11 a0 a0 = some true := by
      unfold G11 G11n
      simp only [eq_GateShapeS (xs := a0.Shapes) (by omega), eq_GateMendS (xs := a0.Mends) (by omega), eq_GateTeamS (xs := a0.Teams) (by omega), Option.bind_some, Bool.not_true, cond_false]
    simp only [e, Option.bind_some, hr, decide_false, cond_false, to_GateLaw' t1 t2 t3, g8, g10, g11, beq_self_eq_true, Bool.not_true]
end Go.Proofs.Ytkiognopoigbhaa.Ab

