/- The plain law: names, places, what a list holds, names in order. -/
import Derived.Test.YtkiognopoigbhaaP5
set_option linter.unusedVariables false
set_option linter.unusedSimpArgs false
namespace Go.Proofs.Ytkiognopoigbhaa.Ab
open Go Go.RowKit

/-! ### Names -/
def bOk (c : Int) : Bool := (decide (97 ≤ c) && decide (c ≤ 122)) || (decide (48 ≤ c) && decide (c ≤ 57)) || c == 45
theorem g105 (c : Int) : G105 c = some (bOk c) := by
  unfold G105 G105n bOk
  by_cases h1 : 97 ≤ c <;> by_cases h2 : c ≤ 122 <;> by_cases h3 : 48 ≤ c <;> by_cases h4 : c ≤ 57 <;> simp [h1, h2, h3, h4]
theorem g124 (c : Int) : G124 c = some (bOk c) := g105 c
def allB (s : ByteArray) (i : Nat) : Bool := allN (fun j => bOk (sbt s (j : Int))) s.size i
theorem lp74 {s : ByteArray} (hs : s.size ≤ 281474976710656) : LP74_0 fuel (s, 0) = some (allB s 0) :=
  lp_idx (st := fun i => (s, (i : Int))) (val := fun i => some (allB s i)) s.size (fun rec => by simp [r74_0, allB, allN_end]) (fun rec i hi hr => by
    rw [← wrap_nat (by omega)] at hr
    have h1 : (i : Int) < (s.size : Int) := by omega
    simp only [r74_0, h1, decide_true, cond_true, Int.natCast_nonneg, g105, Option.bind_some]
    rw [show allB s i = _ from allN_step hi]
    cases hb : bOk (sbt s (i : Int)) with
    | true => simpa [allB] using hr
    | false => rfl) fuel 0 (Nat.zero_le _) (by have := fuel_big; omega)
theorem lp106 {s : ByteArray} (hs : s.size ≤ 281474976710656) : LP106_0 fuel (s, (s.size : Int), 0) = some (allB s 0) :=
  lp_idx (st := fun i => (s, (s.size : Int), (i : Int))) (val := fun i => some (allB s i)) s.size (fun rec => by simp [r106_0, allB, allN_end]) (fun rec i hi hr => by
    rw [← wrap_nat (by omega)] at hr
    have h1 : (i : Int) < (s.size : Int) := by omega
    simp only [r106_0, h1, decide_true, cond_true, Int.natCast_nonneg, g124, Option.bind_some]
    rw [show allB s i = _ from allN_step hi]
    cases hb : bOk (sbt s (i : Int)) with
    | true => simpa [allB] using hr
    | false => rfl) fuel 0 (Nat.zero_le _) (by have := fuel_big; omega)
def nmB (s : ByteArray) : Bool := decide (1 ≤ s.size) && (decide (s.size ≤ 16) && allB s 0)
theorem g104 (a b c : Int) : G104 a b c = some (decide (b ≤ a) && decide (a ≤ c)) := by
  unfold G104 G104n
  by_cases h : b ≤ a <;> simp [h]
theorem g74 (s : ByteArray) : G74 s = some (nmB s) := by
  unfold G74 G74n nmB
  rw [g104]
  by_cases h1 : 1 ≤ s.size
  · by_cases h2 : s.size ≤ 16
    · have e1 : (1 : Int) ≤ (s.size : Int) := by omega
      have e2 : (s.size : Int) ≤ 16 := by omega
      simp only [e1, e2, h1, h2, decide_true, Bool.and_self, Option.bind_some, Bool.not_true, cond_false, Bool.true_and]
      exact lp74 (by omega)
    · have e2 : ¬ (s.size : Int) ≤ 16 := by omega
      simp [e2, h2]
  · have e1 : ¬ (1 : Int) ≤ (s.size : Int) := by omega
    simp [e1, h1]
theorem g78 (s : ByteArray) : G78 s = some (nmB s) := by
  unfold G78 G78n nmB
  by_cases h1 : 1 ≤ s.size
  · by_cases h2 : s.size ≤ 16
    · have e1 : (s.size : Int) ≥ 1 := by omega
      have e2 : (s.size : Int) ≤ 16 := by omega
      have : G106 s = some (allB s 0) := lp106 (by omega)
      simp [e1, e2, h1, h2, this]
    · have e2 : ¬ (s.size : Int) ≤ 16 := by omega
      simp [e2, h2]
  · have e1 : ¬ (1 : Int) ≤ (s.size : Int) := by omega
    simp [e1, h1]
theorem nm_ne {s : ByteArray} (h : nmB s = true) : s ≠ ⟨#[]⟩ := fun e => by subst e; simp [nmB] at h; exact absurd h.1 (by decide)
theorem nm_nil : nmB ⟨#[]⟩ = false := rfl

/-! ### Places -/
def posL {α : Type} (p : α → Bool) : List α → Nat → Int
  | [], _ => -1
  | x :: r, i => cond (p x) (i : Int) (posL p r (i + 1))
theorem posL_step {α : Type} {p : α → Bool} {xs : List α} {i : Nat} (h : i < xs.length) : posL p (xs.drop i) i = cond (p xs[i]) (i : Int) (posL p (xs.drop (i + 1)) (i + 1)) := by
  rw [List.drop_eq_getElem_cons h]; rfl
/-- A place: minus one and nothing there, or the first that fits. -/
theorem posL_cases {α : Type} (p : α → Bool) (xs : List α) : (posL p xs 0 = -1 ∧ ∀ x ∈ xs, p x = false) ∨ ∃ i : Nat, ∃ h : i < xs.length, posL p xs 0 = (i : Int) ∧ p xs[i] = true ∧ ∀ j (hj : j < i), p (xs[j]'(by omega)) = false := by
  have key : ∀ (n i : Nat), i ≤ xs.length → xs.length - i ≤ n → (posL p (xs.drop i) i = -1 ∧ ∀ j (hj : j < xs.length), i ≤ j → p xs[j] = false) ∨ ∃ k : Nat, ∃ h : k < xs.length, i ≤ k ∧ posL p (xs.drop i) i = (k : Int) ∧ p xs[k] = true ∧ ∀ j (hj : j < k), i ≤ j → p (xs[j]'(by omega)) = false := by
    intro n
    induction n with
    | zero =>
      intro i hi hn
      have : i = xs.length := by omega
      subst this
      left
      exact ⟨by simp [posL], fun j hj h => by omega⟩
    | succ n ih =>
      intro i hi hn
      rcases Nat.lt_or_ge i xs.length with h | h
      · rw [posL_step h]
        cases hp : p xs[i] with
        | true => right; exact ⟨i, h, Nat.le_refl _, rfl, hp, fun j hj hij => by omega⟩
        | false =>
          rcases ih (i + 1) (by omega) (by omega) with ⟨e, ha⟩ | ⟨k, hk, hik, e, hp2, ha⟩
          · left
            refine ⟨e, fun j hj hij => ?_⟩
            rcases Nat.lt_or_ge i j with h' | h'
            · exact ha j hj h'
            · obtain rfl : i = j := by omega
              exact hp
          · right
            refine ⟨k, hk, by omega, e, hp2, fun j hj hij => ?_⟩
            rcases Nat.lt_or_ge i j with h' | h'
            · exact ha j hj h'
            · obtain rfl : i = j := by omega
              exact hp
      · left
        have : i = xs.length := by omega
        subst this
        exact ⟨by simp [posL], fun j hj h => by omega⟩
  rcases key xs.length 0 (Nat.zero_le _) (by omega) with ⟨e, h⟩ | ⟨k, hk, _, e, h1, h2⟩
  · left
    refine ⟨by simpa using e, fun x hx => ?_⟩
    obtain ⟨i, hi, rfl⟩ := List.mem_iff_getElem.1 hx
    exact h i hi (Nat.zero_le _)
  · right
    exact ⟨k, hk, by simpa using e, h1, fun j hj => h2 j hj (Nat.zero_le _)⟩
theorem pos_lp {α R : Type} {p : α → Bool} {xs : List α} {A : Type} {st : Nat → A} {rnd : (A → Option Int) → A → Option Int} (hl : xs.length ≤ 1048576)
    (hend : ∀ rec, rnd rec (st xs.length) = some (-1))
    (hstep : ∀ rec i (hi : i < xs.length), rnd rec (st i) = cond (p xs[i]) (some (i : Int)) (rec (st (i + 1)))) : lpN rnd fuel (st 0) = some (posL p xs 0) := by
  have := lp_idx (rnd := rnd) (st := st) (val := fun i => some (posL p (xs.drop i) i)) xs.length (fun rec => by rw [hend]; simp [posL]) (fun rec i hi hr => by
    rw [hstep rec i hi, posL_step hi]
    cases p xs[i] with
    | true => rfl
    | false => exact hr) fuel 0 (Nat.zero_le _) (by have := fuel_big; omega)
  simpa using this
theorem g83 {xs : List VGateShape} (h : xs.length ≤ 1048576) (k : ByteArray) : G83 xs k = some (posL (fun x => decide (x.Kind = k)) xs 0) := by
  unfold G83 G83n
  refine pos_lp (R := Int) (rnd := r83_0 fuel) (st := fun i => (xs, k, (i : Int))) h (fun rec => by simp [r83_0]) (fun rec i hi => ?_)
  have hw := wrap_nat (i := i) (by omega)
  have h1 : (i : Int) < (xs.length : Int) := by omega
  simp only [r83_0]
  rw [get_cast hi, hw]
  simp only [h1, decide_true, cond_true, Int.natCast_nonneg, Option.bind_some]
theorem g55 {xs : List VGateShape} (h : xs.length ≤ 1048576) (k : ByteArray) : G55 xs k = some (posL (fun x => decide (x.Kind = k)) xs 0) := by
  unfold G55 G55n
  refine pos_lp (R := Int) (rnd := r55_0 fuel) (st := fun i => (k, xs, (xs.length : Int), (i : Int))) h (fun rec => by simp [r55_0]) (fun rec i hi => ?_)
  have hw := wrap_nat (i := i) (by omega)
  have h1 : (i : Int) < (xs.length : Int) := by omega
  simp only [r55_0]
  rw [get_cast hi, hw]
  simp only [h1, decide_true, cond_true, Int.natCast_nonneg, Option.bind_some]
theorem g85 {xs : List VGateField} (h : xs.length ≤ 1048576) (k : ByteArray) : G85 xs k = some (posL (fun x => decide (x.Name = k)) xs 0) := by
  unfold G85 G85n
  refine pos_lp (R := Int) (rnd := r85_0 fuel) (st := fun i => (xs, k, (i : Int))) h (fun rec => by simp [r85_0]) (fun rec i hi => ?_)
  have hw := wrap_nat (i := i) (by omega)
  have h1 : (i : Int) < (xs.length : Int) := by omega
  simp only [r85_0]
  rw [get_cast hi, hw]
  simp only [h1, decide_true, cond_true, Int.natCast_nonneg, Option.bind_some]
theorem g57 {xs : List VGateField} (h : xs.length ≤ 1048576) (k : ByteArray) : G57 xs k = some (posL (fun x => decide (x.Name = k)) xs 0) := by
  unfold G57 G57n
  refine pos_lp (R := Int) (rnd := r57_0 fuel) (st := fun i => (k, xs, (xs.length : Int), (i : Int))) h (fun rec => by simp [r57_0]) (fun rec i hi => ?_)
  have hw := wrap_nat (i := i) (by omega)
  have h1 : (i : Int) < (xs.length : Int) := by omega
  simp only [r57_0]
  rw [get_cast hi, hw]
  simp only [h1, decide_true, cond_true, Int.natCast_nonneg, Option.bind_some]
/-! ### What a list holds -/
theorem any_lp {α A : Type} {p : α → Bool} {xs : List α} {st : Nat → A} {rnd : (A → Option Bool) → A → Option Bool} (hl : xs.length ≤ 1048576)
    (hend : ∀ rec, rnd rec (st xs.length) = some false)
    (hstep : ∀ rec i (hi : i < xs.length), rnd rec (st i) = cond (p xs[i]) (some true) (rec (st (i + 1)))) : lpN rnd fuel (st 0) = some (xs.any p) := by
  have := lp_idx (rnd := rnd) (st := st) (val := fun i => some ((xs.drop i).any p)) xs.length (fun rec => by rw [hend]; simp) (fun rec i hi hr => by
    rw [hstep rec i hi, List.drop_eq_getElem_cons hi, List.any_cons]
    cases p xs[i] with
    | true => rfl
    | false => simpa using hr) fuel 0 (Nat.zero_le _) (by have := fuel_big; omega)
  simpa using this
theorem all_lp {α A : Type} {p : α → Bool} {xs : List α} {st : Nat → A} {rnd : (A → Option Bool) → A → Option Bool} (hl : xs.length ≤ 1048576)
    (hend : ∀ rec, rnd rec (st xs.length) = some true)
    (hstep : ∀ rec i (hi : i < xs.length), rnd rec (st i) = cond (p xs[i]) (rec (st (i + 1))) (some false)) : lpN rnd fuel (st 0) = some (xs.all p) := by
  have := lp_idx (rnd := rnd) (st := st) (val := fun i => some ((xs.drop i).all p)) xs.length (fun rec => by rw [hend]; simp) (fun rec i hi hr => by
    rw [hstep rec i hi, List.drop_eq_getElem_cons hi, List.all_cons]
    cases p xs[i] with
    | true => simpa using hr
    | false => rfl) fuel 0 (Nat.zero_le _) (by have := fuel_big; omega)
  simpa using this
def hasB (xs : List ByteArray) (s : ByteArray) : Bool := xs.any fun x => decide (x = s)
theorem has_iff {xs : List ByteArray} {s : ByteArray} : hasB xs s = true ↔ s ∈ xs := by
  unfold hasB
  rw [List.any_eq_true]
  exact ⟨fun ⟨x, h, e⟩ => by simp at e; subst e; exact h, fun h => ⟨s, h, by simp⟩⟩
theorem g102 {xs : List ByteArray} (h : xs.length ≤ 1048576) (s : ByteArray) : G102 xs s = some (hasB xs s) := by
  unfold G102 G102n
  refine any_lp (rnd := r102_0 fuel) (st := fun i => (xs, s, (i : Int))) h (fun rec => by simp [r102_0]) (fun rec i hi => ?_)
  have hw := wrap_nat (i := i) (by omega)
  have h1 : (i : Int) < (xs.length : Int) := by omega
  simp only [r102_0]
  rw [get_cast hi, hw]
  simp only [h1, decide_true, cond_true, Int.natCast_nonneg, Option.bind_some]
theorem lp159 {xs : List ByteArray} (h : xs.length ≤ 1048576) (s : ByteArray) : LP159_0 fuel (s, xs, (xs.length : Int), 0) = some (hasB xs s) := by
  refine any_lp (rnd := r159_0 fuel) (st := fun i => (s, xs, (xs.length : Int), (i : Int))) h (fun rec => by simp [r159_0]) (fun rec i hi => ?_)
  have hw := wrap_nat (i := i) (by omega)
  have h1 : (i : Int) < (xs.length : Int) := by omega
  simp only [r159_0]
  rw [get_cast hi, hw]
  simp only [h1, decide_true, cond_true, Int.natCast_nonneg, Option.bind_some]

/-! ### Names in order -/
def ascAt (xs : List ByteArray) (j : Nat) : Bool := nmB (xs.getD j ⟨#[]⟩) && (decide (j = 0) || slt (xs.getD (j - 1) ⟨#[]⟩) (xs.getD j ⟨#[]⟩))
def ascB (xs : List ByteArray) : Bool := allN (ascAt xs) xs.length 0
theorem g122 {xs : List ByteArray} (h : xs.length ≤ 1048576) : G122 xs = some (ascB xs) :=
  lp_idx (rnd := r122_0 fuel) (st := fun i => (xs, (i : Int))) (val := fun i => some (allN (ascAt xs) xs.length i)) xs.length (fun rec => by simp [r122_0, allN_end]) (fun rec i hi hr => by
    have hw := wrap_nat (i := i) (by omega)
    have h1 : (i : Int) < (xs.length : Int) := by omega
    have hg : xs.getD i ⟨#[]⟩ = xs[i] := by simp [List.getD, hi]
    simp only [r122_0]
    rw [get_cast hi, hw]
    simp only [h1, decide_true, cond_true, Int.natCast_nonneg, Option.bind_some, g74]
    have ha : ascAt xs i = (nmB xs[i] && (decide (i = 0) || slt (xs.getD (i - 1) ⟨#[]⟩) xs[i])) := by unfold ascAt; rw [hg]
    rw [allN_step hi, ha]
    cases hb : nmB xs[i] with
    | false => rfl
    | true =>
      rcases Nat.eq_zero_or_pos i with h0 | h0
      · subst h0
        simpa using hr
      · have hp := wrap_pred h0 (by omega)
        have hg2 : xs.getD (i - 1) ⟨#[]⟩ = xs[i - 1]'(by omega) := by simp [List.getD, show i - 1 < xs.length by omega]
        have h2 : (i : Int) > 0 := by omega
        have h3 : ¬ i = 0 := by omega
        rw [hp, get_cast (show i - 1 < xs.length by omega), hg2]
        simp only [h2, h3, decide_true, decide_false, cond_true, Int.natCast_nonneg, Option.bind_some, Bool.not_true, cond_false, Bool.false_or, Bool.true_and]
        cases slt (xs[i - 1]'(by omega)) xs[i] with
        | true => simpa using hr
        | false => rfl) fuel 0 (Nat.zero_le _) (by have := fuel_big; omega)
theorem g95 {xs : List ByteArray} (h : xs.length ≤ 1048576) : G95 xs = some (ascB xs) :=
  lp_idx (rnd := r95_0 fuel) (st := fun i => (xs, xs, (xs.length : Int), (i : Int))) (val := fun i => some (allN (ascAt xs) xs.length i)) xs.length (fun rec => by simp [r95_0, allN_end]) (fun rec i hi hr => by
    have hw := wrap_nat (i := i) (by omega)
    have h1 : (i : Int) < (xs.length : Int) := by omega
    have hg : xs.getD i ⟨#[]⟩ = xs[i] := by simp [List.getD, hi]
    simp only [r95_0]
    rw [get_cast hi, hw]
    simp only [h1, decide_true, cond_true, Int.natCast_nonneg, Option.bind_some, g78]
    have ha : ascAt xs i = (nmB xs[i] && (decide (i = 0) || slt (xs.getD (i - 1) ⟨#[]⟩) xs[i])) := by unfold ascAt; rw [hg]
    rw [allN_step hi, ha]
    cases hb : nmB xs[i] with
    | false => rfl
    | true =>
      rcases Nat.eq_zero_or_pos i with h0 | h0
      · subst h0
        simpa using hr
      · have hp := wrap_pred h0 (by omega)
        have hg2 : xs.getD (i - 1) ⟨#[]⟩ = xs[i - 1]'(by omega) := by simp [List.getD, show i - 1 < xs.length by omega]
        have h2 : (i : Int) > 0 := by omega
        have h3 : ¬ i = 0 := by omega
        rw [hp, get_cast (show i - 1 < xs.length by omega), hg2]
        simp only [h2, h3, decide_true, decide_false, cond_true, Int.natCast_nonneg, Option.bind_some, Bool.not_true, cond_false, Bool.false_or, Bool.true_and]
        cases slt (xs[i - 1]'(by omega)) xs[i] with
        | true => simpa using hr
        | false => rfl) fuel 0 (Nat.zero_le _) (by have := fuel_big; omega)
end Go.Proofs.Ytkiognopoigbhaa.Ab

/- The plain law: what fits into a field. -/
set_option linter.unusedVariables false
set_option linter.unusedSimpArgs false
namespace Go.Proofs.Ytkiognopoigbhaa.Ab
open Go Go.RowKit

theorem sbt_rng (s : ByteArray) (i : Int) : 0 ≤ sbt s i ∧ sbt s i ≤ 255 := by
  unfold sbt
  split
  · rename_i b h
    have := b.toNat_lt
    omega
  · omega
/-! ### Numbers -/
def pw : Nat → Int
  | 0 => 1
  | i + 1 => 10 * pw i
theorem pw_le : ∀ i < 7, pw i ≤ 1000000 := by decide
def numL (s : ByteArray) : Nat → Nat → Int → Option Int
  | 0, _, acc => some acc
  | k + 1, i, acc => cond (decide (sbt s (i : Int) < 48)) none (cond (decide (sbt s (i : Int) > 57)) none (numL s k (i + 1) (acc * 10 + (sbt s (i : Int) - 48))))
theorem numL_pos {s : ByteArray} : ∀ {k i : Nat} {acc v : Int}, 0 ≤ acc → numL s k i acc = some v → 0 ≤ v
  | 0, _, _, _, h, e => by simp only [numL, Option.some.injEq] at e; omega
  | k + 1, i, acc, v, h, e => by
    simp only [numL] at e
    by_cases h1 : sbt s (i : Int) < 48
    · simp [h1] at e
    · by_cases h2 : sbt s (i : Int) > 57
      · simp [h1, h2] at e
      · simp only [h1, h2, decide_false, cond_false] at e
        exact numL_pos (by omega) e
theorem lp123 {s : ByteArray} (hs : s.size ≤ 7) : ∀ (k i : Nat) (acc : Int) (n : Nat), i + k = s.size → 0 ≤ acc → acc < pw i → k < n → lpN (r123_0 fuel) n (s, acc, (i : Int)) = some ((numL s k i acc).getD (-1)) := by
  intro k
  induction k with
  | zero =>
    intro i acc n hi h0 h1 hn
    rw [lp_open (by omega)]
    have : ¬ (i : Int) < (s.size : Int) := by omega
    simp [r123_0, this, numL]
  | succ k ih =>
    intro i acc n hi h0 h1 hn
    rw [lp_open (by omega)]
    have hlt : (i : Int) < (s.size : Int) := by omega
    have hw := wrap_nat (i := i) (by omega)
    have hp := pw_le i (by omega)
    have hr := sbt_rng s (i : Int)
    simp only [r123_0, hlt, decide_true, cond_true, Int.natCast_nonneg, hw, numL]
    by_cases c1 : sbt s (i : Int) < 48
    · simp [c1]
    · by_cases c2 : sbt s (i : Int) > 57
      · simp [c1, c2]
      · have e1 : IntKind.i64.wrap (acc * 10) = acc * 10 := wrap_id (by omega) (by omega)
        have e2 : IntKind.i64.wrap (sbt s (i : Int)) = sbt s (i : Int) := wrap_id (by omega) (by omega)
        have e3 : IntKind.i64.wrap (acc * 10 + sbt s (i : Int)) = acc * 10 + sbt s (i : Int) := wrap_id (by omega) (by omega)
        have e4 : IntKind.i64.wrap (acc * 10 + sbt s (i : Int) - 48) = acc * 10 + (sbt s (i : Int) - 48) := by rw [wrap_id (by omega) (by omega)]; omega
        simp only [c1, c2, decide_false, cond_false, e1, e2, e3, e4]
        exact ih (i + 1) _ (n - 1) (by omega) (by omega) (by simp only [pw]; omega) (by omega)
theorem lp157 {s : ByteArray} (hs : s.size ≤ 7) : ∀ (k i : Nat) (acc : Int) (n : Nat), i + k = s.size → 0 ≤ acc → acc < pw i → k < n → lpN (r157_0 fuel) n (s, acc, (s.size : Int), (i : Int)) = some (match numL s k i acc with | some v => (v, true) | none => (0, false)) := by
  intro k
  induction k with
  | zero =>
    intro i acc n hi h0 h1 hn
    rw [lp_open (by omega)]
    have : ¬ (i : Int) < (s.size : Int) := by omega
    simp [r157_0, this, numL]
  | succ k ih =>
    intro i acc n hi h0 h1 hn
    rw [lp_open (by omega)]
    have hlt : (i : Int) < (s.size : Int) := by omega
    have hw := wrap_nat (i := i) (by omega)
    have hp := pw_le i (by omega)
    have hr := sbt_rng s (i : Int)
    simp only [r157_0, hlt, decide_true, cond_true, Int.natCast_nonneg, hw, numL]
    by_cases c1 : sbt s (i : Int) < 48
    · simp [c1]
    · by_cases c2 : sbt s (i : Int) > 57
      · simp [c1, c2]
      · have e1 : IntKind.i64.wrap (acc * 10) = acc * 10 := wrap_id (by omega) (by omega)
        have e2 : IntKind.u8.wrap (sbt s (i : Int) - 48) = sbt s (i : Int) - 48 := by
          simp [IntKind.wrap, IntKind.bits, IntKind.signed]
          omega
        have e3 : IntKind.i64.wrap (sbt s (i : Int) - 48) = sbt s (i : Int) - 48 := wrap_id (by omega) (by omega)
        have e4 : IntKind.i64.wrap (acc * 10 + (sbt s (i : Int) - 48)) = acc * 10 + (sbt s (i : Int) - 48) := wrap_id (by omega) (by omega)
        simp only [c1, c2, decide_false, cond_false, e1, e2, e3, e4]
        exact ih (i + 1) _ (n - 1) (by omega) (by omega) (by simp only [pw]; omega) (by omega)
def numB (s : ByteArray) : Option Int := cond (decide (1 ≤ s.size) && decide (s.size ≤ 7)) (cond (decide (1 < s.size) && (sbt s 0 == 48)) none (numL s s.size 0 0)) none
theorem numB_pos {s : ByteArray} {v : Int} (h : numB s = some v) : 0 ≤ v := by
  unfold numB at h
  cases hc : (decide (1 ≤ s.size) && decide (s.size ≤ 7)) with
  | false => rw [hc] at h; cases h
  | true =>
    rw [hc] at h
    cases hd : (decide (1 < s.size) && (sbt s 0 == 48)) with
    | true => rw [hd] at h; cases h
    | false => rw [hd] at h; exact numL_pos (Int.le_refl 0) h
theorem g123 (s : ByteArray) : G123 s = some ((numB s).getD (-1)) := by
  unfold G123 G123n numB
  rw [g104]
  by_cases h1 : 1 ≤ s.size
  · by_cases h2 : s.size ≤ 7
    · have e1 : (1 : Int) ≤ (s.size : Int) := by omega
      have e2 : (s.size : Int) ≤ 7 := by omega
      have e0 : (0 : Int) < (s.size : Int) := by omega
      have hl : LP123_0 fuel (s, 0, 0) = some ((numL s s.size 0 0).getD (-1)) := lp123 h2 s.size 0 0 fuel (by omega) (Int.le_refl _) (by decide) (by have := fuel_big; omega)
      simp only [e1, e2, e0, h1, h2, decide_true, Bool.and_self, Option.bind_some, Bool.not_true, cond_false, cond_true, hl, Int.le_refl]
      by_cases h3 : 1 < s.size
      · have e3 : (s.size : Int) > 1 := by omega
        simp only [h3, e3, decide_true, cond_true, Bool.true_and]
        cases sbt s 0 == 48 <;> rfl
      · have e3 : ¬ (s.size : Int) > 1 := by omega
        simp only [h3, e3, decide_false, cond_false, Bool.false_and]
    · have e2 : ¬ (s.size : Int) ≤ 7 := by omega
      simp [e2, h2]
  · have e1 : ¬ (1 : Int) ≤ (s.size : Int) := by omega
    simp [e1, h1]
theorem g157 (s : ByteArray) : G157 s = some (match numB s with | some v => (v, true) | none => (0, false)) := by
  unfold G157 G157n numB
  by_cases h1 : 1 ≤ s.size
  · by_cases h2 : s.size ≤ 7
    · have e1 : ¬ (s.size : Int) < 1 := by omega
      have e2 : ¬ (s.size : Int) > 7 := by omega
      have e0 : (0 : Int) < (s.size : Int) := by omega
      have hl : LP157_0 fuel (s, 0, (s.size : Int), 0) = some (match numL s s.size 0 0 with | some v => (v, true) | none => (0, false)) := lp157 h2 s.size 0 0 fuel (by omega) (Int.le_refl _) (by decide) (by have := fuel_big; omega)
      simp only [e1, e2, e0, h1, h2, decide_true, decide_false, Bool.and_self, Option.bind_some, Bool.not_true, cond_false, cond_true, hl, Int.le_refl]
      by_cases h3 : 1 < s.size
      · have e3 : (s.size : Int) > 1 := by omega
        simp only [h3, e3, decide_true, cond_true, Bool.true_and]
        cases sbt s 0 == 48 <;> rfl
      · have e3 : ¬ (s.size : Int) > 1 := by omega
        simp only [h3, e3, decide_false, cond_false, Bool.false_and]
        cases sbt s 0 == 48 <;> rfl
    · have e1 : ¬ (s.size : Int) < 1 := by omega
      have e2 : (s.size : Int) > 7 := by omega
      simp [e1, e2, h2]
  · have e1 : (s.size : Int) < 1 := by omega
    simp [e1, h1]
/-! ### Texts -/
def prAt (s : ByteArray) (j : Nat) : Bool := decide (33 ≤ sbt s (j : Int)) && decide (sbt s (j : Int) ≤ 126)
def prB (s : ByteArray) : Bool := allN (prAt s) s.size 0
theorem lp162 {s : ByteArray} (hs : s.size ≤ 1048576) : LP162_0 fuel (s, (s.size : Int), 0) = some (prB s) :=
  lp_idx (st := fun i => (s, (s.size : Int), (i : Int))) (val := fun i => some (allN (prAt s) s.size i)) s.size (fun rec => by simp [r162_0, allN_end]) (fun rec i hi hr => by
    have hw := wrap_nat (i := i) (by omega)
    have h1 : (i : Int) < (s.size : Int) := by omega
    simp only [r162_0, h1, decide_true, cond_true, Int.natCast_nonneg, hw]
    rw [allN_step hi]
    unfold prAt
    by_cases c1 : sbt s (i : Int) < 48 - 15
    · have c1' : sbt s (i : Int) < 33 := by omega
      have c2 : ¬ 33 ≤ sbt s (i : Int) := by omega
      simp [c1', c2]
    · have c1' : ¬ sbt s (i : Int) < 33 := by omega
      have c2 : 33 ≤ sbt s (i : Int) := by omega
      by_cases d1 : sbt s (i : Int) > 126
      · have d2 : ¬ sbt s (i : Int) ≤ 126 := by omega
        simp [c1', c2, d1, d2]
      · have d2 : sbt s (i : Int) ≤ 126 := by omega
        simp only [c1', c2, d1, d2, decide_true, decide_false, cond_false, Bool.true_and]
        exact hr) fuel 0 (Nat.zero_le _) (by have := fuel_big; omega)
theorem lp101 {s : ByteArray} (hs : s.size ≤ 1048576) {a2 a3 a4 a5 a6 a7 a8 a9 a10 a11 a12} : LP101_0 fuel (s, 0, a2, a3, a4, a5, a6, a7, a8, a9, a10, a11, a12) = some (prB s && (!decide (s = ⟨#[]⟩) && (decide (a4 ≤ (s.size : Int)) && decide ((s.size : Int) ≤ a5)))) :=
  lp_idx (st := fun i => (s, (i : Int), a2, a3, a4, a5, a6, a7, a8, a9, a10, a11, a12)) (val := fun i => some (allN (prAt s) s.size i && (!decide (s = ⟨#[]⟩) && (decide (a4 ≤ (s.size : Int)) && decide ((s.size : Int) ≤ a5))))) s.size (fun rec => by
    simp only [r101_0, allN_end, Int.lt_irrefl, decide_false, cond_false, g104, Option.bind_some, Bool.true_and]
    cases decide (s = ⟨#[]⟩) <;> rfl) (fun rec i hi hr => by
    have hw := wrap_nat (i := i) (by omega)
    have h1 : (i : Int) < (s.size : Int) := by omega
    have hg := sbt_rng s (i : Int)
    have e2 : IntKind.i64.wrap (sbt s (i : Int)) = sbt s (i : Int) := wrap_id (by omega) (by omega)
    simp only [r101_0, h1, decide_true, cond_true, Int.natCast_nonneg, hw, g104, e2, Option.bind_some]
    rw [allN_step hi, show prAt s i = (decide (33 ≤ sbt s (i : Int)) && decide (sbt s (i : Int) ≤ 126)) from rfl]
    cases (decide (33 ≤ sbt s (i : Int)) && decide (sbt s (i : Int) ≤ 126)) with
    | true => simpa using hr
    | false => rfl) fuel 0 (Nat.zero_le _) (by have := fuel_big; omega)
/-! ### What fits -/
def fitB (f : VGateField) (s : ByteArray) : Bool :=
  cond (f.Kind == 1) (match numB s with | some v => decide (f.Least ≤ v) && decide (v ≤ f.Most) | none => false)
  (cond (f.Kind == 2) (!decide (s = ⟨#[]⟩) && hasB f.Words s)
  (cond (f.Kind == 3) (prB s && (!decide (s = ⟨#[]⟩) && (decide (f.Least ≤ (s.size : Int)) && decide ((s.size : Int) ≤ f.Most))))
  (cond (f.Kind == 4) (nmB s) false)))
theorem g101 {f : VGateField} {s : ByteArray} (hw : f.Words.length ≤ 1048576) (hs : s.size ≤ 1048576) : G101 f s = some (fitB f s) := by
  unfold G101 G101n fitB
  rw [g123, g102 hw, g74, lp101 hs]
  cases f.Kind == 1 with
  | true =>
    simp only [cond_true, Option.bind_some]
    cases hn : numB s with
    | none => simp
    | some v =>
      have := numB_pos hn
      simp [this, g104]
  | false =>
    simp only [cond_false]
    cases f.Kind == 2 with
    | true =>
      simp only [cond_true, Option.bind_some]
      cases decide (s = ⟨#[]⟩) <;> rfl
    | false =>
      simp only [cond_false]
      cases f.Kind == 3 with
      | true => rfl
      | false =>
        simp only [cond_false]
        cases f.Kind == 4 <;> rfl
theorem num_nil : numB ⟨#[]⟩ = none := rfl
theorem dec_beq (a b : Int) : decide (a = b) = (b == a) := by
  by_cases h : a = b
  · subst h; simp
  · have : ¬ b = a := fun e => h e.symm
    simp [h, this]
theorem g98 {f : VGateField} {s : ByteArray} (hw : f.Words.length ≤ 1048576) (hs : s.size ≤ 1048576) : G98 f s = some (fitB f s) := by
  unfold G98 G98n fitB
  simp only [dec_beq]
  have q1 : ∀ x : VnumberField, x.GateField_Least = f.Least → x.GateField_Most = f.Most → G155 x s = some (match numB s with | some v => decide (f.Least ≤ v) && decide (v ≤ f.Most) | none => false) := fun x e1 e2 => by
    unfold G155 G155n
    rw [g157, e1, e2]
    cases numB s with
    | none => rfl
    | some v =>
      simp only [Option.bind_some, cond_true, ge_iff_le]
      cases decide (f.Least ≤ v) <;> rfl
  have q2 : ∀ x : VwordField, x.GateField_Words = f.Words → G159 x s = some (hasB f.Words s) := fun x e => by
    unfold G159 G159n
    rw [e]
    exact lp159 hw s
  have q3 : ∀ x : VtextField, x.GateField_Least = f.Least → x.GateField_Most = f.Most → G162 x s = some (prB s && (decide (f.Least ≤ (s.size : Int)) && decide ((s.size : Int) ≤ f.Most))) := fun x e1 e2 => by
    unfold G162 G162n
    rw [lp162 hs, e1, e2]
    by_cases c1 : (s.size : Int) < f.Least
    · have c2 : ¬ f.Least ≤ (s.size : Int) := by omega
      simp [c1, c2]
    · have c2 : f.Least ≤ (s.size : Int) := by omega
      by_cases d1 : (s.size : Int) > f.Most
      · have d2 : ¬ (s.size : Int) ≤ f.Most := by omega
        simp [c1, c2, d1, d2]
      · have d2 : (s.size : Int) ≤ f.Most := by omega
        simp [c1, c2, d1, d2]
  have q4 : ∀ x : VlinkField, G165 x s = some (nmB s) := fun x => by
    unfold G165 G165n
    rw [g78]; rfl
  have n1 : decide (s = ⟨#[]⟩) = true → numB s = none := fun h => by rw [of_decide_eq_true h]; exact num_nil
  have n4 : decide (s = ⟨#[]⟩) = true → nmB s = false := fun h => by rw [of_decide_eq_true h]; exact nm_nil
  rw [q1 _ rfl rfl, q2 _ rfl, q3 _ rfl rfl, q4]
  cases f.Kind == 1 with
  | true =>
    simp only [cond_true, Option.bind_some]
    cases hd : decide (s = ⟨#[]⟩) with
    | false => rfl
    | true => rw [n1 hd]; rfl
  | false =>
    simp only [cond_false]
    cases f.Kind == 2 with
    | true =>
      simp only [cond_true, Option.bind_some]
      cases decide (s = ⟨#[]⟩) <;> rfl
    | false =>
      simp only [cond_false]
      cases f.Kind == 3 with
      | true =>
        simp only [cond_true, Option.bind_some]
        cases decide (s = ⟨#[]⟩) <;> cases prB s <;> rfl
      | false =>
        simp only [cond_false]
        cases f.Kind == 4 with
        | false => rfl
        | true =>
          simp only [cond_true, Option.bind_some]
          cases hd : decide (s = ⟨#[]⟩) with
          | false => rfl
          | true => rw [n4 hd]; rfl
end Go.Proofs.Ytkiognopoigbhaa.Ab

/- The plain law: fields and shapes. -/
set_option linter.unusedVariables false
set_option linter.unusedSimpArgs false
namespace Go.Proofs.Ytkiognopoigbhaa.Ab
open Go Go.RowKit

theorem allN_iff {p : Nat → Bool} {len : Nat} : allN p len 0 = true ↔ ∀ j, j < len → p j = true := by
  unfold allN
  rw [List.all_eq_true]
  constructor
  · intro h j hj; exact h j (by rw [List.mem_range'_1]; omega)
  · intro h j hj; rw [List.mem_range'_1] at hj; exact h j (by omega)
/-! ### Maps from texts to numbers -/
theorem keys9 (a b : ByteArray) : keysEq (KK.enc .e9 a) (KK.enc .e9 b) = decide (a = b) := rfl
theorem mval_put (z x : ByteArray) (y : Int) (c : Nat) : ∀ m : List (Nat × ByteArray × Int), mval KK .e9 .e3 z (mput KK .e9 .e3 x y c m) = if z = x then y else mval KK .e9 .e3 z m
  | [] => by
    simp only [mput, mval, mget, keys9]
    by_cases h : z = x
    · subst h; simp
    · have : ¬ x = z := fun e => h e.symm
      simp [h, this]
  | e :: r => by
    have ih := mval_put z x y c r
    simp only [mput, keys9]
    by_cases h1 : e.2.1 = x
    · simp only [h1, decide_true, cond_true]
      by_cases h : z = x
      · subst h; simp [mval, mget, keys9]
      · have : ¬ x = z := fun e => h e.symm
        simp [mval, mget, keys9, h, this, h1]
    · simp only [h1, decide_false, cond_false]
      by_cases h2 : e.2.1 = z
      · have : ¬ z = x := fun e' => h1 (h2.trans e')
        simp [mval, mget, keys9, h2, this]
      · have e1 : ∀ m, mval KK .e9 .e3 z (e :: m) = mval KK .e9 .e3 z m := fun m => by simp [mval, mget, keys9, h2]
        rw [e1, e1, ih]
/-! ### Fields -/
def bareB (f : VGateField) : Bool :=
  cond (f.Kind == 1) (decide (f.Words.length = 0) && (decide (f.To = ⟨#[]⟩) && (f.Role == 0)))
  (cond (f.Kind == 2) ((f.Least == 0) && ((f.Most == 0) && (decide (f.To = ⟨#[]⟩) && ((f.Role == 0) && decide (f.Weighs = ⟨#[]⟩)))))
  (cond (f.Kind == 3) (decide (f.Words.length = 0) && (decide (f.To = ⟨#[]⟩) && ((f.Role == 0) && decide (f.Weighs = ⟨#[]⟩))))
  (cond (f.Kind == 4) ((f.Least == 0) && ((f.Most == 0) && (decide (f.Words.length = 0) && decide (f.Weighs = ⟨#[]⟩)))) false)))
def soundB (ks : List ByteArray) (f : VGateField) : Bool :=
  cond (f.Kind == 1) (decide (0 ≤ f.Least) && (decide (f.Least ≤ f.Most) && (decide (f.Most ≤ 1000000) && (decide (f.Weighs = ⟨#[]⟩) || nmB f.Weighs))))
  (cond (f.Kind == 2) (decide (1 ≤ (f.Words.length : Int)) && (decide ((f.Words.length : Int) ≤ 6) && ascB f.Words))
  (cond (f.Kind == 3) (decide (1 ≤ f.Least) && (decide (f.Least ≤ f.Most) && decide (f.Most ≤ 40)))
  (cond (f.Kind == 4) (hasB ks f.To && (decide (1 ≤ f.Role) && (decide (f.Role ≤ 3) && (decide (f.Default = ⟨#[]⟩) && (!(f.Role == 2) || !f.Must))))) false)))
def defB (f : VGateField) : Bool := decide (f.Default = ⟨#[]⟩) || fitB f f.Default
def fldB (ks : List ByteArray) (f : VGateField) : Bool := nmB f.Name && (bareB f && (soundB ks f && defB f))
structure FSm (f : VGateField) : Prop where
  w : f.Words.length ≤ 1048576
  d : f.Default.size ≤ 1048576
theorem g121 (f : VGateField) : G121 f = some (cond (f.Kind == 1 || (f.Kind == 2 || (f.Kind == 3 || f.Kind == 4))) (bareB f) ((f.Least == 0) && ((f.Most == 0) && (decide (f.Weighs = ⟨#[]⟩) && (decide (f.Words.length = 0) && (decide (f.To = ⟨#[]⟩) && (f.Role == 0))))))) := by
  unfold G121 G121n bareB
  have ew : decide ((f.Words.length : Int) > 0) = !decide (f.Words.length = 0) := by
    by_cases h : f.Words.length = 0
    · simp [h]
    · have : (f.Words.length : Int) > 0 := by omega
      rw [decide_eq_true this, decide_eq_false h]; rfl
  have e1 : (f.Least != 0) = !(f.Least == 0) := rfl
  have e2 : (f.Most != 0) = !(f.Most == 0) := rfl
  rw [ew, e1, e2]
  generalize decide (f.Words.length = 0) = b1
  generalize decide (f.To = ⟨#[]⟩) = b2
  generalize (f.Role == 0) = b3
  generalize decide (f.Weighs = ⟨#[]⟩) = b4
  generalize (f.Least == 0) = b5
  generalize (f.Most == 0) = b6
  by_cases h1 : f.Kind = 1
  · simp only [h1]; cases b1 <;> cases b2 <;> cases b3 <;> cases b4 <;> cases b5 <;> cases b6 <;> rfl
  · by_cases h2 : f.Kind = 2
    · simp only [h2]; cases b1 <;> cases b2 <;> cases b3 <;> cases b4 <;> cases b5 <;> cases b6 <;> rfl
    · by_cases h3 : f.Kind = 3
      · simp only [h3]; cases b1 <;> cases b2 <;> cases b3 <;> cases b4 <;> cases b5 <;> cases b6 <;> rfl
      · by_cases h4 : f.Kind = 4
        · simp only [h4]; cases b1 <;> cases b2 <;> cases b3 <;> cases b4 <;> cases b5 <;> cases b6 <;> rfl
        · have k1 : (f.Kind == 1) = false := by simp [h1]
          have k2 : (f.Kind == 2) = false := by simp [h2]
          have k3 : (f.Kind == 3) = false := by simp [h3]
          have k4 : (f.Kind == 4) = false := by simp [h4]
          have n1 : (f.Kind != 1) = true := by simp [h1]
          have n2 : (f.Kind != 2) = true := by simp [h2]
          rw [k1, k3, k4, k2, n1, n2]
          cases b1 <;> cases b2 <;> cases b3 <;> cases b4 <;> cases b5 <;> cases b6 <;> rfl
theorem pos_has {xs : List VGateShape} {k : ByteArray} : decide (posL (fun x => decide (x.Kind = k)) xs 0 ≥ 0) = hasB (xs.map (·.Kind)) k := by
  rcases posL_cases (fun x : VGateShape => decide (x.Kind = k)) xs with ⟨e, h⟩ | ⟨i, hi, e, h, _⟩
  · rw [e]
    cases hb : hasB (xs.map (·.Kind)) k with
    | false => rfl
    | true =>
      obtain ⟨x, hx, rfl⟩ := List.mem_map.1 (has_iff.1 hb)
      have := h x hx
      simp at this
  · rw [e]
    have : hasB (xs.map (·.Kind)) k = true := has_iff.2 (List.mem_map.2 ⟨xs[i], List.getElem_mem hi, by simpa using h⟩)
    rw [this]
    simp
theorem bare_kind {ks : List ByteArray} {f : VGateField} (b : Bool) : (cond (f.Kind == 1 || (f.Kind == 2 || (f.Kind == 3 || f.Kind == 4))) (bareB f) b && soundB ks f) = (bareB f && soundB ks f) := by
  unfold bareB soundB
  cases f.Kind == 1 <;> cases f.Kind == 2 <;> cases f.Kind == 3 <;> cases f.Kind == 4 <;> simp
theorem g99 {xs : List VGateShape} {f : VGateField} (hx : xs.length ≤ 1048576) (hf : FSm f) : G99 xs f = some (fldB (xs.map (·.Kind)) f) := by
  have key : G99 xs f = some (nmB f.Name && (cond (f.Kind == 1 || (f.Kind == 2 || (f.Kind == 3 || f.Kind == 4))) (bareB f) ((f.Least == 0) && ((f.Most == 0) && (decide (f.Weighs = ⟨#[]⟩) && (decide (f.Words.length = 0) && (decide (f.To = ⟨#[]⟩) && (f.Role == 0)))))) && (defB f && soundB (xs.map (·.Kind)) f))) := by
    unfold G99 G99n
    rw [g74, g121, g101 hf.w hf.d, g74, g122 hf.w, g104, g104, g83 hx]
    simp only [Option.bind_some, pos_has]
    unfold soundB defB
    simp only [ge_iff_le]
    generalize (cond (f.Kind == 1 || (f.Kind == 2 || (f.Kind == 3 || f.Kind == 4))) (bareB f) ((f.Least == 0) && ((f.Most == 0) && (decide (f.Weighs = ⟨#[]⟩) && (decide (f.Words.length = 0) && (decide (f.To = ⟨#[]⟩) && (f.Role == 0)))))) ) = bb
    cases nmB f.Name with
    | false => rfl
    | true =>
      cases bb with
      | false => rfl
      | true =>
        have e2 : (f.Role != 2) = !(f.Role == 2) := rfl
        rw [e2]
        generalize fitB f f.Default = b1
        generalize decide (f.Default = ⟨#[]⟩) = b2
        cases f.Kind == 1 with
        | true =>
          generalize nmB f.Weighs = b3
          generalize decide (f.Weighs = ⟨#[]⟩) = b4
          generalize decide (0 ≤ f.Least) = b5
          generalize decide (f.Least ≤ f.Most) = b6
          generalize decide (f.Most ≤ 1000000) = b7
          cases b1 <;> cases b2 <;> cases b3 <;> cases b4 <;> cases b5 <;> cases b6 <;> cases b7 <;> rfl
        | false =>
          cases f.Kind == 2 with
          | true =>
            generalize ascB f.Words = b3
            generalize decide ((1 : Int) ≤ (f.Words.length : Int)) = b4
            generalize decide ((f.Words.length : Int) ≤ 6) = b5
            cases b1 <;> cases b2 <;> cases b3 <;> cases b4 <;> cases b5 <;> rfl
          | false =>
            cases f.Kind == 3 with
            | true =>
              generalize decide (1 ≤ f.Least) = b5
              generalize decide (f.Least ≤ f.Most) = b6
              generalize decide (f.Most ≤ 40) = b7
              cases b1 <;> cases b2 <;> cases b5 <;> cases b6 <;> cases b7 <;> rfl
            | false =>
              cases f.Kind == 4 with
              | false => cases b1 <;> cases b2 <;> rfl
              | true =>
                generalize hasB (xs.map (·.Kind)) f.To = b3
                generalize decide (1 ≤ f.Role) = b4
                generalize decide (f.Role ≤ 3) = b5
                generalize (f.Role == 2) = b6
                generalize f.Must = b7
                cases b1 <;> cases b2 <;> cases b3 <;> cases b4 <;> cases b5 <;> cases b6 <;> cases b7 <;> rfl
  rw [key]
  unfold fldB
  rw [Bool.and_comm (defB f), ← Bool.and_assoc (cond _ _ _), bare_kind, Bool.and_assoc]
/-! ### The program's fields -/
def linkB (b : Bool) (role : Int) (must : Bool) (d : ByteArray) : Bool := b && (decide (1 ≤ role) && (decide (role ≤ 3) && (decide (d = ⟨#[]⟩) && (!(role == 2) || !must))))
theorem take_any {α : Type} {p : α → Bool} {xs : List α} {i : Nat} (hi : i < xs.length) : (xs.take (i + 1)).any p = ((xs.take i).any p || p xs[i]) := by
  rw [← List.take_append_getElem hi, List.any_append]
  simp
theorem lp166 {ks : List ByteArray} (h : ks.length ≤ 1048576) {a4 a5 a6 a7 a8 a9 a10 a11 a12 a13 a14} : LP166_0 fuel (false, ks, (ks.length : Int), 0, a4, a5, a6, a7, a8, a9, a10, a11, a12, a13, a14) = some (linkB (hasB ks a9) a10 a11 a13) := by
  have := lp_idx (rnd := r166_0 fuel) (st := fun i => ((ks.take i).any (fun x => decide (x = a9)), ks, (ks.length : Int), (i : Int), a4, a5, a6, a7, a8, a9, a10, a11, a12, a13, a14)) (val := fun i => some (linkB (hasB ks a9) a10 a11 a13)) ks.length (fun rec => by
    simp only [r166_0, Int.lt_irrefl, decide_false, cond_false, List.take_length, ge_iff_le]
    unfold linkB hasB
    generalize ks.any (fun x => decide (x = a9)) = b1
    generalize decide (1 ≤ a10) = b2
    generalize decide (a10 ≤ 3) = b3
    generalize decide (a13 = ⟨#[]⟩) = b4
    generalize (a10 == 2) = b5
    cases b1 <;> cases b2 <;> cases b3 <;> cases b4 <;> cases b5 <;> cases a11 <;> rfl) (fun rec i hi hr => by
    have hw := wrap_nat (i := i) (by omega)
    have h1 : (i : Int) < (ks.length : Int) := by omega
    rw [take_any hi] at hr
    simp only [r166_0, h1, decide_true, cond_true, Int.natCast_nonneg, hw]
    rw [get_cast hi]
    simp only [Option.bind_some]
    cases hb : (ks.take i).any (fun x => decide (x = a9)) with
    | true => rw [hb] at hr; exact hr
    | false => rw [hb] at hr; exact hr) fuel 0 (Nat.zero_le _) (by have := fuel_big; omega)
  unfold LP166_0
  simpa using this
def dupB (fs : List VGateField) (j : Nat) : Bool := !allN (fun k => !decide ((fs.getD k ⟨⟨#[]⟩, 0, 0, 0, [], ⟨#[]⟩, 0, false, false, ⟨#[]⟩, ⟨#[]⟩⟩).Name = (fs.getD j ⟨⟨#[]⟩, 0, 0, 0, [], ⟨#[]⟩, 0, false, false, ⟨#[]⟩, ⟨#[]⟩⟩).Name)) j 0
def fAt (fs : List VGateField) (j : Nat) : VGateField := fs.getD j ⟨⟨#[]⟩, 0, 0, 0, [], ⟨#[]⟩, 0, false, false, ⟨#[]⟩, ⟨#[]⟩⟩
theorem fAt_eq {fs : List VGateField} {j : Nat} (h : j < fs.length) : fAt fs j = fs[j] := by simp [fAt, List.getD, h]
def fldsB (ks : List ByteArray) (fs : List VGateField) : Bool := allN (fun j => fldB ks (fAt fs j) && !dupB fs j) fs.length 0
theorem dup_iff {fs : List VGateField} {j : Nat} (h : j < fs.length) : dupB fs j = true ↔ ∃ k, ∃ hk : k < j, (fs[k]'(by omega)).Name = fs[j].Name := by
  unfold dupB
  rw [Bool.not_eq_true', Bool.eq_false_iff, ne_eq, allN_iff]
  have hj := fAt_eq h
  unfold fAt at hj
  constructor
  · intro hn
    exact Classical.byContradiction fun hc => hn fun k hk => by
      have hk2 := fAt_eq (show k < fs.length by omega)
      unfold fAt at hk2
      rw [hj, hk2]
      simp only [Bool.not_eq_true', decide_eq_false_iff_not]
      exact fun e => hc ⟨k, hk, e⟩
  · rintro ⟨k, hk, e⟩ hn
    have hk2 := fAt_eq (show k < fs.length by omega)
    unfold fAt at hk2
    have := hn k hk
    rw [hj, hk2] at this
    simp [e] at this
/-- How often a name has been counted: once where it stands among those before. -/
def Cnt (fs : List VGateField) (i : Nat) (m : List (Nat × ByteArray × Int)) : Prop := ∀ z, (mval KK .e9 .e3 z m = 0 ∧ ∀ k (hk : k < fs.length), k < i → fs[k].Name ≠ z) ∨ (mval KK .e9 .e3 z m = 1 ∧ ∃ k, ∃ hk : k < fs.length, k < i ∧ fs[k].Name = z)
theorem lp96 {ks : List ByteArray} {fs : List VGateField} (hk : ks.length ≤ 1048576) (hl : fs.length ≤ 1048576) (hs : ∀ f ∈ fs, FSm f) : ∀ (n i : Nat) (m : List (Nat × ByteArray × Int)) (c : Nat), i ≤ fs.length → fs.length - i < n → Cnt fs i m → lpN (r96_0 fuel) n (ks, fs, (fs.length : Int), (i : Int), m, c) = some (allN (fun j => fldB ks (fAt fs j) && !dupB fs j) fs.length i) := by
  intro n
  induction n with
  | zero => intro i m c _ h; omega
  | succ n ih =>
    intro i m c hi hn hm
    rw [lp_succ]
    rcases Nat.lt_or_ge i fs.length with h | h
    · have hw := wrap_nat (i := i) (by omega)
      have h1 : (i : Int) < (fs.length : Int) := by omega
      have hf := hs fs[i] (List.getElem_mem h)
      simp only [r96_0, h1, decide_true, cond_true, Int.natCast_nonneg, hw]
      rw [get_cast h, allN_step h, fAt_eq h]
      simp only [Option.bind_some, g78, mval_put, if_true, g98 hf.w hf.d]
      unfold fldB
      cases hnm : nmB fs[i].Name with
      | false => rfl
      | true =>
        simp only [Bool.not_true, cond_false, Bool.true_and]
        rcases hm fs[i].Name with ⟨e0, hno⟩ | ⟨e1, k, hk', hki, ek⟩
        · have hd : dupB fs i = false := by
            rw [Bool.eq_false_iff, ne_eq, dup_iff h]
            rintro ⟨k, hk, e⟩
            exact hno k (by omega) hk e
          have ew : IntKind.i64.wrap (mval KK .e9 .e3 fs[i].Name m + 1) = 1 := by rw [e0]; rfl
          have hc : Cnt fs (i + 1) (mput KK .e9 .e3 fs[i].Name 1 c m) := fun z => by
            rw [mval_put]
            by_cases hz : z = fs[i].Name
            · rw [if_pos hz]
              exact Or.inr ⟨rfl, i, h, by omega, hz.symm⟩
            · rw [if_neg hz]
              rcases hm z with ⟨a, b⟩ | ⟨a, k, hk1, hk2, e⟩
              · refine Or.inl ⟨a, fun k hk hki => ?_⟩
                rcases Nat.lt_or_ge k i with h' | h'
                · exact b k hk h'
                · obtain rfl : k = i := by omega
                  exact fun e => hz e.symm
              · exact Or.inr ⟨a, k, hk1, by omega, e⟩
          have hr := ih (i + 1) _ (mclk KK .e9 .e3 fs[i].Name c m) (by omega) (by omega) hc
          rw [ew, hd]
          have n1 : ¬ (1 : Int) > 1 := by decide
          simp only [n1, decide_false, cond_false, dec_beq, Bool.not_false, Bool.and_true]
          rw [hr]
          have q1 : ∀ x : VnumberField, x.GateField_Words = fs[i].Words → x.GateField_To = fs[i].To → x.GateField_Role = fs[i].Role → G154 x = some (decide (fs[i].Words.length = 0) && (decide (fs[i].To = ⟨#[]⟩) && (fs[i].Role == 0))) := fun x a b d => by
            unfold G154 G154n
            rw [a, b, d]
            have : (((fs[i].Words.length : Nat) : Int) == 0) = decide (fs[i].Words.length = 0) := by
              by_cases h : fs[i].Words.length = 0
              · simp [h]
              · simp [h]
            rw [this]
            cases decide (fs[i].Words.length = 0) <;> cases decide (fs[i].To = ⟨#[]⟩) <;> rfl
          have q2 : ∀ x : VwordField, x.GateField_Least = fs[i].Least → x.GateField_Most = fs[i].Most → x.GateField_To = fs[i].To → x.GateField_Role = fs[i].Role → x.GateField_Weighs = fs[i].Weighs → G158 x = some ((fs[i].Least == 0) && ((fs[i].Most == 0) && (decide (fs[i].To = ⟨#[]⟩) && ((fs[i].Role == 0) && decide (fs[i].Weighs = ⟨#[]⟩))))) := fun x a b d e f => by
            unfold G158 G158n
            rw [a, b, d, e, f]
            cases fs[i].Least == 0 <;> cases fs[i].Most == 0 <;> cases decide (fs[i].To = ⟨#[]⟩) <;> cases fs[i].Role == 0 <;> rfl
          have q3 : ∀ x : VtextField, x.GateField_Words = fs[i].Words → x.GateField_To = fs[i].To → x.GateField_Role = fs[i].Role → x.GateField_Weighs = fs[i].Weighs → G161 x = some (decide (fs[i].Words.length = 0) && (decide (fs[i].To = ⟨#[]⟩) && ((fs[i].Role == 0) && decide (fs[i].Weighs = ⟨#[]⟩)))) := fun x a b d e => by
            unfold G161 G161n
            rw [a, b, d, e]
            have : (((fs[i].Words.length : Nat) : Int) == 0) = decide (fs[i].Words.length = 0) := by
              by_cases h : fs[i].Words.length = 0
              · simp [h]
              · simp [h]
            rw [this]
            cases decide (fs[i].Words.length = 0) <;> cases decide (fs[i].To = ⟨#[]⟩) <;> cases fs[i].Role == 0 <;> rfl
          have q4 : ∀ x : VlinkField, x.GateField_Least = fs[i].Least → x.GateField_Most = fs[i].Most → x.GateField_Words = fs[i].Words → x.GateField_Weighs = fs[i].Weighs → G164 x = some ((fs[i].Least == 0) && ((fs[i].Most == 0) && (decide (fs[i].Words.length = 0) && decide (fs[i].Weighs = ⟨#[]⟩)))) := fun x a b d e => by
            unfold G164 G164n
            rw [a, b, d, e]
            have : (((fs[i].Words.length : Nat) : Int) == 0) = decide (fs[i].Words.length = 0) := by
              by_cases h : fs[i].Words.length = 0
              · simp [h]
              · simp [h]
            rw [this]
            cases fs[i].Least == 0 <;> cases fs[i].Most == 0 <;> cases decide (fs[i].Words.length = 0) <;> rfl
          have s1 : ∀ x : VnumberField, x.GateField_Least = fs[i].Least → x.GateField_Most = fs[i].Most → x.GateField_Weighs = fs[i].Weighs → G156 x ks = some (decide (0 ≤ fs[i].Least) && (decide (fs[i].Least ≤ fs[i].Most) && (decide (fs[i].Most ≤ 1000000) && (decide (fs[i].Weighs = ⟨#[]⟩) || nmB fs[i].Weighs)))) := fun x a b d => by
            unfold G156 G156n
            rw [a, b, d, g78]
            simp only [ge_iff_le, Option.bind_some]
            cases decide (0 ≤ fs[i].Least) <;> cases decide (fs[i].Least ≤ fs[i].Most) <;> cases decide (fs[i].Most ≤ 1000000) <;> cases decide (fs[i].Weighs = ⟨#[]⟩) <;> rfl
          have s2 : ∀ x : VwordField, x.GateField_Words = fs[i].Words → G160 x ks = some (decide (1 ≤ (fs[i].Words.length : Int)) && (decide ((fs[i].Words.length : Int) ≤ 6) && ascB fs[i].Words)) := fun x a => by
            unfold G160 G160n
            rw [a, g95 hf.w]
            simp only [ge_iff_le, Option.bind_some]
            cases decide (1 ≤ (fs[i].Words.length : Int)) <;> cases decide ((fs[i].Words.length : Int) ≤ 6) <;> rfl
          have s3 : ∀ x : VtextField, x.GateField_Least = fs[i].Least → x.GateField_Most = fs[i].Most → G163 x ks = some (decide (1 ≤ fs[i].Least) && (decide (fs[i].Least ≤ fs[i].Most) && decide (fs[i].Most ≤ 40))) := fun x a b => by
            unfold G163 G163n
            rw [a, b]
            simp only [ge_iff_le, Option.bind_some]
            cases decide (1 ≤ fs[i].Least) <;> cases decide (fs[i].Least ≤ fs[i].Most) <;> rfl
          have s4 : ∀ x : VlinkField, x.GateField_To = fs[i].To → x.GateField_Role = fs[i].Role → x.GateField_Must = fs[i].Must → x.GateField_Default = fs[i].Default → G166 x ks = some (linkB (hasB ks fs[i].To) fs[i].Role fs[i].Must fs[i].Default) := fun x a b d e => by
            unfold G166 G166n
            rw [lp166 hk, a, b, d, e]
          rw [q1 _ rfl rfl rfl, q2 _ rfl rfl rfl rfl rfl, q3 _ rfl rfl rfl rfl, q4 _ rfl rfl rfl rfl, s1 _ rfl rfl rfl, s2 _ rfl, s3 _ rfl rfl, s4 _ rfl rfl rfl rfl]
          simp only [Option.bind_some]
          unfold bareB soundB defB linkB
          generalize fitB fs[i] fs[i].Default = b1
          generalize decide (fs[i].Default = ⟨#[]⟩) = b2
          generalize allN (fun j => nmB (fAt fs j).Name && (bareB (fAt fs j) && (soundB ks (fAt fs j) && defB (fAt fs j))) && !dupB fs j) fs.length (i + 1) = R at hr ⊢
          cases fs[i].Kind == 1 with
          | true =>
            simp only [cond_true]
            generalize (decide (fs[i].Words.length = 0) && (decide (fs[i].To = ⟨#[]⟩) && (fs[i].Role == 0))) = x1
            generalize (decide (0 ≤ fs[i].Least) && (decide (fs[i].Least ≤ fs[i].Most) && (decide (fs[i].Most ≤ 1000000) && (decide (fs[i].Weighs = ⟨#[]⟩) || nmB fs[i].Weighs)))) = x2
            cases x1 <;> cases x2 <;> cases b1 <;> cases b2 <;> rfl
          | false =>
            simp only [cond_false]
            cases fs[i].Kind == 2 with
            | true =>
              simp only [cond_true]
              generalize ((fs[i].Least == 0) && ((fs[i].Most == 0) && (decide (fs[i].To = ⟨#[]⟩) && ((fs[i].Role == 0) && decide (fs[i].Weighs = ⟨#[]⟩))))) = x1
              generalize (decide (1 ≤ (fs[i].Words.length : Int)) && (decide ((fs[i].Words.length : Int) ≤ 6) && ascB fs[i].Words)) = x2
              cases x1 <;> cases x2 <;> cases b1 <;> cases b2 <;> rfl
            | false =>
              simp only [cond_false]
              cases fs[i].Kind == 3 with
              | true =>
                simp only [cond_true]
                generalize (decide (fs[i].Words.length = 0) && (decide (fs[i].To = ⟨#[]⟩) && ((fs[i].Role == 0) && decide (fs[i].Weighs = ⟨#[]⟩)))) = x1
                generalize (decide (1 ≤ fs[i].Least) && (decide (fs[i].Least ≤ fs[i].Most) && decide (fs[i].Most ≤ 40))) = x2
                cases x1 <;> cases x2 <;> cases b1 <;> cases b2 <;> rfl
              | false =>
                simp only [cond_false]
                cases fs[i].Kind == 4 with
                | false => rfl
                | true =>
                  simp only [cond_true]
                  generalize ((fs[i].Least == 0) && ((fs[i].Most == 0) && (decide (fs[i].Words.length = 0) && decide (fs[i].Weighs = ⟨#[]⟩)))) = x1
                  generalize hasB ks fs[i].To = x2
                  generalize decide (1 ≤ fs[i].Role) = x3
                  generalize decide (fs[i].Role ≤ 3) = x4
                  generalize (fs[i].Role == 2) = x5
                  generalize fs[i].Must = x6
                  cases x1 <;> cases x2 <;> cases b1 <;> cases b2 <;> cases x3 <;> cases x4 <;> cases x5 <;> cases x6 <;> rfl
        · have hd : dupB fs i = true := (dup_iff h).2 ⟨k, hki, ek⟩
          have ew : IntKind.i64.wrap (mval KK .e9 .e3 fs[i].Name m + 1) = 2 := by rw [e1]; rfl
          rw [ew, hd]
          simp
    · have e : i = fs.length := by omega
      subst e
      simp [r96_0, allN_end]
end Go.Proofs.Ytkiognopoigbhaa.Ab

/- The plain law: shapes. -/
set_option linter.unusedVariables false
set_option linter.unusedSimpArgs false
namespace Go.Proofs.Ytkiognopoigbhaa.Ab
open Go Go.RowKit

theorem fsm_of {f : VGateField} (h : s_GateField f ≤ 1048576) : FSm f := by
  unfold s_GateField at h
  have := s_StringS_len f.Words
  exact ⟨by omega, by omega⟩
structure SSm (x : VGateShape) : Prop where
  l : x.Fields.length ≤ 1048576
  f : ∀ f ∈ x.Fields, FSm f
theorem ssm_of {x : VGateShape} (h : s_GateShape x ≤ 1048576) : SSm x := by
  unfold s_GateShape at h
  have := s_GateFieldS_len x.Fields
  exact ⟨by omega, fun f hf => fsm_of (by have := s_GateFieldS_mem hf; omega)⟩
def kindsOf (xs : List VGateShape) : List ByteArray := xs.map (·.Kind)
def shB (ks : List ByteArray) (x : VGateShape) : Bool := decide (x.Fields.length ≤ 6) && fldsB ks x.Fields
def spB (xs : List VGateShape) (j : Nat) : Bool := ascAt (kindsOf xs) j && (match xs[j]? with | some x => shB (kindsOf xs) x | none => true)
theorem kinds_at {xs : List VGateShape} {i : Nat} (h : i < xs.length) : (kindsOf xs).getD i ⟨#[]⟩ = xs[i].Kind := by simp [kindsOf, List.getD, h]
theorem lp71_2 {rec0 : A71_0 → Option Bool} {rec1 : A71_1 → Option Bool} {xs : List VGateShape} {I : Int} {kind : ByteArray} {fs : List VGateField} {j : Nat} (hl : fs.length ≤ 1048576) (hj : j < fs.length) :
    LP71_2 fuel rec0 rec1 (xs, I, (j : Int), 0, kind, fs) = cond (dupB fs j) (some false) (rec1 (xs, I, ((j + 1 : Nat) : Int), kind, fs)) := by
  have := lp_idx (rnd := r71_2 fuel rec0 rec1) (st := fun k => (xs, I, (j : Int), (k : Int), kind, fs)) (val := fun k => cond (allN (fun k => !decide ((fAt fs k).Name = (fAt fs j).Name)) j k) (rec1 (xs, I, ((j + 1 : Nat) : Int), kind, fs)) (some false)) j (fun rec => by
    have hw := wrap_nat (i := j) (by omega)
    simp only [r71_2, Int.lt_irrefl, decide_false, cond_false, allN_end, cond_true, hw]) (fun rec k hk hr => by
    have hw := wrap_nat (i := k) (by omega)
    have h1 : (k : Int) < (j : Int) := by omega
    simp only [r71_2, h1, decide_true, cond_true, Int.natCast_nonneg, hw]
    rw [get_cast (show k < fs.length by omega), get_cast hj, allN_step hk, fAt_eq hj, fAt_eq (show k < fs.length by omega)]
    simp only [Option.bind_some]
    cases hd : decide ((fs[k]'(by omega)).Name = fs[j].Name) with
    | true => rfl
    | false => simpa [fAt_eq hj] using hr) fuel 0 (Nat.zero_le _) (by have := fuel_big; omega)
  unfold LP71_2
  have hd : dupB fs j = !allN (fun k => !decide ((fAt fs k).Name = (fAt fs j).Name)) j 0 := rfl
  rw [show (0 : Int) = ((0 : Nat) : Int) from rfl, this, hd]
  cases allN (fun k => !decide ((fAt fs k).Name = (fAt fs j).Name)) j 0 <;> rfl
theorem lp71_1 {rec0 : A71_0 → Option Bool} {xs : List VGateShape} {i : Nat} {kind : ByteArray} {fs : List VGateField} (hx : xs.length ≤ 1048576) (hi : i < xs.length) (hl : fs.length ≤ 1048576) (hs : ∀ f ∈ fs, FSm f) :
    LP71_1 fuel rec0 (xs, (i : Int), 0, kind, fs) = cond (fldsB (kindsOf xs) fs) (rec0 (xs, ((i + 1 : Nat) : Int))) (some false) := by
  have := lp_idx (rnd := r71_1 fuel rec0) (st := fun j => (xs, (i : Int), (j : Int), kind, fs)) (val := fun j => cond (allN (fun j => fldB (kindsOf xs) (fAt fs j) && !dupB fs j) fs.length j) (rec0 (xs, ((i + 1 : Nat) : Int))) (some false)) fs.length (fun rec => by
    have hw := wrap_nat (i := i) (by omega)
    simp only [r71_1, Int.lt_irrefl, decide_false, cond_false, allN_end, cond_true, hw]) (fun rec j hj hr => by
    have hw := wrap_nat (i := j) (by omega)
    have h1 : (j : Int) < (fs.length : Int) := by omega
    simp only [r71_1, h1, decide_true, cond_true, Int.natCast_nonneg, lp71_2 hl hj]
    rw [get_cast hj, allN_step hj, fAt_eq hj]
    simp only [Option.bind_some, g99 hx (hs _ (List.getElem_mem hj))]
    rw [show xs.map (·.Kind) = kindsOf xs from rfl]
    cases fldB (kindsOf xs) fs[j] with
    | false => rfl
    | true =>
      cases dupB fs j with
      | true => rfl
      | false => simpa using hr) fuel 0 (Nat.zero_le _) (by have := fuel_big; omega)
  unfold LP71_1
  rw [show (0 : Int) = ((0 : Nat) : Int) from rfl, this]
  rfl
theorem len6 {n : Nat} : decide ((n : Int) > 6) = !decide (n ≤ 6) := by
  by_cases h : n ≤ 6
  · have : ¬ (n : Int) > 6 := by omega
    simp [h, this]
  · have : (n : Int) > 6 := by omega
    rw [decide_eq_true this, decide_eq_false h]; rfl
def shapesB (xs : List VGateShape) : Bool := decide (xs.length ≤ 6) && allN (spB xs) xs.length 0
theorem g71 {xs : List VGateShape} (hx : xs.length ≤ 1048576) (hs : ∀ x ∈ xs, SSm x) : G71 xs = some (shapesB xs) := by
  have hl : LP71_0 fuel (xs, 0) = some (allN (spB xs) xs.length 0) := lp_idx (rnd := r71_0 fuel) (st := fun i => (xs, (i : Int))) (val := fun i => some (allN (spB xs) xs.length i)) xs.length (fun rec => by simp [r71_0, allN_end]) (fun rec i hi hr => by
    have hm := hs xs[i] (List.getElem_mem hi)
    have h1 : (i : Int) < (xs.length : Int) := by omega
    have hg : xs[i]? = some xs[i] := List.getElem?_eq_getElem hi
    simp only [r71_0, h1, decide_true, cond_true, Int.natCast_nonneg, lp71_1 hx hi hm.l hm.f]
    rw [get_cast hi, allN_step hi]
    have he : spB xs i = ((nmB xs[i].Kind && (decide (i = 0) || slt ((kindsOf xs).getD (i - 1) ⟨#[]⟩) xs[i].Kind)) && (decide (xs[i].Fields.length ≤ 6) && fldsB (kindsOf xs) xs[i].Fields)) := by
      unfold spB ascAt shB
      rw [kinds_at hi, hg]
    rw [he]
    simp only [Option.bind_some, g74, len6, lp71_1 hx hi hm.l hm.f]
    rw [hr]
    cases hb : nmB xs[i].Kind with
    | false => rfl
    | true =>
      rcases Nat.eq_zero_or_pos i with h0 | h0
      · subst h0
        cases decide (xs[0].Fields.length ≤ 6) <;> cases fldsB (kindsOf xs) xs[0].Fields <;> simp
      · have hp := wrap_pred h0 (by omega)
        have h2 : (i : Int) > 0 := by omega
        have h3 : ¬ i = 0 := by omega
        rw [hp, get_cast (show i - 1 < xs.length by omega), kinds_at (show i - 1 < xs.length by omega)]
        simp only [h2, h3, decide_true, decide_false, cond_true, Int.natCast_nonneg, Option.bind_some, Bool.not_true, cond_false, Bool.false_or, Bool.true_and]
        cases slt (xs[i - 1]'(by omega)).Kind xs[i].Kind <;> cases decide (xs[i].Fields.length ≤ 6) <;> cases fldsB (kindsOf xs) xs[i].Fields <;> rfl) fuel 0 (Nat.zero_le _) (by have := fuel_big; omega)
  unfold G71 G71n shapesB
  rw [len6, hl]
  cases decide (xs.length ≤ 6) <;> rfl
theorem cnt_nil (fs : List VGateField) : Cnt fs 0 [] := fun z => Or.inl ⟨rfl, fun k hk h => by omega⟩
theorem g96 {ks : List ByteArray} {x : VGateShape} (hk : ks.length ≤ 1048576) (hm : SSm x) : G96 x ks = some (shB ks x) := by
  have hl : LP96_0 fuel (ks, x.Fields, (x.Fields.length : Int), 0, ([] : List (Nat × ByteArray × Int)), 0) = some (fldsB ks x.Fields) := lp96 hk hm.l hm.f fuel 0 [] 0 (Nat.zero_le _) (by have := fuel_big; have := hm.l; omega) (cnt_nil _)
  unfold G96 G96n shB
  rw [len6]
  cases decide (x.Fields.length ≤ 6) with
  | false => rfl
  | true => exact hl
theorem asc_shapes {xs : List VGateShape} : allN (spB xs) xs.length 0 = (ascB (kindsOf xs) && xs.all (fun x => shB (kindsOf xs) x)) := by
  rw [Bool.eq_iff_iff, Bool.and_eq_true, List.all_eq_true]
  unfold ascB
  have hlen : (kindsOf xs).length = xs.length := by simp [kindsOf]
  rw [hlen, allN_iff, allN_iff]
  unfold spB
  constructor
  · intro h
    refine ⟨fun j hj => ?_, fun x hx => ?_⟩
    · have := h j hj
      rw [Bool.and_eq_true] at this
      exact this.1
    · obtain ⟨i, hi, rfl⟩ := List.mem_iff_getElem.1 hx
      have := h i hi
      rw [Bool.and_eq_true, List.getElem?_eq_getElem hi] at this
      exact this.2
  · rintro ⟨h1, h2⟩ j hj
    rw [Bool.and_eq_true, List.getElem?_eq_getElem hj]
    exact ⟨h1 j hj, h2 _ (List.getElem_mem hj)⟩
theorem g67 {xs : List VGateShape} (hx : xs.length ≤ 1048576) (hs : ∀ x ∈ xs, SSm x) : G67 xs = some (shapesB xs) := by
  have hk : (kindsOf xs).length ≤ 1048576 := by simp [kindsOf]; omega
  have h2 : LP67_1 fuel (kindsOf xs, xs, (xs.length : Int), 0) = some (xs.all (fun x => shB (kindsOf xs) x)) := by
    refine all_lp (rnd := r67_1 fuel) (st := fun i => (kindsOf xs, xs, (xs.length : Int), (i : Int))) hx (fun rec => by simp [r67_1]) (fun rec i hi => ?_)
    have hw := wrap_nat (i := i) (by omega)
    have h1 : (i : Int) < (xs.length : Int) := by omega
    simp only [r67_1]
    rw [get_cast hi, hw]
    simp only [h1, decide_true, cond_true, Int.natCast_nonneg, Option.bind_some, g96 hk (hs _ (List.getElem_mem hi))]
    cases shB (kindsOf xs) xs[i] <;> rfl
  have hl : LP67_0 fuel (xs, ([] : List ByteArray), xs, (xs.length : Int), 0) = some (allN (spB xs) xs.length 0) := by
    have := lp_idx (rnd := r67_0 fuel) (st := fun i => (xs, kindsOf (xs.take i), xs, (xs.length : Int), (i : Int))) (val := fun i => some (allN (spB xs) xs.length 0)) xs.length (fun rec => by
      simp only [r67_0, Int.lt_irrefl, decide_false, cond_false, List.take_length, g95 hk, Option.bind_some, h2, asc_shapes]
      cases ascB (kindsOf xs) <;> rfl) (fun rec i hi hr => by
      have hw := wrap_nat (i := i) (by omega)
      have h1 : (i : Int) < (xs.length : Int) := by omega
      have hl : (kindsOf (xs.take i)).length = i := by simp [kindsOf]; omega
      have h3 : (i + 1) * 16 ≤ 140737488355328 := by omega
      simp only [r67_0, h1, decide_true, cond_true, Int.natCast_nonneg, hw]
      rw [get_cast hi]
      simp only [Option.bind_some, hl, List.length_singleton, h3, decide_true, cond_true]
      rw [show kindsOf (xs.take i) ++ [xs[i].Kind] = kindsOf (xs.take (i + 1)) from by unfold kindsOf; rw [← List.take_append_getElem hi, List.map_append]; rfl]
      exact hr) fuel 0 (Nat.zero_le _) (by have := fuel_big; omega)
    unfold LP67_0
    simpa [kindsOf] using this
  unfold G67 G67n shapesB
  have h3 : (xs.length : Int) * 16 ≤ 140737488355328 := by omega
  rw [len6, hl]
  simp only [h3, Int.natCast_nonneg, decide_true, cond_true]
  cases decide (xs.length ≤ 6) <;> rfl
end Go.Proofs.Ytkiognopoigbhaa.Ab

/- The plain law: mends. -/
set_option linter.unusedVariables false
set_option linter.unusedSimpArgs false
namespace Go.Proofs.Ytkiognopoigbhaa.Ab
open Go Go.RowKit

theorem pos_find {α : Type} (p : α → Bool) (xs : List α) : (posL p xs 0 = -1 ∧ xs.find? p = none) ∨ ∃ i : Nat, ∃ h : i < xs.length, posL p xs 0 = (i : Int) ∧ xs.find? p = some xs[i] := by
  rcases posL_cases p xs with ⟨e, h⟩ | ⟨i, hi, e, hp, hb⟩
  · exact Or.inl ⟨e, List.find?_eq_none.2 fun x hx => by simp [h x hx]⟩
  · exact Or.inr ⟨i, hi, e, List.find?_eq_some_iff_getElem.2 ⟨hp, i, hi, rfl, fun j hj => by simp [hb j hj]⟩⟩
def fieldOf (fs : List VGateField) (a : ByteArray) : Option VGateField := fs.find? fun x => decide (x.Name = a)
def plB (fs : List VGateField) (a : ByteArray) : Bool := match fieldOf fs a with
  | some x => x.Kind != 4
  | none => false
theorem g100 {fs : List VGateField} (h : fs.length ≤ 1048576) (a : ByteArray) : G100 fs a = some (plB fs a) := by
  unfold G100 G100n plB fieldOf
  rw [g85 h]
  rcases pos_find (fun x : VGateField => decide (x.Name = a)) fs with ⟨e, h⟩ | ⟨i, hi, e, h⟩
  · rw [e, h]; rfl
  · rw [e, h]
    simp only [Option.bind_some, ge_iff_le, Int.natCast_nonneg, decide_true, cond_true]
    rw [get_cast hi]; rfl
theorem g97 {fs : List VGateField} (h : fs.length ≤ 1048576) (a : ByteArray) : G97 a fs = some (plB fs a) := by
  unfold G97 G97n plB fieldOf
  rw [g57 h]
  rcases pos_find (fun x : VGateField => decide (x.Name = a)) fs with ⟨e, h⟩ | ⟨i, hi, e, h⟩
  · rw [e, h]; rfl
  · rw [e, h]
    simp only [Option.bind_some, ge_iff_le, Int.natCast_nonneg, decide_true, cond_true]
    rw [get_cast hi]; rfl
def putB (fs : List VGateField) (m : VGateMend) : Bool := match fieldOf fs m.Field with
  | some x => fitB x m.Put
  | none => false
theorem tl72 {fs : List VGateField} {m : VGateMend} (h : fs.length ≤ 1048576) (hs : ∀ f ∈ fs, FSm f) (hm : m.Put.size ≤ 1048576) (hp : plB fs m.Field = true) :
    (Option.bind (G85 fs m.Field) fun r => cond (decide (0 ≤ r)) (Option.bind fs[r.toNat]? fun x => Option.bind (G101 x m.Put) fun b => some (b)) none) = some (putB fs m) := by
  unfold putB
  unfold plB at hp
  unfold fieldOf at hp ⊢
  rw [g85 h]
  rcases pos_find (fun x : VGateField => decide (x.Name = m.Field)) fs with ⟨e, h⟩ | ⟨i, hi, e, h⟩
  · rw [h] at hp; cases hp
  · rw [e, h]
    simp only [Option.bind_some, ge_iff_le, Int.natCast_nonneg, decide_true, cond_true]
    have hf := hs fs[i] (List.getElem_mem hi)
    rw [get_cast hi]
    simp only [Option.bind_some, g101 hf.w hm]
theorem tl68 {fs : List VGateField} {m : VGateMend} (h : fs.length ≤ 1048576) (hs : ∀ f ∈ fs, FSm f) (hm : m.Put.size ≤ 1048576) (hp : plB fs m.Field = true) :
    (Option.bind (G57 fs m.Field) fun r => cond (decide (0 ≤ r)) (Option.bind fs[r.toNat]? fun x => Option.bind (G98 x m.Put) fun b => some (b)) none) = some (putB fs m) := by
  unfold putB
  unfold plB at hp
  unfold fieldOf at hp ⊢
  rw [g57 h]
  rcases pos_find (fun x : VGateField => decide (x.Name = m.Field)) fs with ⟨e, h⟩ | ⟨i, hi, e, h⟩
  · rw [h] at hp; cases hp
  · rw [e, h]
    simp only [Option.bind_some, ge_iff_le, Int.natCast_nonneg, decide_true, cond_true]
    have hf := hs fs[i] (List.getElem_mem hi)
    rw [get_cast hi]
    simp only [Option.bind_some, g98 hf.w hm]
def mendB (fs : List VGateField) (m : VGateMend) : Bool :=
  plB fs m.Field && ((decide (m.When = ⟨#[]⟩) || plB fs m.When) && ((decide (m.From = ⟨#[]⟩) || plB fs m.From) && (!decide (m.When = m.Field) && (!decide (m.From = m.Field) && ((!decide (m.When = ⟨#[]⟩) || decide (m.Is = ⟨#[]⟩)) && (!(decide (m.Put = ⟨#[]⟩) == decide (m.From = ⟨#[]⟩)) && (decide (m.Put = ⟨#[]⟩) || putB fs m)))))))
theorem g68 {fs : List VGateField} {m : VGateMend} (h : fs.length ≤ 1048576) (hs : ∀ f ∈ fs, FSm f) (hm : m.Put.size ≤ 1048576) : G68 fs m = some (mendB fs m) := by
  unfold G68 G68n mendB
  rw [g97 h, g97 h, g97 h]
  simp only [Option.bind_some]
  cases hp : plB fs m.Field with
  | false => rfl
  | true =>
    simp only [tl68 h hs hm hp]
    generalize plB fs m.When = b1
    generalize plB fs m.From = b2
    generalize decide (m.When = ⟨#[]⟩) = b3
    generalize decide (m.From = ⟨#[]⟩) = b4
    generalize decide (m.When = m.Field) = b5
    generalize decide (m.From = m.Field) = b6
    generalize decide (m.Is = ⟨#[]⟩) = b7
    generalize decide (m.Put = ⟨#[]⟩) = b8
    generalize putB fs m = b9
    cases b3 <;> cases b4 <;> cases b5 <;> cases b6 <;> cases b1 <;> cases b2 <;> first | rfl | (cases b7 <;> cases b8 <;> cases b9 <;> rfl)
def shapeAt (xs : List VGateShape) (k : ByteArray) : Option VGateShape := xs.find? fun x => decide (x.Kind = k)
def mdB (xs : List VGateShape) (m : VGateMend) : Bool := match shapeAt xs m.Kind with
  | some x => mendB x.Fields m
  | none => false
theorem g72 {xs : List VGateShape} {m : VGateMend} (hx : xs.length ≤ 1048576) (hs : ∀ x ∈ xs, SSm x) (hm : m.Put.size ≤ 1048576) : G72 xs m = some (mdB xs m) := by
  unfold G72 G72n mdB shapeAt
  rw [g83 hx]
  rcases pos_find (fun x : VGateShape => decide (x.Kind = m.Kind)) xs with ⟨e, h⟩ | ⟨i, hi, e, h⟩
  · rw [e, h]; rfl
  · rw [e, h]
    have hn : ¬ (i : Int) < 0 := by omega
    have hm2 := hs xs[i] (List.getElem_mem hi)
    simp only [Option.bind_some, hn, decide_false, cond_false, Int.natCast_nonneg, decide_true, cond_true]
    rw [get_cast hi]
    simp only [Option.bind_some]
    rw [g100 hm2.l, g100 hm2.l, g100 hm2.l]
    unfold mendB
    simp only [Option.bind_some]
    cases hp : plB xs[i].Fields m.Field with
    | false => rfl
    | true =>
      simp only [tl72 hm2.l hm2.f hm hp]
      generalize plB xs[i].Fields m.When = b1
      generalize plB xs[i].Fields m.From = b2
      generalize decide (m.When = ⟨#[]⟩) = b3
      generalize decide (m.From = ⟨#[]⟩) = b4
      generalize decide (m.When = m.Field) = b5
      generalize decide (m.From = m.Field) = b6
      generalize decide (m.Is = ⟨#[]⟩) = b7
      generalize decide (m.Put = ⟨#[]⟩) = b8
      generalize putB xs[i].Fields m = b9
      cases b3 <;> cases b4 <;> cases b5 <;> cases b6 <;> cases b1 <;> cases b2 <;> first | rfl | (cases b7 <;> cases b8 <;> cases b9 <;> rfl)
theorem lp39_0 {xs : List VGateShape} {ms : List VGateMend} (hx : xs.length ≤ 1048576) (hs : ∀ x ∈ xs, SSm x) (hl : ms.length ≤ 1048576) (hm : ∀ m ∈ ms, m.Put.size ≤ 1048576) :
    LP39_0 fuel (xs, ms, 0) = cond (ms.all (mdB xs)) (LP39_1 fuel (xs, ms, 0)) (some false) := by
  have := lp_idx (rnd := r39_0 fuel) (st := fun i => (xs, ms, (i : Int))) (val := fun i => cond ((ms.drop i).all (mdB xs)) (LP39_1 fuel (xs, ms, 0)) (some false)) ms.length (fun rec => by
    simp only [r39_0, Int.lt_irrefl, decide_false, cond_false, List.drop_length, List.all_nil, cond_true]) (fun rec i hi hr => by
    have hw := wrap_nat (i := i) (by omega)
    have h1 : (i : Int) < (ms.length : Int) := by omega
    simp only [r39_0, h1, decide_true, cond_true, Int.natCast_nonneg, hw]
    rw [get_cast hi, List.drop_eq_getElem_cons hi, List.all_cons]
    simp only [Option.bind_some, g72 hx hs (hm _ (List.getElem_mem hi))]
    cases mdB xs ms[i] with
    | false => rfl
    | true => simpa using hr) fuel 0 (Nat.zero_le _) (by have := fuel_big; omega)
  unfold LP39_0
  simpa using this
theorem lp31_0 {xs : List VGateShape} {ms : List VGateMend} (hx : xs.length ≤ 1048576) (hs : ∀ x ∈ xs, SSm x) (hl : ms.length ≤ 1048576) (hm : ∀ m ∈ ms, m.Put.size ≤ 1048576) :
    LP31_0 fuel (xs, ms, ms, (ms.length : Int), 0) = cond (ms.all (mdB xs)) (LP31_1 fuel (ms, xs, (xs.length : Int), 0)) (some false) := by
  have := lp_idx (rnd := r31_0 fuel) (st := fun i => (xs, ms, ms, (ms.length : Int), (i : Int))) (val := fun i => cond ((ms.drop i).all (mdB xs)) (LP31_1 fuel (ms, xs, (xs.length : Int), 0)) (some false)) ms.length (fun rec => by
    simp only [r31_0, Int.lt_irrefl, decide_false, cond_false, List.drop_length, List.all_nil, cond_true]) (fun rec i hi hr => by
    have hw := wrap_nat (i := i) (by omega)
    have h1 : (i : Int) < (ms.length : Int) := by omega
    simp only [r31_0, h1, decide_true, cond_true, Int.natCast_nonneg, hw]
    rw [get_cast hi, List.drop_eq_getElem_cons hi, List.all_cons]
    simp only [Option.bind_some, g55 hx]
    rw [show mdB xs ms[i] = (match xs.find? (fun x => decide (x.Kind = ms[i].Kind)) with | some x => mendB x.Fields ms[i] | none => false) from rfl]
    rcases pos_find (fun x : VGateShape => decide (x.Kind = ms[i].Kind)) xs with ⟨e, h⟩ | ⟨k, hk, e, h⟩
    · rw [e, h]; rfl
    · rw [e, h]
      have hn : ¬ (k : Int) < 0 := by omega
      have hm2 := hs xs[k] (List.getElem_mem hk)
      simp only [Option.bind_some, hn, decide_false, cond_false, Int.natCast_nonneg, decide_true, cond_true]
      rw [get_cast hk]
      simp only [Option.bind_some, g68 hm2.l hm2.f (hm _ (List.getElem_mem hi))]
      cases mendB xs[k].Fields ms[i] with
      | false => rfl
      | true => simpa using hr) fuel 0 (Nat.zero_le _) (by have := fuel_big; omega)
  unfold LP31_0
  simpa using this
end Go.Proofs.Ytkiognopoigbhaa.Ab

/- The plain law: rows of fields, each behind what it needs: the program's search goes deep, the reference takes what is ready. -/
set_option linter.unusedVariables false
set_option linter.unusedSimpArgs false
namespace Go.Proofs.Ytkiognopoigbhaa.Ab
open Go Go.RowKit

/-! ### What a field needs -/
def ndep (m : VGateMend) : List ByteArray := (cond (decide (m.When = ⟨#[]⟩)) [] [m.When]) ++ (cond (decide (m.From = ⟨#[]⟩)) [] [m.From])
def depOne (K y : ByteArray) (m : VGateMend) : List ByteArray := cond (decide (m.Kind = K)) (cond (decide (m.Field = y)) (ndep m) []) []
def depsOf (ms : List VGateMend) (K y : ByteArray) : List ByteArray := ms.flatMap (depOne K y)
theorem depOne_len (K y : ByteArray) (m : VGateMend) : (depOne K y m).length ≤ 2 := by
  unfold depOne ndep
  cases decide (m.Kind = K) <;> cases decide (m.Field = y) <;> cases decide (m.When = ⟨#[]⟩) <;> cases decide (m.From = ⟨#[]⟩) <;> simp
theorem depsOf_len (K y : ByteArray) : ∀ ms : List VGateMend, (depsOf ms K y).length ≤ 2 * ms.length
  | [] => by simp [depsOf]
  | m :: r => by
    have := depsOf_len K y r
    have h2 := depOne_len K y m
    unfold depsOf at this ⊢
    rw [List.flatMap_cons, List.length_append, List.length_cons]; omega
theorem deps_take {ms : List VGateMend} {K y : ByteArray} {i : Nat} (hi : i < ms.length) : depsOf (ms.take (i + 1)) K y = depsOf (ms.take i) K y ++ depOne K y ms[i] := by
  unfold depsOf
  rw [← List.take_append_getElem hi, List.flatMap_append]
  simp
theorem mem_bound {a b c : Nat} (hd : a ≤ 2 * b) (hb : b ≤ c) (hl : c ≤ 1048576) : (a + 1) * 16 ≤ 140737488355328 ∧ (a + 1 + 1) * 16 ≤ 140737488355328 := by omega
theorem g89 {ms : List VGateMend} (hl : ms.length ≤ 1048576) (y K : ByteArray) (fs : List VGateField) : G89 y ms ⟨K, fs⟩ = some (depsOf ms K y) := by
  have := lp_idx (rnd := r89_0 fuel) (st := fun i => (y, (⟨K, fs⟩ : VGateShape), depsOf (ms.take i) K y, ms, (ms.length : Int), (i : Int))) (val := fun i => some (depsOf ms K y)) ms.length (fun rec => by
    simp only [r89_0, Int.lt_irrefl, decide_false, cond_false, List.take_length]) (fun rec i hi hr => by
    have hw := wrap_nat (i := i) (by omega)
    have h1 : (i : Int) < (ms.length : Int) := by omega
    have hd := depsOf_len K y (ms.take i)
    have hd2 : (ms.take i).length ≤ ms.length := by simp only [List.length_take]; exact Nat.min_le_right _ _
    rw [deps_take hi] at hr
    generalize hA : depsOf (ms.take i) K y = A at hr hd ⊢
    obtain ⟨m1, m2⟩ := mem_bound hd hd2 hl
    simp only [r89_0, h1, decide_true, cond_true, Int.natCast_nonneg, hw]
    rw [get_cast hi]
    simp only [Option.bind_some, List.length_append, List.length_singleton, m1, m2, decide_true, cond_true]
    unfold depOne ndep at hr
    generalize hB : rec = R at hr ⊢
    cases h3 : decide (ms[i].Kind = K) with
    | false =>
      rw [h3] at hr
      simp only [cond_false, List.append_nil] at hr
      exact hr
    | true =>
      cases h4 : decide (ms[i].Field = y) with
      | false =>
        rw [h3, h4] at hr
        simp only [cond_false, cond_true, List.append_nil] at hr
        exact hr
      | true =>
        rw [h3, h4] at hr
        cases h5 : decide (ms[i].When = ⟨#[]⟩) <;> cases h6 : decide (ms[i].From = ⟨#[]⟩) <;> rw [h5, h6] at hr <;> simp only [cond_false, cond_true, List.append_nil, List.nil_append, ← List.append_assoc] at hr <;> exact hr) fuel 0 (Nat.zero_le _) (by have := fuel_big; omega)
  unfold G89 G89n LP89_0
  simpa [depsOf] using this
/-! ### Lists -/
theorem nodup_len : ∀ {xs ys : List ByteArray}, xs.Nodup → (∀ x ∈ xs, x ∈ ys) → xs.length ≤ ys.length
  | [], ys, _, _ => Nat.zero_le _
  | x :: r, ys, hn, hs => by
    rw [List.nodup_cons] at hn
    obtain ⟨p, q, rfl⟩ := List.append_of_mem (hs x (List.mem_cons_self ..))
    have h := nodup_len (ys := p ++ q) hn.2 fun z hz => by
      have hm := hs z (List.mem_cons_of_mem _ hz)
      rw [List.mem_append, List.mem_cons] at hm
      rw [List.mem_append]
      rcases hm with hm | hm | hm
      · exact Or.inl hm
      · exact absurd (hm ▸ hz) hn.1
      · exact Or.inr hm
    rw [List.length_append] at h
    rw [List.length_append, List.length_cons, List.length_cons]; omega
theorem count_lt {p q : ByteArray → Bool} {y : ByteArray} : ∀ {xs : List ByteArray}, (∀ x ∈ xs, p x = true → q x = true) → y ∈ xs → p y = false → q y = true → xs.countP p < xs.countP q
  | [], _, h, _, _ => by cases h
  | x :: r, hi, hm, h1, h2 => by
    have hr : ∀ z ∈ r, p z = true → q z = true := fun z hz => hi z (List.mem_cons_of_mem _ hz)
    have hle : r.countP p ≤ r.countP q := List.countP_mono_left hr
    rw [List.countP_cons, List.countP_cons]
    rcases List.mem_cons.1 hm with e | hm
    · subst e
      rw [h1, h2]; simp; omega
    · have := count_lt hr hm h1 h2
      have hx := hi x (List.mem_cons_self ..)
      cases hp : p x with
      | true => rw [hx hp]; simp; omega
      | false => cases q x <;> simp <;> omega
/-- Each stands behind what it needs. -/
def Topo (dp : ByteArray → List ByteArray) (T : List ByteArray) : Prop := ∀ p x s, T = p ++ x :: s → ∀ d ∈ dp x, d ∈ p
theorem topo_nil (dp : ByteArray → List ByteArray) : Topo dp [] := fun p x s e => by cases p <;> cases e
theorem topo_snoc {dp : ByteArray → List ByteArray} {T : List ByteArray} {y : ByteArray} (h : Topo dp T) (hd : ∀ d ∈ dp y, d ∈ T) : Topo dp (T ++ [y]) := by
  intro p x s e d hdx
  rcases List.eq_nil_or_concat s with rfl | ⟨s', z, rfl⟩
  · have := List.append_inj' e rfl
    obtain ⟨e1, e2⟩ := this
    cases e2
    subst e1
    exact hd d hdx
  · have e' : T ++ [y] = (p ++ x :: s') ++ [z] := by simpa using e
    have := List.append_inj' e' rfl
    exact h p x s' this.1 d hdx
def rk : List ByteArray → ByteArray → Nat
  | [], _ => 0
  | x :: r, z => if x = z then 0 else rk r z + 1
theorem rk_at {x : ByteArray} {s : List ByteArray} : ∀ {p : List ByteArray}, x ∉ p → rk (p ++ x :: s) x = p.length
  | [], _ => by simp [rk]
  | a :: p, h => by
    have h1 : ¬ a = x := fun e => h (e ▸ List.mem_cons_self ..)
    have := rk_at (s := s) (p := p) fun hm => h (List.mem_cons_of_mem _ hm)
    simp [rk, h1, this]
theorem rk_in {d : ByteArray} {s : List ByteArray} : ∀ {p : List ByteArray}, d ∈ p → rk (p ++ s) d < p.length
  | a :: p, h => by
    by_cases e : a = d
    · simp [rk, e]
    · rcases List.mem_cons.1 h with e' | h
      · exact absurd e'.symm e
      · have := rk_in (s := s) h
        simp only [List.cons_append, rk, if_neg e, List.length_cons]
        omega
/-- A row that is told whole gives each name a rank. -/
theorem topo_rank {dp : ByteArray → List ByteArray} {T : List ByteArray} (hn : T.Nodup) (ht : Topo dp T) {x d : ByteArray} (hx : x ∈ T) (hd : d ∈ dp x) : rk T d < rk T x := by
  obtain ⟨p, s, rfl⟩ := List.append_of_mem hx
  have hxp : x ∉ p := by
    rw [List.nodup_append] at hn
    intro hm
    exact hn.2.2 x hm x (List.mem_cons_self ..) rfl
  rw [rk_at hxp]
  exact rk_in (ht p x s rfl d hd)
/-! ### The program's search -/
abbrev Mp := List (Nat × ByteArray × Int)
noncomputable def sta (m : Mp) (z : ByteArray) : Int := mval KK .e9 .e3 z m
theorem sta_put (m : Mp) (x : ByteArray) (y : Int) (c : Nat) (z : ByteArray) : sta (mput KK .e9 .e3 x y c m) z = if z = x then y else sta m z := mval_put z x y c m
noncomputable def freeN (N : List ByteArray) (m : Mp) : Nat := N.countP fun z => decide (sta m z = 0)
structure Inv (N : List ByteArray) (dp : ByteArray → List ByteArray) (row : List ByteArray) (m : Mp) : Prop where
  three : ∀ z, sta m z = 0 ∨ sta m z = 1 ∨ sta m z = 2
  mem : ∀ z, z ∈ row ↔ sta m z = 2
  nd : row.Nodup
  sub : ∀ z ∈ row, z ∈ N
  topo : Topo dp row
def Rank (N : List ByteArray) (dp : ByteArray → List ByteArray) (ρ : ByteArray → Nat) : Prop := ∀ x ∈ N, ∀ d ∈ dp x, ρ d < ρ x
def Good (N : List ByteArray) (dp : ByteArray → List ByteArray) (y : ByteArray) (m0 : Mp) (r : List ByteArray × Mp × Bool) : Prop :=
  (r.2.2 = true → Inv N dp r.1 r.2.1 ∧ sta r.2.1 y = 2 ∧ (∀ z, sta r.2.1 z = 1 ↔ sta m0 z = 1) ∧ (∀ z, sta m0 z = 2 → sta r.2.1 z = 2)) ∧
  (r.2.2 = false → ∀ ρ, Rank N dp ρ → (∀ x, sta m0 x = 1 → ρ y < ρ x) → False)
theorem free_le {N : List ByteArray} {dp : ByteArray → List ByteArray} {row : List ByteArray} {m m' : Mp} (h : Inv N dp row m) (h1 : ∀ z, sta m z = 1 → sta m' z = 1) (h2 : ∀ z, sta m z = 2 → sta m' z = 2) : freeN N m' ≤ freeN N m := by
  refine List.countP_mono_left fun z hz hp => ?_
  simp only [decide_eq_true_eq] at hp ⊢
  rcases h.three z with e | e | e
  · exact e
  · have := h1 z e; omega
  · have := h2 z e; omega
section
variable {ms : List VGateMend} {K : ByteArray} {fs : List VGateField} {N : List ByteArray}
theorem dfs_loop (hN : N.length ≤ 1048576) (hdep : ∀ x ∈ N, ∀ d ∈ depsOf ms K x, d ∈ N) (d : Nat)
    (ih : ∀ y row m c, y ∈ N → Inv N (depsOf ms K) row m → freeN N m < d → ∃ row' m' c' ok, G109d fuel d y row m c ms K fs = some (row', m', c', ms, K, fs, ok) ∧ Good N (depsOf ms K) y m (row', m', ok))
    (y : ByteArray) (hy : y ∈ N) (m0 : Mp) (h0 : sta m0 y = 0) (hl : (depsOf ms K y).length ≤ 4194304) :
    ∀ n i row m c, i ≤ (depsOf ms K y).length → (depsOf ms K y).length - i < n → Inv N (depsOf ms K) row m → sta m y = 1 → freeN N m < d → (∀ z, sta m z = 1 ↔ (z = y ∨ sta m0 z = 1)) → (∀ j (hj : j < (depsOf ms K y).length), j < i → sta m (depsOf ms K y)[j] = 2) → (∀ z, sta m0 z = 2 → sta m z = 2) →
      ∃ row' m' c' ok, lpN (r109_0 fuel (G109d fuel d)) n (y, depsOf ms K y, ((depsOf ms K y).length : Int), (i : Int), row, m, c, ms, K, fs) = some (row', m', c', ms, K, fs, ok) ∧ Good N (depsOf ms K) y m0 (row', m', ok) := by
  intro n
  induction n with
  | zero => intro i row m c _ h; omega
  | succ n ihn =>
    intro i row m c hi hn hI hy1 hfr h1 hdone h2
    rw [lp_succ]
    rcases Nat.lt_or_ge i (depsOf ms K y).length with h | h
    · have hw := wrap_nat (i := i) (by omega)
      have hlt : (i : Int) < ((depsOf ms K y).length : Int) := by omega
      have hz : (depsOf ms K y)[i] ∈ depsOf ms K y := List.getElem_mem h
      obtain ⟨row', m', c', ok, e, hg⟩ := ih (depsOf ms K y)[i] row m c (hdep y hy _ hz) hI hfr
      simp only [r109_0, hlt, decide_true, cond_true, Int.natCast_nonneg, hw]
      rw [get_cast h]
      simp only [Option.bind_some, e]
      cases ok with
      | false =>
        refine ⟨row', m', c', false, rfl, ?_, fun _ ρ hρ hx => ?_⟩
        · intro hc; cases hc
        · refine hg.2 rfl ρ hρ fun x hx1 => ?_
          have hr := hρ y hy _ hz
          rcases (h1 x).1 hx1 with rfl | hx2
          · exact hr
          · exact Nat.lt_trans hr (hx x hx2)
      | true =>
        obtain ⟨g1, g2, g3, g4⟩ := hg.1 rfl
        simp only [Bool.not_true, cond_false]
        refine ihn (i + 1) row' m' c' (by omega) (by omega) g1 ((g3 y).2 hy1) (Nat.lt_of_le_of_lt (free_le hI (fun z hz => (g3 z).2 hz) g4) hfr) (fun z => (g3 z).trans (h1 z)) (fun j hj hji => ?_) (fun z hz => g4 z (h2 z hz))
        rcases Nat.lt_or_ge j i with h' | h'
        · exact g4 _ (hdone j hj h')
        · obtain rfl : j = i := by omega
          exact g2
    · have e : i = (depsOf ms K y).length := by omega
      subst e
      have hlen : row.length ≤ N.length := nodup_len hI.nd hI.sub
      have m1 : (row.length + 1) * 16 ≤ 140737488355328 := by omega
      simp only [r109_0, Int.lt_irrefl, decide_false, cond_false, List.length_singleton, m1, decide_true, cond_true]
      refine ⟨_, _, _, true, rfl, fun _ => ⟨⟨fun z => ?_, fun z => ?_, ?_, fun z hz => ?_, ?_⟩, ?_, fun z => ?_, fun z hz => ?_⟩, fun hc => by cases hc⟩
      · rw [sta_put]
        by_cases e : z = y
        · simp [e]
        · rw [if_neg e]; exact hI.three z
      · rw [sta_put, List.mem_append, hI.mem]
        by_cases e : z = y
        · subst e; simp
        · rw [if_neg e]; simp [e]
      · rw [List.nodup_append]
        refine ⟨hI.nd, by simp, fun a ha b hb e => ?_⟩
        simp at hb
        subst hb e
        have := (hI.mem a).1 ha
        omega
      · rcases List.mem_append.1 hz with hz | hz
        · exact hI.sub z hz
        · simp at hz; subst hz; exact hy
      · refine topo_snoc hI.topo fun d hd => ?_
        obtain ⟨j, hj, rfl⟩ := List.mem_iff_getElem.1 hd
        exact (hI.mem _).2 (hdone j hj hj)
      · rw [sta_put, if_pos rfl]
      · rw [sta_put]
        by_cases e : z = y
        · subst e; simp [h0]
        · rw [if_neg e, h1]; simp [e]
      · rw [sta_put]
        by_cases e : z = y
        · rw [if_pos e]
        · rw [if_neg e]; exact h2 z hz
theorem dfs (hms : ms.length ≤ 1048576) (hN : N.length ≤ 1048576) (hdep : ∀ x ∈ N, ∀ d ∈ depsOf ms K x, d ∈ N) : ∀ d y row m c, y ∈ N → Inv N (depsOf ms K) row m → freeN N m < d →
    ∃ row' m' c' ok, G109d fuel d y row m c ms K fs = some (row', m', c', ms, K, fs, ok) ∧ Good N (depsOf ms K) y m (row', m', ok) := by
  intro d
  induction d with
  | zero => intro y row m c _ _ h; omega
  | succ d ih =>
    intro y row m c hy hI hfr
    show ∃ row' m' c' ok, B109 fuel (G109d fuel d) y row m c ms K fs = _ ∧ _
    unfold B109
    rw [show mval KK .e9 .e3 y m = sta m y from rfl, g89 hms]
    rcases hI.three y with e | e | e
    · have k1 : (sta m y == 1) = false := by rw [e]; rfl
      have k2 : (sta m y == 2) = false := by rw [e]; rfl
      rw [k1, k2]
      simp only [cond_false, Option.bind_some]
      have hlen := depsOf_len K y ms
      have hst : ∀ z, sta (mput KK .e9 .e3 y 1 c m) z = 1 ↔ (z = y ∨ sta m z = 1) := fun z => by
        rw [sta_put]
        by_cases e' : z = y
        · simp [e']
        · rw [if_neg e']; simp [e']
      have h2 : ∀ z, sta m z = 2 → sta (mput KK .e9 .e3 y 1 c m) z = 2 := fun z hz => by
        rw [sta_put]
        by_cases e' : z = y
        · subst e'; omega
        · rw [if_neg e']; exact hz
      refine dfs_loop (N := N) hN hdep d ih y hy m e (by omega) fuel 0 row _ _ (Nat.zero_le _) (by have := fuel_big; omega) ⟨fun z => ?_, fun z => ?_, hI.nd, hI.sub, hI.topo⟩ ((hst y).2 (Or.inl rfl)) ?_ hst (fun j hj hji => by omega) h2
      · rw [sta_put]
        by_cases e' : z = y
        · simp [e']
        · rw [if_neg e']; exact hI.three z
      · rw [hI.mem, sta_put]
        by_cases e' : z = y
        · subst e'; simp [e]
        · rw [if_neg e']
      · have : freeN N (mput KK .e9 .e3 y 1 c m) < freeN N m := by
          refine count_lt (y := y) (fun z hz hp => ?_) hy ?_ ?_
          · simp only [decide_eq_true_eq] at hp ⊢
            rw [sta_put] at hp
            by_cases e' : z = y
            · rw [if_pos e'] at hp; omega
            · rw [if_neg e'] at hp; exact hp
          · rw [sta_put, if_pos rfl]; rfl
          · rw [e]; rfl
        omega
    · have k1 : (sta m y == 1) = true := by rw [e]; rfl
      rw [k1]
      refine ⟨row, m, c, false, rfl, ?_, ?_⟩
      · intro hc; cases hc
      · intro _ ρ _ hx; exact Nat.lt_irrefl _ (hx y e)
    · have k1 : (sta m y == 1) = false := by rw [e]; rfl
      have k2 : (sta m y == 2) = true := by rw [e]; rfl
      rw [k1, k2]
      refine ⟨row, m, c, true, rfl, ?_, ?_⟩
      · intro _; exact ⟨hI, e, fun z => Iff.rfl, fun z hz => hz⟩
      · intro hc; cases hc
end
end Go.Proofs.Ytkiognopoigbhaa.Ab

/- The plain law: the program's row and the reference's are full together. -/
set_option linter.unusedVariables false
set_option linter.unusedSimpArgs false
namespace Go.Proofs.Ytkiognopoigbhaa.Ab
open Go Go.RowKit

def namesOf (fs : List VGateField) : List ByteArray := fs.map (·.Name)
/-- All fields in an order in which each stands behind what it needs. -/
structure Full (N : List ByteArray) (dp : ByteArray → List ByteArray) (T : List ByteArray) : Prop where
  nd : T.Nodup
  mem : ∀ z, z ∈ T ↔ z ∈ N
  topo : Topo dp T
section
variable {ms : List VGateMend} {K : ByteArray} {fs : List VGateField} {N : List ByteArray}
theorem free_len {m : Mp} : freeN N m ≤ N.length := List.countP_le_length
theorem top_loop (hms : ms.length ≤ 1048576) (hN : N.length ≤ 1048576) (hdep : ∀ x ∈ N, ∀ d ∈ depsOf ms K x, d ∈ N) :
    ∀ n i row m c, i ≤ N.length → N.length - i < n → Inv N (depsOf ms K) row m → (∀ z, sta m z ≠ 1) → (∀ j (hj : j < N.length), j < i → sta m N[j] = 2) →
      ∃ row' ok, lpN (r54_1 fuel) n (N, (N.length : Int), (i : Int), row, m, c, ms, K, fs) = some (row', ok) ∧ (ok = true → Full N (depsOf ms K) row') ∧ (ok = false → ∀ ρ, Rank N (depsOf ms K) ρ → False) := by
  intro n
  induction n with
  | zero => intro i row m c _ h; omega
  | succ n ihn =>
    intro i row m c hi hn hI h1 hdone
    rw [lp_succ]
    rcases Nat.lt_or_ge i N.length with h | h
    · have hw := wrap_nat (i := i) (by omega)
      have hlt : (i : Int) < (N.length : Int) := by omega
      have hz : N[i] ∈ N := List.getElem_mem h
      obtain ⟨row', m', c', ok, e, hg⟩ := dfs (fs := fs) hms hN hdep fuel N[i] row m c hz hI (by have := free_len (N := N) (m := m); have := fuel_big; omega)
      simp only [r54_1, hlt, decide_true, cond_true, Int.natCast_nonneg, hw]
      rw [get_cast h]
      simp only [Option.bind_some, e]
      cases ok with
      | false =>
        refine ⟨[], false, rfl, ?_, fun _ ρ hρ => hg.2 rfl ρ hρ fun x hx => absurd hx (h1 x)⟩
        intro hc; cases hc
      | true =>
        obtain ⟨g1, g2, g3, g4⟩ := hg.1 rfl
        simp only [Bool.not_true, cond_false]
        refine ihn (i + 1) row' m' c' (by omega) (by omega) g1 (fun z hz => h1 z ((g3 z).1 hz)) (fun j hj hji => ?_)
        rcases Nat.lt_or_ge j i with h' | h'
        · exact g4 _ (hdone j hj h')
        · obtain rfl : j = i := by omega
          exact g2
    · have e : i = N.length := by omega
      subst e
      simp only [r54_1, Int.lt_irrefl, decide_false, cond_false]
      refine ⟨row, true, rfl, fun _ => ⟨hI.nd, fun z => ⟨hI.sub z, fun hz => ?_⟩, hI.topo⟩, ?_⟩
      · obtain ⟨j, hj, rfl⟩ := List.mem_iff_getElem.1 hz
        exact (hI.mem _).2 (hdone j hj hj)
      · intro hc; cases hc
theorem g54 (hms : ms.length ≤ 1048576) (hfs : fs.length ≤ 1048576) (hdep : ∀ x ∈ namesOf fs, ∀ d ∈ depsOf ms K x, d ∈ namesOf fs) :
    ∃ row ok, G54 ⟨K, fs⟩ ms = some (row, ok) ∧ (ok = true → Full (namesOf fs) (depsOf ms K) row) ∧ (ok = false → ∀ ρ, Rank (namesOf fs) (depsOf ms K) ρ → False) := by
  have hlen : (namesOf fs).length = fs.length := by simp [namesOf]
  obtain ⟨row, ok, e, h⟩ := top_loop (fs := fs) hms (by omega) hdep fuel 0 [] [] 0 (Nat.zero_le _) (by have := fuel_big; omega)
    ⟨fun z => Or.inl rfl, fun z => ⟨fun h => (by cases h), fun h => (by cases h)⟩, List.nodup_nil, fun z h => (by cases h), topo_nil _⟩ (fun z h => by cases h) (fun j hj h => by omega)
  refine ⟨row, ok, ?_, h⟩
  have key := lp_idx (rnd := r54_0 fuel) (st := fun i => (namesOf (fs.take i), fs, (fs.length : Int), (i : Int), K, fs, ms)) (val := fun i => some (row, ok)) fs.length (fun rec => by
    simp only [r54_0, Int.lt_irrefl, decide_false, cond_false, List.take_length]
    exact e) (fun rec i hi hr => by
    have hw := wrap_nat (i := i) (by omega)
    have h1 : (i : Int) < (fs.length : Int) := by omega
    have hl : (namesOf (fs.take i)).length = i := by simp [namesOf]; omega
    have h3 : (i + 1) * 16 ≤ 140737488355328 := by omega
    simp only [r54_0, h1, decide_true, cond_true, Int.natCast_nonneg, hw]
    rw [get_cast hi]
    simp only [Option.bind_some, hl, List.length_singleton, h3, decide_true, cond_true]
    rw [show namesOf (fs.take i) ++ [fs[i].Name] = namesOf (fs.take (i + 1)) from by unfold namesOf; rw [← List.take_append_getElem hi, List.map_append]; rfl]
    exact hr) fuel 0 (Nat.zero_le _) (by have := fuel_big; omega)
  unfold G54 G54n LP54_0
  simpa [namesOf] using key
/-! ### The reference takes what is ready -/
def readyB (ms : List VGateMend) (K y : ByteArray) (R : List ByteArray) : Bool := (depsOf ms K y).all (hasB R)
theorem ready_cons {m : VGateMend} {r : List VGateMend} {K y : ByteArray} {R : List ByteArray} : readyB (m :: r) K y R = ((depOne K y m).all (hasB R) && readyB r K y R) := by
  unfold readyB depsOf
  rw [List.flatMap_cons, List.all_append]
theorem g103 (hms : ms.length ≤ 1048576) {y : ByteArray} {R : List ByteArray} (hR : R.length ≤ 1048576) : G103 ms K y R = some (readyB ms K y R) := by
  have := lp_idx (rnd := r103_0 fuel) (st := fun i => (ms, K, y, R, (i : Int))) (val := fun i => some (readyB (ms.drop i) K y R)) ms.length (fun rec => by
    simp [r103_0, readyB, depsOf]) (fun rec i hi hr => by
    have hw := wrap_nat (i := i) (by omega)
    have h1 : (i : Int) < (ms.length : Int) := by omega
    simp only [r103_0, h1, decide_true, cond_true, Int.natCast_nonneg, hw]
    rw [get_cast hi, List.drop_eq_getElem_cons hi, ready_cons]
    simp only [Option.bind_some, g102 hR]
    unfold depOne ndep
    rw [hr]
    cases decide (ms[i].Kind = K) with
    | false => simp
    | true =>
      cases decide (ms[i].Field = y) with
      | false => simp
      | true =>
        cases decide (ms[i].When = ⟨#[]⟩) <;> cases decide (ms[i].From = ⟨#[]⟩) <;> simp only [cond_true, cond_false, Bool.not_true, Bool.not_false, List.append_nil, List.nil_append, List.all_cons, List.all_nil, Bool.and_true, Bool.true_and, List.cons_append]
        · cases hasB R ms[i].When <;> cases hasB R ms[i].From <;> simp
        · cases hasB R ms[i].When <;> simp
        · cases hasB R ms[i].From <;> simp) fuel 0 (Nat.zero_le _) (by have := fuel_big; omega)
  unfold G103 G103n LP103_0
  simpa using this
def nextP (ms : List VGateMend) (K : ByteArray) (R : List ByteArray) (f : VGateField) : Bool := !hasB R f.Name && readyB ms K f.Name R
def gr (ms : List VGateMend) (K : ByteArray) (fs : List VGateField) : Nat → List ByteArray → List ByteArray
  | 0, R => R
  | k + 1, R => match fs.find? (nextP ms K R) with
    | some f => gr ms K fs k (R ++ [f.Name])
    | none => gr ms K fs k R
theorem lp73_1 (hms : ms.length ≤ 1048576) (hfs : fs.length ≤ 1048576) {R : List ByteArray} (hR : R.length ≤ 1048576) {rec0 : A73_0 → Option (List (C .e9))} {i : Nat} (hi : i < 4194304) :
    LP73_1 fuel rec0 (ms, R, (i : Int), 0, K, fs) = match fs.find? (nextP ms K R) with
      | some f => rec0 (ms, R ++ [f.Name], ((i + 1 : Nat) : Int), K, fs)
      | none => rec0 (ms, R, ((i + 1 : Nat) : Int), K, fs) := by
  have hw0 := wrap_nat (i := i) (by omega)
  have := lp_idx (rnd := r73_1 fuel rec0) (st := fun j => (ms, R, (i : Int), (j : Int), K, fs)) (val := fun j => match (fs.drop j).find? (nextP ms K R) with
      | some f => rec0 (ms, R ++ [f.Name], ((i + 1 : Nat) : Int), K, fs)
      | none => rec0 (ms, R, ((i + 1 : Nat) : Int), K, fs)) fs.length (fun rec => by
    simp [r73_1, hw0]) (fun rec j hj hr => by
    have hw := wrap_nat (i := j) (by omega)
    have h1 : (j : Int) < (fs.length : Int) := by omega
    have h3 : (R.length + 1) * 16 ≤ 140737488355328 := by omega
    simp only [r73_1, h1, decide_true, cond_true, Int.natCast_nonneg, hw, hw0]
    rw [get_cast hj, List.drop_eq_getElem_cons hj, List.find?_cons]
    simp only [Option.bind_some, g102 hR, g103 hms hR, List.length_singleton, h3, decide_true, cond_true]
    rw [hr]
    unfold nextP
    cases hasB R fs[j].Name <;> cases readyB ms K fs[j].Name R <;> rfl) fuel 0 (Nat.zero_le _) (by have := fuel_big; omega)
  unfold LP73_1
  simpa using this
theorem lp73_0 (hms : ms.length ≤ 1048576) (hfs : fs.length ≤ 1048576) : ∀ k i R n, i + k = fs.length → R.length ≤ i → k < n → lpN (r73_0 fuel) n (ms, R, (i : Int), K, fs) = some (gr ms K fs k R) := by
  intro k
  induction k with
  | zero =>
    intro i R n hi hR hn
    rw [lp_open (by omega)]
    have : ¬ (i : Int) < (fs.length : Int) := by omega
    simp [r73_0, this, gr]
  | succ k ih =>
    intro i R n hi hR hn
    rw [lp_open (by omega)]
    have h1 : (i : Int) < (fs.length : Int) := by omega
    simp only [r73_0, h1, decide_true, cond_true]
    rw [lp73_1 hms hfs (by omega) (by omega)]
    simp only [gr]
    cases fs.find? (nextP ms K R) with
    | none => exact ih (i + 1) R (n - 1) (by omega) (by omega) (by omega)
    | some f => exact ih (i + 1) _ (n - 1) (by omega) (by rw [List.length_append, List.length_singleton]; omega) (by omega)
theorem g73 (hms : ms.length ≤ 1048576) (hfs : fs.length ≤ 1048576) : G73 ⟨K, fs⟩ ms = some (gr ms K fs fs.length []) := by
  unfold G73 G73n
  exact lp73_0 hms hfs fs.length 0 [] fuel (by omega) (Nat.le_refl _) (by have := fuel_big; omega)
structure GInv (N : List ByteArray) (dp : ByteArray → List ByteArray) (R : List ByteArray) : Prop where
  nd : R.Nodup
  sub : ∀ z ∈ R, z ∈ N
  topo : Topo dp R
theorem ready_iff {y : ByteArray} {R : List ByteArray} : readyB ms K y R = true ↔ ∀ d ∈ depsOf ms K y, d ∈ R := by
  unfold readyB
  rw [List.all_eq_true]
  exact ⟨fun h d hd => has_iff.1 (h d hd), fun h d hd => has_iff.2 (h d hd)⟩
theorem next_ginv {R : List ByteArray} {f : VGateField} (h : GInv (namesOf fs) (depsOf ms K) R) (hf : fs.find? (nextP ms K R) = some f) : GInv (namesOf fs) (depsOf ms K) (R ++ [f.Name]) := by
  have hp := List.find?_some hf
  have hm := List.mem_of_find?_eq_some hf
  unfold nextP at hp
  rw [Bool.and_eq_true, Bool.not_eq_true', Bool.eq_false_iff, ne_eq, has_iff, ready_iff] at hp
  refine ⟨?_, fun z hz => ?_, topo_snoc h.topo hp.2⟩
  · rw [List.nodup_append]
    refine ⟨h.nd, by simp, fun a ha b hb e => ?_⟩
    simp at hb
    subst hb e
    exact hp.1 ha
  · rcases List.mem_append.1 hz with hz | hz
    · exact h.sub z hz
    · simp at hz; subst hz; exact List.mem_map.2 ⟨f, hm, rfl⟩
theorem gr_ginv : ∀ k R, GInv (namesOf fs) (depsOf ms K) R → GInv (namesOf fs) (depsOf ms K) (gr ms K fs k R)
  | 0, R, h => h
  | k + 1, R, h => by
    simp only [gr]
    cases hf : fs.find? (nextP ms K R) with
    | none => exact gr_ginv k R h
    | some f => exact gr_ginv k _ (next_ginv h hf)
/-- The first of a list that is not in R. -/
theorem first_out {R : List ByteArray} : ∀ {T : List ByteArray}, (∃ z ∈ T, z ∉ R) → ∃ p x s, T = p ++ x :: s ∧ x ∉ R ∧ ∀ z ∈ p, z ∈ R
  | [], ⟨z, h, _⟩ => by cases h
  | t :: T, ⟨z, h, hz⟩ => by
    by_cases ht : t ∈ R
    · rcases List.mem_cons.1 h with e | h
      · exact absurd (e ▸ ht) hz
      · obtain ⟨p, x, s, e, hx, hp⟩ := first_out (R := R) (T := T) ⟨z, h, hz⟩
        refine ⟨t :: p, x, s, by rw [e]; rfl, hx, fun w hw => ?_⟩
        rcases List.mem_cons.1 hw with rfl | hw
        · exact ht
        · exact hp w hw
    · exact ⟨[], t, T, rfl, ht, fun w hw => by cases hw⟩
theorem next_some {T R : List ByteArray} (hT : Full (namesOf fs) (depsOf ms K) T) (hnd : (namesOf fs).Nodup) (h : GInv (namesOf fs) (depsOf ms K) R) (hl : R.length < (namesOf fs).length) : ∃ f, fs.find? (nextP ms K R) = some f := by
  have hout : ∃ z ∈ T, z ∉ R := Classical.byContradiction fun hc => by
    have : (namesOf fs).length ≤ R.length := nodup_len hnd fun z hz => Classical.byContradiction fun hz2 => hc ⟨z, (hT.mem z).2 hz, hz2⟩
    omega
  obtain ⟨p, x, s, e, hx, hp⟩ := first_out hout
  have hxN : x ∈ namesOf fs := (hT.mem x).1 (by rw [e]; simp)
  obtain ⟨f, hf, rfl⟩ := List.mem_map.1 hxN
  cases hfd : fs.find? (nextP ms K R) with
  | some g => exact ⟨g, rfl⟩
  | none =>
    have := List.find?_eq_none.1 hfd f hf
    refine absurd ?_ this
    unfold nextP
    rw [Bool.and_eq_true, Bool.not_eq_true', Bool.eq_false_iff, ne_eq, has_iff, ready_iff]
    exact ⟨hx, fun d hd => hp d (hT.topo p _ s e d hd)⟩
theorem gr_full {T : List ByteArray} (hT : Full (namesOf fs) (depsOf ms K) T) (hnd : (namesOf fs).Nodup) : ∀ k R, GInv (namesOf fs) (depsOf ms K) R → R.length + k = (namesOf fs).length → (gr ms K fs k R).length = (namesOf fs).length
  | 0, R, h, hl => by simpa [gr] using hl
  | k + 1, R, h, hl => by
    obtain ⟨f, hf⟩ := next_some hT hnd h (by omega)
    simp only [gr, hf]
    exact gr_full hT hnd k _ (next_ginv h hf) (by rw [List.length_append, List.length_singleton]; omega)
theorem ginv_full {R : List ByteArray} (h : GInv (namesOf fs) (depsOf ms K) R) (hl : R.length = (namesOf fs).length) : Full (namesOf fs) (depsOf ms K) R := by
  refine ⟨h.nd, fun z => ⟨h.sub z, fun hz => Classical.byContradiction fun hn => ?_⟩, h.topo⟩
  have : (z :: R).length ≤ (namesOf fs).length := nodup_len (List.nodup_cons.2 ⟨hn, h.nd⟩) fun w hw => by
    rcases List.mem_cons.1 hw with rfl | hw
    · exact hz
    · exact h.sub w hw
  rw [List.length_cons] at this
  omega
/-- The program's search succeeds if and only if the reference's row takes all fields. -/
theorem rows_alike (hms : ms.length ≤ 1048576) (hfs : fs.length ≤ 1048576) (hnd : (namesOf fs).Nodup) (hdep : ∀ x ∈ namesOf fs, ∀ d ∈ depsOf ms K x, d ∈ namesOf fs) :
    ∃ row, G54 ⟨K, fs⟩ ms = some (row, decide ((gr ms K fs fs.length []).length = fs.length)) ∧ ((gr ms K fs fs.length []).length = fs.length → Full (namesOf fs) (depsOf ms K) row) := by
  obtain ⟨row, ok, e, h1, h2⟩ := g54 hms hfs hdep
  have hlen : (namesOf fs).length = fs.length := by simp [namesOf]
  have h0 : GInv (namesOf fs) (depsOf ms K) [] := ⟨List.nodup_nil, fun z h => (by cases h), topo_nil _⟩
  have hok : ok = decide ((gr ms K fs fs.length []).length = fs.length) := by
    cases ok with
    | true =>
      have := gr_full (h1 rfl) hnd fs.length [] h0 (by simp [hlen])
      rw [hlen] at this
      simp [this]
    | false =>
      have hn : ¬ (gr ms K fs fs.length []).length = fs.length := fun hl => by
        have hF := ginv_full (gr_ginv fs.length [] h0) (by rw [hlen]; exact hl)
        exact h2 rfl (rk (gr ms K fs fs.length [])) fun x hx d hd => topo_rank hF.nd hF.topo ((hF.mem x).2 hx) hd
      simp [hn]
  rw [← hok]
  refine ⟨row, e, fun hl => h1 ?_⟩
  rw [hok]
  simp [hl]
end
end Go.Proofs.Ytkiognopoigbhaa.Ab

/- The plain law: mends, all together. -/
set_option linter.unusedVariables false
set_option linter.unusedSimpArgs false
namespace Go.Proofs.Ytkiognopoigbhaa.Ab
open Go Go.RowKit

/-! ### Texts in order differ -/
theorem bl_irrefl : ∀ x : List UInt8, Go.Op.bytesLess x x = false
  | [] => rfl
  | a :: x => by
    have h : ¬ a < a := UInt8.lt_irrefl a
    simp [Go.Op.bytesLess, bl_irrefl x, h]
theorem bl_trans : ∀ {x y z : List UInt8}, Go.Op.bytesLess x y = true → Go.Op.bytesLess y z = true → Go.Op.bytesLess x z = true
  | _, [], _, h, _ => by simp [Go.Op.bytesLess] at h
  | _, _ :: _, [], _, h => by simp [Go.Op.bytesLess] at h
  | [], _ :: _, _ :: _, _, _ => by simp [Go.Op.bytesLess]
  | a :: x, b :: y, c :: z, h1, h2 => by
    simp only [Go.Op.bytesLess, Bool.or_eq_true, Bool.and_eq_true, decide_eq_true_eq, beq_iff_eq] at h1 h2 ⊢
    rcases h1 with h1 | ⟨rfl, h1⟩
    · rcases h2 with h2 | ⟨rfl, h2⟩
      · exact Or.inl (UInt8.lt_trans h1 h2)
      · exact Or.inl h1
    · rcases h2 with h2 | ⟨rfl, h2⟩
      · exact Or.inl h2
      · exact Or.inr ⟨rfl, bl_trans h1 h2⟩
theorem slt_irrefl (a : ByteArray) : slt a a = false := bl_irrefl _
theorem slt_trans {a b c : ByteArray} (h1 : slt a b = true) (h2 : slt b c = true) : slt a c = true := bl_trans h1 h2
/-- Names of which each stands behind the one before it. -/
theorem asc_lt {xs : List ByteArray} (h : ∀ j, 0 < j → j < xs.length → slt (xs.getD (j - 1) ⟨#[]⟩) (xs.getD j ⟨#[]⟩) = true) : ∀ j i, i < j → j < xs.length → slt (xs.getD i ⟨#[]⟩) (xs.getD j ⟨#[]⟩) = true := by
  intro j
  induction j with
  | zero => intro i hi; omega
  | succ j ih =>
    intro i hi hj
    have h1 := h (j + 1) (by omega) hj
    rcases Nat.lt_or_ge i j with h2 | h2
    · exact slt_trans (ih i h2 (by omega)) h1
    · obtain rfl : i = j := by omega
      exact h1
theorem asc_inj {xs : List ByteArray} (h : ∀ j, 0 < j → j < xs.length → slt (xs.getD (j - 1) ⟨#[]⟩) (xs.getD j ⟨#[]⟩) = true) {i j : Nat} (hi : i < xs.length) (hj : j < xs.length) (e : xs.getD i ⟨#[]⟩ = xs.getD j ⟨#[]⟩) : i = j := by
  rcases Nat.lt_trichotomy i j with h1 | h1 | h1
  · have := asc_lt h j i h1 hj
    rw [e, slt_irrefl] at this; cases this
  · exact h1
  · have := asc_lt h i j h1 hi
    rw [e, slt_irrefl] at this; cases this
theorem ascAt_lt {xs : List ByteArray} {j : Nat} (h0 : 0 < j) (h : ascAt xs j = true) : slt (xs.getD (j - 1) ⟨#[]⟩) (xs.getD j ⟨#[]⟩) = true := by
  unfold ascAt at h
  rw [Bool.and_eq_true, Bool.or_eq_true] at h
  rcases h.2 with e | e
  · exact absurd (of_decide_eq_true e) (by omega)
  · exact e
/-! ### Shapes in order -/
structure ShapesOk (xs : List VGateShape) : Prop where
  asc : ascB (kindsOf xs) = true
  fl : ∀ x ∈ xs, fldsB (kindsOf xs) x.Fields = true
theorem shapes_ok {xs : List VGateShape} (h : shapesB xs = true) : ShapesOk xs := by
  unfold shapesB at h
  rw [Bool.and_eq_true, asc_shapes, Bool.and_eq_true, List.all_eq_true] at h
  refine ⟨h.2.1, fun x hx => ?_⟩
  have := h.2.2 x hx
  unfold shB at this
  rw [Bool.and_eq_true] at this
  exact this.2
theorem shape_at {xs : List VGateShape} (h : ShapesOk xs) {x : VGateShape} (hx : x ∈ xs) : shapeAt xs x.Kind = some x := by
  obtain ⟨i, hi, rfl⟩ := List.mem_iff_getElem.1 hx
  have hlen : (kindsOf xs).length = xs.length := by simp [kindsOf]
  have ha : ∀ j, 0 < j → j < (kindsOf xs).length → slt ((kindsOf xs).getD (j - 1) ⟨#[]⟩) ((kindsOf xs).getD j ⟨#[]⟩) = true := fun j h0 hj => by
    have := h.asc
    unfold ascB at this
    exact ascAt_lt h0 (allN_iff.1 this j hj)
  unfold shapeAt
  rw [List.find?_eq_some_iff_getElem]
  refine ⟨by simp, i, hi, rfl, fun j hj => ?_⟩
  simp only [Bool.not_eq_true', decide_eq_false_iff_not]
  intro e
  have := asc_inj ha (i := j) (j := i) (by omega) (by omega) (by rw [kinds_at (show j < xs.length by omega), kinds_at hi]; exact e)
  omega
theorem names_nodup {ks : List ByteArray} {fs : List VGateField} (h : fldsB ks fs = true) : (namesOf fs).Nodup := by
  unfold fldsB at h
  rw [allN_iff] at h
  have hlen : (namesOf fs).length = fs.length := by simp [namesOf]
  unfold List.Nodup
  rw [List.pairwise_iff_getElem]
  intro i j hi hj hij e
  have := h j (by omega)
  rw [Bool.and_eq_true, Bool.not_eq_true', Bool.eq_false_iff, ne_eq, dup_iff (show j < fs.length by omega)] at this
  exact this.2 ⟨i, hij, by simpa [namesOf] using e⟩
theorem pl_mem {fs : List VGateField} {a : ByteArray} (h : plB fs a = true) : a ∈ namesOf fs := by
  unfold plB fieldOf at h
  cases hf : fs.find? (fun x => decide (x.Name = a)) with
  | none => rw [hf] at h; cases h
  | some x =>
    have h1 := List.find?_some hf
    have h2 := List.mem_of_find?_eq_some hf
    simp only [decide_eq_true_eq] at h1
    exact List.mem_map.2 ⟨x, h2, h1⟩
theorem deps_in {xs : List VGateShape} {ms : List VGateMend} (h : ShapesOk xs) (hm : ms.all (mdB xs) = true) {x : VGateShape} (hx : x ∈ xs) : ∀ y ∈ namesOf x.Fields, ∀ d ∈ depsOf ms x.Kind y, d ∈ namesOf x.Fields := by
  intro y hy d hd
  unfold depsOf at hd
  obtain ⟨m, hmm, hd⟩ := List.mem_flatMap.1 hd
  have hmd := List.all_eq_true.1 hm m hmm
  unfold depOne at hd
  cases hk : decide (m.Kind = x.Kind) with
  | false => rw [hk] at hd; cases hd
  | true =>
    cases hf : decide (m.Field = y) with
    | false => rw [hk, hf] at hd; cases hd
    | true =>
      rw [hk, hf] at hd
      simp only [cond_true] at hd
      unfold mdB at hmd
      rw [of_decide_eq_true hk, shape_at h hx] at hmd
      simp only at hmd
      unfold mendB at hmd
      simp only [Bool.and_eq_true, Bool.or_eq_true] at hmd
      unfold ndep at hd
      rcases List.mem_append.1 hd with hd | hd
      · cases hw : decide (m.When = ⟨#[]⟩) with
        | true => rw [hw] at hd; cases hd
        | false =>
          rw [hw] at hd
          simp at hd
          subst hd
          rcases hmd.2.1 with h' | h'
          · rw [hw] at h'; cases h'
          · exact pl_mem h'
      · cases hw : decide (m.From = ⟨#[]⟩) with
        | true => rw [hw] at hd; cases hd
        | false =>
          rw [hw] at hd
          simp at hd
          subst hd
          rcases hmd.2.2.1 with h' | h'
          · rw [hw] at h'; cases h'
          · exact pl_mem h'
def rwB (ms : List VGateMend) (x : VGateShape) : Bool := decide ((gr ms x.Kind x.Fields x.Fields.length []).length = x.Fields.length)
theorem ne_cast (a b : Nat) : ((a : Int) != (b : Int)) = !decide (a = b) := by
  by_cases h : a = b
  · subst h; simp
  · have : ¬ (a : Int) = (b : Int) := by omega
    simp [h, this]
theorem lp39_1 {xs : List VGateShape} {ms : List VGateMend} (hx : xs.length ≤ 1048576) (hs : ∀ x ∈ xs, SSm x) (hl : ms.length ≤ 1048576) : LP39_1 fuel (xs, ms, 0) = some (xs.all (rwB ms)) := by
  refine all_lp (rnd := r39_1 fuel) (st := fun i => (xs, ms, (i : Int))) hx (fun rec => by simp [r39_1]) (fun rec i hi => ?_)
  have hw := wrap_nat (i := i) (by omega)
  have h1 : (i : Int) < (xs.length : Int) := by omega
  have hg : G73 xs[i] ms = some (gr ms xs[i].Kind xs[i].Fields xs[i].Fields.length []) := g73 hl (hs _ (List.getElem_mem hi)).l
  simp only [r39_1]
  rw [get_cast hi, hw]
  simp only [h1, decide_true, cond_true, Int.natCast_nonneg, Option.bind_some, hg, ne_cast]
  rw [show decide ((gr ms xs[i].Kind xs[i].Fields xs[i].Fields.length []).length = xs[i].Fields.length) = rwB ms xs[i] from rfl]
  cases rwB ms xs[i] <;> rfl
theorem lp31_1 {xs : List VGateShape} {ms : List VGateMend} (hx : xs.length ≤ 1048576) (hs : ∀ x ∈ xs, SSm x) (hl : ms.length ≤ 1048576) (h : ShapesOk xs) (hm : ms.all (mdB xs) = true) : LP31_1 fuel (ms, xs, (xs.length : Int), 0) = some (xs.all (rwB ms)) := by
  refine all_lp (rnd := r31_1 fuel) (st := fun i => (ms, xs, (xs.length : Int), (i : Int))) hx (fun rec => by simp [r31_1]) (fun rec i hi => ?_)
  have hw := wrap_nat (i := i) (by omega)
  have h1 : (i : Int) < (xs.length : Int) := by omega
  have hi' : xs[i] ∈ xs := List.getElem_mem hi
  obtain ⟨row, e, _⟩ := rows_alike (K := xs[i].Kind) hl (hs _ hi').l (names_nodup (h.fl _ hi')) (deps_in h hm hi')
  have hg : G54 xs[i] ms = some (row, rwB ms xs[i]) := e
  simp only [r31_1]
  rw [get_cast hi, hw]
  simp only [h1, decide_true, cond_true, Int.natCast_nonneg, Option.bind_some, hg]
  cases rwB ms xs[i] <;> rfl
theorem len12 {n : Nat} : decide ((n : Int) > 12) = !decide (n ≤ 12) := by
  by_cases h : n ≤ 12
  · have : ¬ (n : Int) > 12 := by omega
    simp [h, this]
  · have : (n : Int) > 12 := by omega
    rw [decide_eq_true this, decide_eq_false h]; rfl
def mendsB (xs : List VGateShape) (ms : List VGateMend) : Bool := shapesB xs && (decide (ms.length ≤ 12) && (ms.all (mdB xs) && xs.all (rwB ms)))
structure LSm (xs : List VGateShape) (ms : List VGateMend) : Prop where
  x : xs.length ≤ 1048576
  s : ∀ x ∈ xs, SSm x
  l : ms.length ≤ 1048576
  m : ∀ m ∈ ms, m.Put.size ≤ 1048576
theorem g39 {xs : List VGateShape} {ms : List VGateMend} (h : LSm xs ms) : G39 xs ms = some (mendsB xs ms) := by
  unfold G39 G39n mendsB
  rw [g71 h.x h.s, len12, lp39_0 h.x h.s h.l h.m, lp39_1 h.x h.s h.l]
  cases shapesB xs <;> cases decide (ms.length ≤ 12) <;> cases ms.all (mdB xs) <;> rfl
theorem g31 {xs : List VGateShape} {ms : List VGateMend} (h : LSm xs ms) : G31 xs ms = some (mendsB xs ms) := by
  unfold G31 G31n mendsB
  rw [g67 h.x h.s, len12, lp31_0 h.x h.s h.l h.m]
  cases hsh : shapesB xs with
  | false => rfl
  | true =>
    cases decide (ms.length ≤ 12) with
    | false => rfl
    | true =>
      cases hm : ms.all (mdB xs) with
      | false => rfl
      | true =>
        rw [lp31_1 h.x h.s h.l (shapes_ok hsh) hm]
        rfl
end Go.Proofs.Ytkiognopoigbhaa.Ab

/- The plain law: an object mended; in whatever order, if each field stands behind what it needs. -/
set_option linter.unusedVariables false
set_option linter.unusedSimpArgs false
namespace Go.Proofs.Ytkiognopoigbhaa.Ab
open Go Go.RowKit

/-! ### Places of names -/
def ixOf (N : List ByteArray) (x : ByteArray) : Nat := rk N x
theorem rk_lt : ∀ {N : List ByteArray} {x : ByteArray}, x ∈ N → rk N x < N.length
  | a :: r, x, h => by
    by_cases e : a = x
    · simp [rk, e]
    · rcases List.mem_cons.1 h with e' | h
      · exact absurd e'.symm e
      · have := rk_lt h
        simp only [rk, if_neg e, List.length_cons]; omega
theorem rk_inj : ∀ {N : List ByteArray} {x y : ByteArray}, x ∈ N → y ∈ N → rk N x = rk N y → x = y
  | a :: r, x, y, hx, hy, h => by
    by_cases ex : a = x
    · by_cases ey : a = y
      · exact ex.symm.trans ey
      · simp [rk, ex, if_neg (ex ▸ ey)] at h
    · by_cases ey : a = y
      · simp [rk, ey, if_neg (ey ▸ ex)] at h
      · simp only [rk, if_neg ex, if_neg ey] at h
        rcases List.mem_cons.1 hx with e | hx
        · exact absurd e.symm ex
        rcases List.mem_cons.1 hy with e | hy
        · exact absurd e.symm ey
        exact rk_inj hx hy (by omega)
theorem pos_rk {x : ByteArray} : ∀ (fs : List VGateField) (i : Nat), x ∈ namesOf fs → posL (fun f => decide (f.Name = x)) fs i = ((rk (namesOf fs) x + i : Nat) : Int)
  | f :: r, i, h => by
    unfold namesOf at h ⊢
    simp only [List.map_cons, posL, rk] at h ⊢
    by_cases e : f.Name = x
    · simp [e]
    · rcases List.mem_cons.1 h with e' | h
      · exact absurd e'.symm e
      · have := pos_rk (x := x) r (i + 1) h
        unfold namesOf at this
        rw [decide_eq_false e, cond_false, this, if_neg e]
        congr 1; omega
def vAt (N : List ByteArray) (v : List ByteArray) (x : ByteArray) : ByteArray := v.getD (rk N x) ⟨#[]⟩
theorem vAt_set {N v : List ByteArray} {x y u : ByteArray} (hl : v.length = N.length) (hx : x ∈ N) (hy : y ∈ N) : vAt N (v.set (rk N x) u) y = if y = x then u else vAt N v y := by
  unfold vAt
  have h1 := rk_lt hx
  rw [List.getD_eq_getElem?_getD, List.getD_eq_getElem?_getD]
  by_cases e : y = x
  · subst e
    rw [if_pos rfl, List.getElem?_set_self (by omega)]; rfl
  · rw [if_neg e, List.getElem?_set_ne (fun h => e (rk_inj hy hx h.symm))]
theorem vAt_ext {N v v' : List ByteArray} (hl : v.length = N.length) (hl' : v'.length = N.length) (hN : N.Nodup) (h : ∀ x ∈ N, vAt N v x = vAt N v' x) : v = v' := by
  apply List.ext_getElem (by omega)
  intro i h1 h2
  have hi : i < N.length := by omega
  have hr : rk N N[i] = i := by
    have hsplit : N = N.take i ++ N[i] :: N.drop (i + 1) := by rw [← List.drop_eq_getElem_cons hi, List.take_append_drop]
    have hn : N[i] ∉ N.take i := fun hm => by
      have hN' := hN
      rw [hsplit, List.nodup_append] at hN'
      exact hN'.2.2 _ hm _ (List.mem_cons_self ..) rfl
    have := rk_at (s := N.drop (i + 1)) hn
    rw [← hsplit] at this
    rw [this, List.length_take]; omega
  have := h N[i] (List.getElem_mem hi)
  unfold vAt at this
  rw [hr] at this
  simpa [List.getD, h1, h2] using this
/-! ### What a field becomes -/
def okM (K x : ByteArray) (at' : ByteArray → ByteArray) (m : VGateMend) : Bool := decide (m.Kind = K) && (decide (m.Field = x) && ((decide (m.When = ⟨#[]⟩) || decide (at' m.When = m.Is)) && (decide (m.From = ⟨#[]⟩) || !decide (at' m.From = ⟨#[]⟩))))
def putM (at' : ByteArray → ByteArray) (m : VGateMend) : ByteArray := cond (decide (m.From = ⟨#[]⟩)) m.Put (at' m.From)
def decM (ms : List VGateMend) (K : ByteArray) (at' : ByteArray → ByteArray) (x : ByteArray) : ByteArray := match ms.find? (okM K x at') with
  | some m => putM at' m
  | none => at' x
theorem dep_when {ms : List VGateMend} {K x : ByteArray} {m : VGateMend} (hm : m ∈ ms) (h1 : m.Kind = K) (h2 : m.Field = x) (h3 : m.When ≠ ⟨#[]⟩) : m.When ∈ depsOf ms K x := by
  unfold depsOf
  refine List.mem_flatMap.2 ⟨m, hm, ?_⟩
  simp [depOne, ndep, h1, h2, h3]
theorem dep_from {ms : List VGateMend} {K x : ByteArray} {m : VGateMend} (hm : m ∈ ms) (h1 : m.Kind = K) (h2 : m.Field = x) (h3 : m.From ≠ ⟨#[]⟩) : m.From ∈ depsOf ms K x := by
  unfold depsOf
  refine List.mem_flatMap.2 ⟨m, hm, ?_⟩
  simp [depOne, ndep, h1, h2, h3]
theorem okM_congr {ms : List VGateMend} {K x : ByteArray} {a b : ByteArray → ByteArray} (h : ∀ d ∈ depsOf ms K x, a d = b d) {m : VGateMend} (hm : m ∈ ms) : okM K x a m = okM K x b m := by
  unfold okM
  by_cases h1 : m.Kind = K
  · by_cases h2 : m.Field = x
    · have e1 : (decide (m.When = ⟨#[]⟩) || decide (a m.When = m.Is)) = (decide (m.When = ⟨#[]⟩) || decide (b m.When = m.Is)) := by
        by_cases h3 : m.When = ⟨#[]⟩
        · simp [h3]
        · rw [h _ (dep_when hm h1 h2 h3)]
      have e2 : (decide (m.From = ⟨#[]⟩) || !decide (a m.From = ⟨#[]⟩)) = (decide (m.From = ⟨#[]⟩) || !decide (b m.From = ⟨#[]⟩)) := by
        by_cases h3 : m.From = ⟨#[]⟩
        · simp [h3]
        · rw [h _ (dep_from hm h1 h2 h3)]
      rw [e1, e2]
    · simp [h2]
  · simp [h1]
theorem find_congr {α : Type} {p q : α → Bool} : ∀ {l : List α}, (∀ x ∈ l, p x = q x) → l.find? p = l.find? q
  | [], _ => rfl
  | x :: r, h => by
    rw [List.find?_cons, List.find?_cons, h x (List.mem_cons_self ..), find_congr fun y hy => h y (List.mem_cons_of_mem _ hy)]
theorem decM_congr {ms : List VGateMend} {K x : ByteArray} {a b : ByteArray → ByteArray} (h : ∀ d ∈ depsOf ms K x, a d = b d) (hx : a x = b x) : decM ms K a x = decM ms K b x := by
  unfold decM
  rw [find_congr (fun m hm => okM_congr h hm)]
  cases hf : ms.find? (okM K x b) with
  | none => exact hx
  | some m =>
    have hm := List.mem_of_find?_eq_some hf
    have hp := List.find?_some hf
    unfold okM at hp
    simp only [Bool.and_eq_true, decide_eq_true_eq] at hp
    show putM a m = putM b m
    unfold putM
    by_cases h3 : m.From = ⟨#[]⟩
    · simp [h3]
    · rw [h _ (dep_from hm hp.1 hp.2.1 h3)]
/-! ### In a row -/
def stepV (ms : List VGateMend) (K : ByteArray) (N : List ByteArray) (v : List ByteArray) (x : ByteArray) : List ByteArray := v.set (rk N x) (decM ms K (vAt N v) x)
def runV (ms : List VGateMend) (K : ByteArray) (N : List ByteArray) (v : List ByteArray) (T : List ByteArray) : List ByteArray := T.foldl (stepV ms K N) v
section
variable {ms : List VGateMend} {K : ByteArray} {N : List ByteArray}
theorem runV_len : ∀ (T v : List ByteArray), (runV ms K N v T).length = v.length
  | [], v => rfl
  | x :: r, v => by
    show (runV ms K N (stepV ms K N v x) r).length = _
    rw [runV_len r]
    simp [stepV]
theorem runV_out : ∀ (T : List ByteArray) (v : List ByteArray) (y : ByteArray), v.length = N.length → (∀ z ∈ T, z ∈ N) → y ∈ N → y ∉ T → vAt N (runV ms K N v T) y = vAt N v y
  | [], v, y, _, _, _, _ => rfl
  | x :: r, v, y, hl, hs, hy, hn => by
    show vAt N (runV ms K N (stepV ms K N v x) r) y = _
    rw [runV_out r _ y (by simp [stepV, hl]) (fun z hz => hs z (List.mem_cons_of_mem _ hz)) hy (fun h => hn (List.mem_cons_of_mem _ h))]
    unfold stepV
    rw [vAt_set hl (hs x (List.mem_cons_self ..)) hy, if_neg (fun e => hn (by rw [e]; exact List.mem_cons_self ..))]
theorem runV_app (v p s : List ByteArray) : runV ms K N v (p ++ s) = runV ms K N (runV ms K N v p) s := List.foldl_append ..
/-- What a field is in the end hangs on what it needs, in the end. -/
theorem runV_eq {T v : List ByteArray} (hl : v.length = N.length) (hT : Full N (depsOf ms K) T) (hdep : ∀ x ∈ N, ∀ d ∈ depsOf ms K x, d ∈ N) {x : ByteArray} (hx : x ∈ N) :
    vAt N (runV ms K N v T) x = decM ms K (fun y => if y = x then vAt N v x else vAt N (runV ms K N v T) y) x := by
  obtain ⟨p, s, e⟩ := List.append_of_mem ((hT.mem x).2 hx)
  have hTN : ∀ z ∈ T, z ∈ N := fun z hz => (hT.mem z).1 hz
  have hnd := hT.nd
  rw [e, List.nodup_append, List.nodup_cons] at hnd
  have hxp : x ∉ p := fun hm => hnd.2.2 x hm x (List.mem_cons_self ..) rfl
  have hxs : x ∉ s := hnd.2.1.1
  have hpN : ∀ z ∈ p, z ∈ N := fun z hz => hTN z (by rw [e]; exact List.mem_append_left _ hz)
  have hsN : ∀ z ∈ s, z ∈ N := fun z hz => hTN z (by rw [e]; exact List.mem_append_right _ (List.mem_cons_of_mem _ hz))
  have hlp : (runV ms K N v p).length = N.length := by rw [runV_len, hl]
  have e1 : runV ms K N v T = runV ms K N (stepV ms K N (runV ms K N v p) x) s := by rw [e, runV_app]; rfl
  have hls : (stepV ms K N (runV ms K N v p) x).length = N.length := by simp [stepV, hlp]
  rw [e1, runV_out s _ x hls hsN hx hxs]
  unfold stepV
  rw [vAt_set hlp hx hx, if_pos rfl]
  refine decM_congr (fun d hd => ?_) ?_
  · have hdp : d ∈ p := hT.topo p x s e d hd
    have hdN := hdep x hx d hd
    have hne : d ≠ x := fun h => hxp (h ▸ hdp)
    have hds : d ∉ s := fun hm => hnd.2.2 d hdp d (List.mem_cons_of_mem _ hm) rfl
    simp only [if_neg hne]
    have := runV_out (ms := ms) (K := K) s (stepV ms K N (runV ms K N v p) x) d hls hsN hdN hds
    unfold stepV at this
    rw [this, vAt_set hlp hx hdN, if_neg hne]
  · simp only [if_true]
    exact runV_out p v x hl hpN hx hxp
/-- Whatever the order. -/
theorem runV_any {T T' v : List ByteArray} (hl : v.length = N.length) (hN : N.Nodup) (hT : Full N (depsOf ms K) T) (hT' : Full N (depsOf ms K) T') (hdep : ∀ x ∈ N, ∀ d ∈ depsOf ms K x, d ∈ N) : runV ms K N v T = runV ms K N v T' := by
  have key : ∀ n x, x ∈ N → rk T x < n → vAt N (runV ms K N v T) x = vAt N (runV ms K N v T') x := by
    intro n
    induction n with
    | zero => intro x _ h; omega
    | succ n ih =>
      intro x hx hn
      rw [runV_eq hl hT hdep hx, runV_eq hl hT' hdep hx]
      refine decM_congr (fun d hd => ?_) (by simp)
      have hlt := topo_rank hT.nd hT.topo ((hT.mem x).2 hx) hd
      have hne : d ≠ x := fun h => by subst h; omega
      simp only [if_neg hne]
      exact ih d (hdep x hx d hd) (by omega)
  exact vAt_ext (by rw [runV_len, hl]) (by rw [runV_len, hl]) hN fun x hx => key _ x hx (Nat.lt_succ_self _)
end
end Go.Proofs.Ytkiognopoigbhaa.Ab

/- The plain law: GateMended. -/
set_option linter.unusedVariables false
set_option linter.unusedSimpArgs false
namespace Go.Proofs.Ytkiognopoigbhaa.Ab
open Go Go.RowKit

theorem get_vat {N v : List ByteArray} {x : ByteArray} (hl : v.length = N.length) (hx : x ∈ N) : v[((rk N x : Nat) : Int).toNat]? = some (vAt N v x) := by
  have := rk_lt hx
  rw [Int.toNat_natCast, List.getElem?_eq_getElem (by omega)]
  unfold vAt
  simp [List.getD, show rk N x < v.length by omega]
theorem g85_at {fs : List VGateField} (h : fs.length ≤ 1048576) {x : ByteArray} (hx : x ∈ namesOf fs) : G85 fs x = some ((rk (namesOf fs) x : Nat) : Int) := by
  rw [g85 h, pos_rk fs 0 hx]; rfl
theorem g57_at {fs : List VGateField} (h : fs.length ≤ 1048576) {x : ByteArray} (hx : x ∈ namesOf fs) : G57 fs x = some ((rk (namesOf fs) x : Nat) : Int) := by
  rw [g57 h, pos_rk fs 0 hx]; rfl
theorem g56_at {fs : List VGateField} (h : fs.length ≤ 1048576) {o : VGateObject} (hl : o.Values.length = (namesOf fs).length) {x : ByteArray} (hx : x ∈ namesOf fs) : G56 x o fs = some (vAt (namesOf fs) o.Values x) := by
  unfold G56 G56n
  rw [g57_at h hx]
  simp only [Option.bind_some, Int.natCast_nonneg, decide_true, cond_true]
  rw [get_vat hl hx]
  rfl
section
variable {fs : List VGateField} {ms : List VGateMend}
theorem g84 (hf : fs.length ≤ 1048576) (hm : ms.length ≤ 1048576) {o : VGateObject} (hl : o.Values.length = (namesOf fs).length) {x : ByteArray} (hx : x ∈ namesOf fs) (hdep : ∀ d ∈ depsOf ms o.Kind x, d ∈ namesOf fs) :
    G84 fs ms o x = some (decM ms o.Kind (vAt (namesOf fs) o.Values) x) := by
  have := lp_idx (rnd := r84_0 fuel) (st := fun i => (fs, ms, x, (i : Int), o.Kind, o.Name, o.Team, o.Values, o.Ending, o.Holds, o.Version)) (val := fun i => some (match (ms.drop i).find? (okM o.Kind x (vAt (namesOf fs) o.Values)) with
    | some m => putM (vAt (namesOf fs) o.Values) m
    | none => vAt (namesOf fs) o.Values x)) ms.length (fun rec => by
      simp only [r84_0, Int.lt_irrefl, decide_false, cond_false, g85_at hf hx, Option.bind_some, Int.natCast_nonneg, decide_true, cond_true, List.drop_length, List.find?_nil]
      rw [get_vat hl hx]
      rfl) (fun rec i hi hr => by
      have hw := wrap_nat (i := i) (by omega)
      have hlt : (i : Int) < (ms.length : Int) := by omega
      have him : ms[i] ∈ ms := List.getElem_mem hi
      simp only [r84_0, hlt, decide_true, cond_true, Int.natCast_nonneg, hw]
      rw [get_cast hi, List.drop_eq_getElem_cons hi, List.find?_cons]
      simp only [Option.bind_some]
      by_cases h1 : ms[i].Kind = o.Kind
      · by_cases h2 : ms[i].Field = x
        · have tail : ∀ b, okM o.Kind x (vAt (namesOf fs) o.Values) ms[i] = (b && (decide (ms[i].From = ⟨#[]⟩) || !decide (vAt (namesOf fs) o.Values ms[i].From = ⟨#[]⟩))) → b = true →
              (cond (decide (ms[i].From = (⟨#[]⟩ : ByteArray))) (some (ms[i].Put)) (Option.bind (G85 fs ms[i].From) fun r4 => cond (decide (0 ≤ r4)) (Option.bind o.Values[r4.toNat]? fun x5 => cond (!decide (x5 = (⟨#[]⟩ : ByteArray))) (some (x5)) (rec (fs, ms, x, ((i + 1 : Nat) : Int), o.Kind, o.Name, o.Team, o.Values, o.Ending, o.Holds, o.Version))) none)) =
              some (match (match okM o.Kind x (vAt (namesOf fs) o.Values) ms[i] with | true => some ms[i] | false => (ms.drop (i + 1)).find? (okM o.Kind x (vAt (namesOf fs) o.Values))) with
                | some m => putM (vAt (namesOf fs) o.Values) m
                | none => vAt (namesOf fs) o.Values x) := by
            intro b hb hbt
            subst hbt
            rw [hb]
            by_cases h4 : ms[i].From = ⟨#[]⟩
            · simp [h4, putM]
            · have hin := hdep _ (dep_from him h1 h2 h4)
              rw [g85_at hf hin]
              simp only [Option.bind_some, Int.natCast_nonneg, decide_true, cond_true]
              rw [get_vat hl hin]
              simp only [Option.bind_some, h4, decide_false, cond_false, Bool.false_or, Bool.true_and]
              by_cases h5 : vAt (namesOf fs) o.Values ms[i].From = ⟨#[]⟩
              · simp only [h5, decide_true, Bool.not_true, cond_false]
                exact hr
              · simp [h5, putM, h4]
          by_cases h3 : ms[i].When = ⟨#[]⟩
          · have hb : okM o.Kind x (vAt (namesOf fs) o.Values) ms[i] = (true && (decide (ms[i].From = ⟨#[]⟩) || !decide (vAt (namesOf fs) o.Values ms[i].From = ⟨#[]⟩))) := by simp [okM, h1, h2, h3]
            simp only [h1, h2, h3, decide_true, Bool.not_true, cond_false]
            exact tail true hb rfl
          · have hin := hdep _ (dep_when him h1 h2 h3)
            simp only [h1, h2, h3, decide_true, decide_false, Bool.not_true, Bool.not_false, cond_false, cond_true]
            rw [g85_at hf hin]
            simp only [Option.bind_some, Int.natCast_nonneg, decide_true, cond_true]
            rw [get_vat hl hin]
            simp only [Option.bind_some]
            by_cases h5 : vAt (namesOf fs) o.Values ms[i].When = ms[i].Is
            · have hb : okM o.Kind x (vAt (namesOf fs) o.Values) ms[i] = (true && (decide (ms[i].From = ⟨#[]⟩) || !decide (vAt (namesOf fs) o.Values ms[i].From = ⟨#[]⟩))) := by simp [okM, h1, h2, h3, h5]
              simp only [h5, decide_true, Bool.not_true, cond_false]
              exact tail true hb rfl
            · have hb : okM o.Kind x (vAt (namesOf fs) o.Values) ms[i] = false := by simp [okM, h1, h2, h3, h5]
              rw [hb]
              simp only [h5, decide_false, Bool.not_false, cond_true]
              exact hr
        · have hb : okM o.Kind x (vAt (namesOf fs) o.Values) ms[i] = false := by simp [okM, h2]
          rw [hb]
          simp only [h1, h2, decide_true, decide_false, Bool.not_true, Bool.not_false, cond_false, cond_true]
          exact hr
      · have hb : okM o.Kind x (vAt (namesOf fs) o.Values) ms[i] = false := by simp [okM, h1]
        rw [hb]
        simp only [h1, decide_false, Bool.not_false, cond_true]
        exact hr) fuel 0 (Nat.zero_le _) (by have := fuel_big; omega)
  rw [List.drop_zero] at this
  unfold G84 G84n LP84_0 decM
  exact this
theorem runV_take {K : ByteArray} {N V T : List ByteArray} {i : Nat} (hi : i < T.length) : runV ms K N V (T.take (i + 1)) = stepV ms K N (runV ms K N V (T.take i)) T[i] := by
  rw [← List.take_append_getElem hi, runV_app]; rfl
theorem lp48 (hf : fs.length ≤ 1048576) (hm : ms.length ≤ 1048576) {o : VGateObject} (hl : o.Values.length = (namesOf fs).length) {T : List ByteArray} (hT : ∀ x ∈ T, x ∈ namesOf fs) (hTl : T.length ≤ 1048576) (hdep : ∀ x ∈ namesOf fs, ∀ d ∈ depsOf ms o.Kind x, d ∈ namesOf fs) {c1 c2 c3 c4 c5 c6 c7} :
    LP48_0 fuel (ms, fs, T, 0, c1, c2, c3, c4, c5, c6, c7, o.Kind, o.Name, o.Team, o.Values, o.Ending, o.Holds, o.Version) = some ⟨o.Kind, o.Name, o.Team, runV ms o.Kind (namesOf fs) o.Values T, o.Ending, o.Holds, o.Version⟩ := by
  have := lp_idx (rnd := r48_0 fuel) (st := fun i => (ms, fs, T, (i : Int), c1, c2, c3, c4, c5, c6, c7, o.Kind, o.Name, o.Team, runV ms o.Kind (namesOf fs) o.Values (T.take i), o.Ending, o.Holds, o.Version)) (val := fun i => some (⟨o.Kind, o.Name, o.Team, runV ms o.Kind (namesOf fs) o.Values T, o.Ending, o.Holds, o.Version⟩ : VGateObject)) T.length (fun rec => by
    simp only [r48_0, Int.lt_irrefl, decide_false, cond_false, List.take_length]) (fun rec i hi hr => by
    have hw := wrap_nat (i := i) (by omega)
    have hlt : (i : Int) < (T.length : Int) := by omega
    have hx := hT T[i] (List.getElem_mem hi)
    have hlv : (runV ms o.Kind (namesOf fs) o.Values (T.take i)).length = (namesOf fs).length := by rw [runV_len, hl]
    have hk := rk_lt hx
    have hlt2 : ((rk (namesOf fs) T[i] : Nat) : Int) < (((runV ms o.Kind (namesOf fs) o.Values (T.take i)).length : Nat) : Int) := by omega
    rw [runV_take hi] at hr
    simp only [r48_0, hlt, decide_true, cond_true, Int.natCast_nonneg, hw]
    rw [get_cast hi]
    simp only [Option.bind_some, g85_at hf hx, Int.natCast_nonneg, hlt2, decide_true, cond_true]
    rw [g84 (o := ⟨o.Kind, o.Name, o.Team, runV ms o.Kind (namesOf fs) o.Values (T.take i), o.Ending, o.Holds, o.Version⟩) hf hm hlv hx (hdep _ hx)]
    simp only [Option.bind_some]
    rw [get_vat hlv hx]
    exact hr) fuel 0 (Nat.zero_le _) (by have := fuel_big; omega)
  unfold LP48_0
  simpa [runV] using this
theorem set_same {v : List ByteArray} {i : Nat} (h : i < v.length) : v.set i (v.getD i ⟨#[]⟩) = v := by
  have : v.getD i ⟨#[]⟩ = v[i] := by simp [List.getD, h]
  rw [this, List.set_getElem_self]
theorem lp19_1 (hf : fs.length ≤ 1048576) (hm : ms.length ≤ 1048576) {o : VGateObject} (hl : o.Values.length = (namesOf fs).length) {x : ByteArray} (hx : x ∈ namesOf fs) (hdep : ∀ d ∈ depsOf ms o.Kind x, d ∈ namesOf fs) {rec0 : A19_0 → Option VGateObject} {T : List ByteArray} {L : Int} {i : Nat} (hi0 : i < 4194304) {c1 c2 c3 c4 c5 c6 c7} :
    LP19_1 fuel rec0 (ms, x, T, L, (i : Int), ms, (ms.length : Int), 0, o.Kind, o.Name, o.Team, o.Values, o.Ending, o.Holds, o.Version, c1, c2, c3, c4, c5, c6, c7, fs) = rec0 (ms, T, L, ((i + 1 : Nat) : Int), o.Kind, o.Name, o.Team, stepV ms o.Kind (namesOf fs) o.Values x, o.Ending, o.Holds, o.Version, c1, c2, c3, c4, c5, c6, c7, fs) := by
  have hw0 := wrap_nat (i := i) (by omega)
  have hk := rk_lt hx
  have hlt2 : ((rk (namesOf fs) x : Nat) : Int) < ((o.Values.length : Nat) : Int) := by omega
  have := lp_idx (rnd := r19_1 fuel rec0) (st := fun j => (ms, x, T, L, (i : Int), ms, (ms.length : Int), (j : Int), o.Kind, o.Name, o.Team, o.Values, o.Ending, o.Holds, o.Version, c1, c2, c3, c4, c5, c6, c7, fs)) (val := fun j => rec0 (ms, T, L, ((i + 1 : Nat) : Int), o.Kind, o.Name, o.Team, (match (ms.drop j).find? (okM o.Kind x (vAt (namesOf fs) o.Values)) with
    | some m => o.Values.set (rk (namesOf fs) x) (putM (vAt (namesOf fs) o.Values) m)
    | none => o.Values), o.Ending, o.Holds, o.Version, c1, c2, c3, c4, c5, c6, c7, fs)) ms.length (fun rec => by
      simp only [r19_1, Int.lt_irrefl, decide_false, cond_false, hw0, List.drop_length, List.find?_nil]) (fun rec j hj hr => by
      have hw := wrap_nat (i := j) (by omega)
      have hlt : (j : Int) < (ms.length : Int) := by omega
      have him : ms[j] ∈ ms := List.getElem_mem hj
      simp only [r19_1, hlt, decide_true, cond_true, Int.natCast_nonneg, hw, hw0]
      rw [get_cast hj, List.drop_eq_getElem_cons hj, List.find?_cons]
      simp only [Option.bind_some, g57_at hf hx, Int.natCast_nonneg, hlt2, decide_true, cond_true]
      rw [get_vat hl hx]
      simp only [Option.bind_some, Int.toNat_natCast]
      by_cases h1 : ms[j].Kind = o.Kind
      · by_cases h2 : ms[j].Field = x
        · have e56 : ∀ y, y ∈ namesOf fs → G56 y ⟨o.Kind, o.Name, o.Team, o.Values, o.Ending, o.Holds, o.Version⟩ fs = some (vAt (namesOf fs) o.Values y) := fun y hy => g56_at hf (o := ⟨o.Kind, o.Name, o.Team, o.Values, o.Ending, o.Holds, o.Version⟩) hl hy
          by_cases h3 : ms[j].When = ⟨#[]⟩
          · by_cases h4 : ms[j].From = ⟨#[]⟩
            · have hb : okM o.Kind x (vAt (namesOf fs) o.Values) ms[j] = true := by simp [okM, h1, h2, h3, h4]
              rw [hb]
              simp only [h1, h2, h3, h4, decide_true, Bool.not_true, cond_false, putM, cond_true]
            · have hin := hdep _ (dep_from him h1 h2 h4)
              rw [e56 _ hin]
              by_cases h5 : vAt (namesOf fs) o.Values ms[j].From = ⟨#[]⟩
              · have hb : okM o.Kind x (vAt (namesOf fs) o.Values) ms[j] = false := by simp [okM, h1, h2, h3, h4, h5]
                rw [hb]
                simp only [h1, h2, h3, h4, h5, decide_true, decide_false, Bool.not_true, Bool.not_false, cond_false, cond_true, Option.bind_some]
                exact hr
              · have hb : okM o.Kind x (vAt (namesOf fs) o.Values) ms[j] = true := by simp [okM, h1, h2, h3, h4, h5]
                rw [hb]
                simp only [h1, h2, h3, h4, h5, decide_true, decide_false, Bool.not_true, Bool.not_false, cond_false, cond_true, Option.bind_some, putM]
          · have hinw := hdep _ (dep_when him h1 h2 h3)
            rw [e56 _ hinw]
            by_cases h6 : vAt (namesOf fs) o.Values ms[j].When = ms[j].Is
            · by_cases h4 : ms[j].From = ⟨#[]⟩
              · have hb : okM o.Kind x (vAt (namesOf fs) o.Values) ms[j] = true := by simp [okM, h1, h2, h3, h4, h6]
                rw [hb]
                simp only [h1, h2, h3, h4, h6, decide_true, decide_false, Bool.not_true, Bool.not_false, cond_false, cond_true, Option.bind_some, putM]
              · have hin := hdep _ (dep_from him h1 h2 h4)
                rw [e56 _ hin]
                by_cases h5 : vAt (namesOf fs) o.Values ms[j].From = ⟨#[]⟩
                · have hb : okM o.Kind x (vAt (namesOf fs) o.Values) ms[j] = false := by simp [okM, h1, h2, h3, h4, h5, h6]
                  rw [hb]
                  simp only [h1, h2, h3, h4, h5, h6, decide_true, decide_false, Bool.not_true, Bool.not_false, cond_false, cond_true, Option.bind_some]
                  exact hr
                · have hb : okM o.Kind x (vAt (namesOf fs) o.Values) ms[j] = true := by simp [okM, h1, h2, h3, h4, h5, h6]
                  rw [hb]
                  simp only [h1, h2, h3, h4, h5, h6, decide_true, decide_false, Bool.not_true, Bool.not_false, cond_false, cond_true, Option.bind_some, putM]
            · have hb : okM o.Kind x (vAt (namesOf fs) o.Values) ms[j] = false := by simp [okM, h1, h2, h3, h6]
              rw [hb]
              simp only [h1, h2, h3, h6, decide_true, decide_false, Bool.not_true, Bool.not_false, cond_false, cond_true, Option.bind_some]
              exact hr
        · have hb : okM o.Kind x (vAt (namesOf fs) o.Values) ms[j] = false := by simp [okM, h2]
          rw [hb]
          simp only [h1, h2, decide_true, decide_false, Bool.not_true, Bool.not_false, cond_false, cond_true]
          exact hr
      · have hb : okM o.Kind x (vAt (namesOf fs) o.Values) ms[j] = false := by simp [okM, h1]
        rw [hb]
        simp only [h1, decide_false, Bool.not_false, cond_true]
        exact hr) fuel 0 (Nat.zero_le _) (by have := fuel_big; omega)
  have hstep : stepV ms o.Kind (namesOf fs) o.Values x = (match (ms.drop 0).find? (okM o.Kind x (vAt (namesOf fs) o.Values)) with
    | some m => o.Values.set (rk (namesOf fs) x) (putM (vAt (namesOf fs) o.Values) m)
    | none => o.Values) := by
    unfold stepV decM
    rw [List.drop_zero]
    cases ms.find? (okM o.Kind x (vAt (namesOf fs) o.Values)) with
    | some m => rfl
    | none => exact set_same (by omega)
  unfold LP19_1
  rw [hstep]
  exact this
theorem lp19_0 (hf : fs.length ≤ 1048576) (hm : ms.length ≤ 1048576) {o : VGateObject} (hl : o.Values.length = (namesOf fs).length) {T : List ByteArray} (hT : ∀ x ∈ T, x ∈ namesOf fs) (hTl : T.length ≤ 1048576) (hdep : ∀ x ∈ namesOf fs, ∀ d ∈ depsOf ms o.Kind x, d ∈ namesOf fs) {c1 c2 c3 c4 c5 c6 c7} :
    LP19_0 fuel (ms, T, (T.length : Int), 0, o.Kind, o.Name, o.Team, o.Values, o.Ending, o.Holds, o.Version, c1, c2, c3, c4, c5, c6, c7, fs) = some ⟨o.Kind, o.Name, o.Team, runV ms o.Kind (namesOf fs) o.Values T, o.Ending, o.Holds, o.Version⟩ := by
  have := lp_idx (rnd := r19_0 fuel) (st := fun i => (ms, T, (T.length : Int), (i : Int), o.Kind, o.Name, o.Team, runV ms o.Kind (namesOf fs) o.Values (T.take i), o.Ending, o.Holds, o.Version, c1, c2, c3, c4, c5, c6, c7, fs)) (val := fun i => some (⟨o.Kind, o.Name, o.Team, runV ms o.Kind (namesOf fs) o.Values T, o.Ending, o.Holds, o.Version⟩ : VGateObject)) T.length (fun rec => by
    simp only [r19_0, Int.lt_irrefl, decide_false, cond_false, List.take_length]) (fun rec i hi hr => by
    have hlt : (i : Int) < (T.length : Int) := by omega
    have hx := hT T[i] (List.getElem_mem hi)
    have hlv : (runV ms o.Kind (namesOf fs) o.Values (T.take i)).length = (namesOf fs).length := by rw [runV_len, hl]
    rw [runV_take hi] at hr
    simp only [r19_0, hlt, decide_true, cond_true, Int.natCast_nonneg]
    rw [get_cast hi]
    simp only [Option.bind_some]
    rw [lp19_1 (o := ⟨o.Kind, o.Name, o.Team, runV ms o.Kind (namesOf fs) o.Values (T.take i), o.Ending, o.Holds, o.Version⟩) hf hm hlv hx (hdep _ hx) (by omega)]
    exact hr) fuel 0 (Nat.zero_le _) (by have := fuel_big; omega)
  unfold LP19_0
  simpa [runV] using this
end
end Go.Proofs.Ytkiognopoigbhaa.Ab

/- The plain law: GateMended, the reference's and the program's; the law. -/
set_option linter.unusedVariables false
set_option linter.unusedSimpArgs false
namespace Go.Proofs.Ytkiognopoigbhaa.Ab
open Go Go.RowKit

structure OSm (o : VGateObject) : Prop where
  v : o.Values.length ≤ 1048576
  h : o.Holds.length ≤ 1048576
theorem g47 {o : VGateObject} (h : OSm o) : G47 o = some o := by
  unfold G47 G47n
  have h1 := h.v
  have h2 := h.h
  have e1 : (([] : List ByteArray).length + o.Values.length) * 16 ≤ 140737488355328 := by simp; omega
  have e2 : (([] : List ByteArray).length + o.Holds.length) * 16 ≤ 140737488355328 := by simp; omega
  rw [decide_eq_true e1, decide_eq_true e2]
  rfl
theorem g87 {xs : List ByteArray} (h : xs.length ≤ 1048576) : G87 xs = some xs := by
  unfold G87 G87n
  by_cases h0 : xs.length = 0
  · have : xs = [] := List.eq_nil_of_length_eq_zero h0
    subst this
    rfl
  · have e0 : ((xs.length : Int) == 0) = false := by
      rw [beq_eq_false_iff_ne]; omega
    have e1 : (xs.length : Int) * 16 ≤ 140737488355328 := by omega
    rw [e0]
    simp only [cond_false, e1, decide_true, cond_true, Int.natCast_nonneg, Int.toNat_natCast, List.length_replicate, List.take_length]
    simp
theorem g52 {o : VGateObject} (h : OSm o) : G52 o = some o := by
  unfold G52 G52n
  rw [g87 h.v, g87 h.h]
  rfl
/-- The object mended: what both compute. -/
def mendV (ms : List VGateMend) (x : VGateShape) (o : VGateObject) : VGateObject := ⟨o.Kind, o.Name, o.Team, runV ms o.Kind (namesOf x.Fields) o.Values (gr ms x.Kind x.Fields x.Fields.length []), o.Ending, o.Holds, o.Version⟩
def mended (xs : List VGateShape) (ms : List VGateMend) (o : VGateObject) : VGateObject := match xs.find? (fun x => decide (x.Kind = o.Kind)) with
  | some x => cond (decide (x.Fields.length = o.Values.length) && mendsB xs ms) (mendV ms x o) o
  | none => o
structure Mk (xs : List VGateShape) (ms : List VGateMend) (x : VGateShape) : Prop where
  nd : (namesOf x.Fields).Nodup
  dep : ∀ y ∈ namesOf x.Fields, ∀ d ∈ depsOf ms x.Kind y, d ∈ namesOf x.Fields
  full : (gr ms x.Kind x.Fields x.Fields.length []).length = x.Fields.length
theorem mk_of {xs : List VGateShape} {ms : List VGateMend} (h : mendsB xs ms = true) {x : VGateShape} (hx : x ∈ xs) : Mk xs ms x := by
  unfold mendsB at h
  rw [Bool.and_eq_true, Bool.and_eq_true, Bool.and_eq_true] at h
  have hs := shapes_ok h.1
  refine ⟨names_nodup (hs.fl x hx), deps_in hs h.2.2.1 hx, ?_⟩
  have := List.all_eq_true.1 h.2.2.2 x hx
  exact of_decide_eq_true this
theorem gr_is_full {xs : List VGateShape} {ms : List VGateMend} {x : VGateShape} (h : Mk xs ms x) : Full (namesOf x.Fields) (depsOf ms x.Kind) (gr ms x.Kind x.Fields x.Fields.length []) := by
  refine ginv_full (gr_ginv _ _ ⟨List.nodup_nil, fun z h => (by cases h), topo_nil _⟩) ?_
  rw [h.full]; simp [namesOf]
theorem g48 {xs : List VGateShape} {ms : List VGateMend} {o : VGateObject} (hL : LSm xs ms) (hO : OSm o) (hm : mendsB xs ms = true) : G48 xs ms o = some (mended xs ms o) := by
  unfold G48 G48n mended
  rw [g47 hO, g83 hL.x]
  simp only [Option.bind_some]
  rcases pos_find (fun x : VGateShape => decide (x.Kind = o.Kind)) xs with ⟨e, h⟩ | ⟨i, hi, e, h⟩
  · rw [e, h]; rfl
  · rw [e, h]
    have hn : ¬ (i : Int) < 0 := by omega
    have hix : xs[i] ∈ xs := List.getElem_mem hi
    have hk : xs[i].Kind = o.Kind := by
      have := List.find?_some h
      simpa using this
    have hM := mk_of hm hix
    have hS := hL.s _ hix
    have hF := gr_is_full hM
    simp only [hn, decide_false, cond_false, Int.natCast_nonneg, decide_true, cond_true]
    rw [get_cast hi]
    simp only [Option.bind_some, ne_cast, hm, Bool.and_true]
    cases hl : decide (xs[i].Fields.length = o.Values.length) with
    | false => rfl
    | true =>
      have hl := of_decide_eq_true hl
      have hg : G73 xs[i] ms = some (gr ms xs[i].Kind xs[i].Fields xs[i].Fields.length []) := g73 hL.l hS.l
      simp only [Bool.not_true, cond_false, cond_true]
      rw [hg]
      simp only [Option.bind_some]
      exact lp48 hS.l hL.l (by simp [namesOf, hl]) (fun x hx => (hF.mem x).1 hx) (by rw [hM.full]; exact hS.l) (by rw [← hk]; exact hM.dep)
theorem g15 {xs : List VGateShape} {ms : List VGateMend} {o : VGateObject} (hL : LSm xs ms) (hO : OSm o) : G15 xs ms o = some (mended xs ms o) := by
  unfold G15 G15n
  rw [g39 hL]
  cases hm : mendsB xs ms with
  | true =>
    simp only [Option.bind_some, Bool.not_true, cond_false, g48 hL hO hm]
  | false =>
    simp only [Option.bind_some, Bool.not_false, cond_true, g47 hO]
    unfold mended
    cases xs.find? (fun x => decide (x.Kind = o.Kind)) with
    | none => rfl
    | some x => simp [hm]
theorem g19 {xs : List VGateShape} {ms : List VGateMend} {o : VGateObject} (hL : LSm xs ms) (hO : OSm o) : G19 xs ms o = some (mended xs ms o) := by
  unfold G19 G19n mended
  rw [g52 hO]
  simp only [Option.bind_some]
  rw [g55 hL.x]
  simp only [Option.bind_some]
  rcases pos_find (fun x : VGateShape => decide (x.Kind = o.Kind)) xs with ⟨e, h⟩ | ⟨i, hi, e, h⟩
  · rw [e, h]; rfl
  · rw [e, h]
    have hn : ¬ (i : Int) < 0 := by omega
    have hix : xs[i] ∈ xs := List.getElem_mem hi
    have hk : xs[i].Kind = o.Kind := by
      have := List.find?_some h
      simpa using this
    have hS := hL.s _ hix
    simp only [hn, decide_false, cond_false, Int.natCast_nonneg, decide_true, cond_true]
    rw [get_cast hi]
    simp only [Option.bind_some, ne_cast]
    rw [show decide (o.Values.length = xs[i].Fields.length) = decide (xs[i].Fields.length = o.Values.length) from by simp [eq_comm]]
    cases hl : decide (xs[i].Fields.length = o.Values.length) with
    | false => rfl
    | true =>
      have hl := of_decide_eq_true hl
      simp only [Bool.not_true, cond_false, Bool.true_and, g31 hL, Option.bind_some]
      cases hm : mendsB xs ms with
      | false => rfl
      | true =>
        have hM := mk_of hm hix
        have hF := gr_is_full hM
        obtain ⟨row, e54, h54⟩ := rows_alike (K := xs[i].Kind) hL.l hS.l hM.nd hM.dep
        have e54' : G54 xs[i] ms = some (row, decide ((gr ms xs[i].Kind xs[i].Fields xs[i].Fields.length []).length = xs[i].Fields.length)) := e54
        have hR := h54 hM.full
        simp only [Bool.not_true, cond_false, cond_true]
        rw [e54']
        simp only [Option.bind_some]
        have hlv : o.Values.length = (namesOf xs[i].Fields).length := by simp [namesOf, hl]
        have hrl : row.length ≤ 1048576 := by
          have := nodup_len hR.nd fun z hz => (hR.mem z).1 hz
          have h2 : (namesOf xs[i].Fields).length = xs[i].Fields.length := by simp [namesOf]
          have := hS.l
          omega
        have hdep : ∀ y ∈ namesOf xs[i].Fields, ∀ d ∈ depsOf ms o.Kind y, d ∈ namesOf xs[i].Fields := by rw [← hk]; exact hM.dep
        refine (lp19_0 hS.l hL.l hlv (fun x hx => (hR.mem x).1 hx) hrl hdep).trans ?_
        unfold mendV
        rw [hk] at hR hF
        rw [hk, runV_any hlv hM.nd hR hF hdep]
theorem runV_mem {ms : List VGateMend} {K : ByteArray} {N : List ByteArray} (T v : List ByteArray) : (runV ms K N v T).length = v.length := runV_len T v
theorem mended_len {xs : List VGateShape} {ms : List VGateMend} {o : VGateObject} : (mended xs ms o).Values.length = o.Values.length ∧ (mended xs ms o).Holds = o.Holds := by
  unfold mended
  cases xs.find? (fun x => decide (x.Kind = o.Kind)) with
  | none => exact ⟨rfl, rfl⟩
  | some x =>
    simp only
    cases (decide (x.Fields.length = o.Values.length) && mendsB xs ms) with
    | false => exact ⟨rfl, rfl⟩
    | true => exact ⟨runV_len _ _, rfl⟩
/-! ### The law's helpers for an object -/
theorem w_strs (xs : List ByteArray) : w_StringS xs = xs.length := by
  unfold w_StringS
  induction xs with
  | nil => rfl
  | cons x r ih => simp only [List.map_cons, List.sum_cons, List.length_cons, ih, w_String]; omega
theorem eqO {o : VGateObject} (h : OSm o) : G20 o o = some true := by
  have h1 := h.v
  have h2 := h.h
  unfold G20 G20n
  simp only [eq_StringS (xs := o.Values) (by rw [w_strs]; omega), eq_StringS (xs := o.Holds) (by rw [w_strs]; omega), decide_true, Bool.not_true, cond_false, Option.bind_some, beq_self_eq_true, bne_self_eq_false]
theorem markO {o : VGateObject} (h : OSm o) {k : Int} (h0 : 0 ≤ k) (hk : k ≤ 1000000000000000) : ∃ vs hs k', G25 o k = some (vs, hs, k') ∧ 0 ≤ k' ∧ G26 ⟨o.Kind, o.Name, o.Team, vs, o.Ending, hs, o.Version⟩ k = some k' := by
  have h1 := h.v
  have h2 := h.h
  obtain ⟨ys, e1, e2⟩ := mark_StringS (xs := o.Values) (k := k) h0 (by rw [w_strs]; omega)
  rw [w_strs] at e1 e2
  obtain ⟨zs, f1, f2⟩ := mark_StringS (xs := o.Holds) (k := k + (o.Values.length : Int)) (by omega) (by rw [w_strs]; omega)
  rw [w_strs] at f1 f2
  refine ⟨ys, zs, k + (o.Values.length : Int) + (o.Holds.length : Int), ?_, by omega, ?_⟩
  · unfold G25 G25n
    rw [e1]
    simp only [Option.bind_some]
    rw [f1]
    rfl
  · unfold G26 G26n
    have n1 : ¬ k + (o.Values.length : Int) < 0 := by omega
    have n2 : ¬ k + (o.Values.length : Int) + (o.Holds.length : Int) < 0 := by omega
    simp only [e2, Option.bind_some, n1, decide_false, cond_false, f2, n2]
end Go.Proofs.Ytkiognopoigbhaa.Ab

/- The plain law: FnExactGateMended's function is true. -/
set_option linter.unusedVariables false
set_option linter.unusedSimpArgs false
namespace Go.Proofs.Ytkiognopoigbhaa.Ab
open Go Go.RowKit

theorem sm_str {s : ByteArray} (h : Sm KK (.str s)) : s.size ≤ 9223372036854775807 := by
  cases h; exact max_len ‹_›
theorem sm_obj {o : VGateObject} (k0 : Sm KK (.str o.Kind)) (k1 : Sm KK (.str o.Name)) (k2 : Sm KK (.str o.Team)) (k3 : Sm KK (.row .e9 o.Values)) (k5 : Sm KK (.row .e9 o.Holds)) : sm_GateObject o :=
  ⟨sm_str k0, sm_str k1, sm_str k2, sm_StringS_of k3, sm_StringS_of k5, trivial⟩
theorem osm_of {o : VGateObject} (h : s_GateObject o ≤ 1048576) : OSm o := by
  unfold s_GateObject at h
  have h1 := s_StringS_len o.Values
  have h2 := s_StringS_len o.Holds
  exact ⟨by omega, by omega⟩
theorem lsm_of {xs : List VGateShape} {ms : List VGateMend} (t1 : s_GateShapeS xs ≤ 1048576) (t2 : s_GateMendS ms ≤ 1048576) : LSm xs ms := by
  have l1 := s_GateShapeS_len xs
  have l2 := s_GateMendS_len ms
  exact ⟨by omega, fun x hx => ssm_of (by have := s_GateShapeS_mem hx; omega), by omega, fun m hm => by
    have := s_GateMendS_mem hm
    unfold s_GateMend at this
    omega⟩
theorem pure4 (a0 : List VGateShape) (a1 : List VGateMend) (a2 : VGateObject) (h0 : Sm KK (.row .e74 a0)) (h1 : Sm KK (.row .e77 a1)) (k0 : Sm KK (.str a2.Kind)) (k1 : Sm KK (.str a2.Name)) (k2 : Sm KK (.str a2.Team)) (k3 : Sm KK (.row .e9 a2.Values)) (k5 : Sm KK (.row .e9 a2.Holds)) (k6 : Sm KK (.int .i64 a2.Version)) : G4 a0 a1 a2 = some true := by
  unfold G4 G4n
  have hA := sm_GateShapeS_of h0
  have hB := sm_GateMendS_of h1
  obtain ⟨r1, e1, q1 | ⟨p1, q1⟩⟩ := sz_GateShapeS hA.1 hA.2 (a := 1048576) (by omega) (by omega)
  · simp only [e1, Option.bind_some, q1, decide_true, cond_true]
  obtain ⟨r2, e2, q2 | ⟨p2, q2⟩⟩ := sz_GateMendS hB.1 hB.2 (a := r1) p1 (by omega)
  · have n1 : ¬ r1 < 0 := by omega
    simp only [e1, e2, Option.bind_some, n1, q2, decide_true, decide_false, cond_true, cond_false]
  obtain ⟨r3, e3, q3 | ⟨p3, q3⟩⟩ := sz_GateObject (sm_obj k0 k1 k2 k3 k5) (a := r2) p2 (by omega)
  · have n1 : ¬ r1 < 0 := by omega
    have n2 : ¬ r2 < 0 := by omega
    simp only [e1, e2, e3, Option.bind_some, n1, n2, q3, decide_true, decide_false, cond_true, cond_false]
  have n1 : ¬ r1 < 0 := by omega
  have n2 : ¬ r2 < 0 := by omega
  have n3 : ¬ r3 < 0 := by omega
  have t1 : s_GateShapeS a0 ≤ 1048576 := by omega
  have t2 : s_GateMendS a1 ≤ 1048576 := by omega
  have t3 : s_GateObject a2 ≤ 1048576 := by omega
  have hL := lsm_of t1 t2
  have hO := osm_of t3
  have w1 := ws_GateShapeS a0
  have w2 := ws_GateMendS a1
  have hlen := mended_len (xs := a0) (ms := a1) (o := a2)
  have hR : OSm (mended a0 a1 a2) := ⟨by rw [hlen.1]; exact hO.v, by rw [hlen.2]; exact hO.h⟩
  obtain ⟨ys, m1⟩ := markO_GateShapeS (xs := a0) (k := 1) (by omega) (by omega)
  obtain ⟨zs, m2⟩ := markO_GateMendS (xs := a1) (k := 1 + (w_GateShapeS a0 : Int)) (by omega) (by omega)
  obtain ⟨v1, v2, k', m3, m4, _⟩ := markO hO (k := 1 + (w_GateShapeS a0 : Int) + (w_GateMendS a1 : Int)) (by omega) (by omega)
  obtain ⟨u1, u2, k2', s1, s2, s3⟩ := markO hR (k := 1) (by omega) (by omega)
  have n4 : ¬ k' < 0 := by omega
  have n5 : ¬ k2' < 0 := by omega
  simp only [e1, e2, e3, Option.bind_some, n1, n2, n3, decide_false, cond_false, to_GateShapeS t1, to_GateMendS t2, to_GateObject t3, g15 hL hO, g19 hL hO, eqO hO, eqO hR, eq_GateShapeS (xs := a0) (by omega), eq_GateMendS (xs := a1) (by omega), Bool.not_true, m1, m2, m3, s1, s3, n4, n5, bne_self_eq_false]
end Go.Proofs.Ytkiognopoigbhaa.Ab

/- The plain law: an object filled; an object filled and mended; FnExactGateShaped's function is true. -/
set_option linter.unusedVariables false
set_option linter.unusedSimpArgs false
namespace Go.Proofs.Ytkiognopoigbhaa.Ab
open Go Go.RowKit

def fillAt (f : VGateField) (v : ByteArray) : ByteArray := cond (decide (v = ⟨#[]⟩)) f.Default v
def fillL (fs : List VGateField) (vs : List ByteArray) : List ByteArray := List.zipWith fillAt fs vs
theorem fill_len {fs : List VGateField} {vs : List ByteArray} (e : fs.length = vs.length) : (fillL fs vs).length = vs.length := by
  simp [fillL, e]
def mixL (fs : List VGateField) (vs : List ByteArray) (i : Nat) : List ByteArray := (fillL fs vs).take i ++ vs.drop i
theorem mix_len {fs : List VGateField} {vs : List ByteArray} (e : fs.length = vs.length) {i : Nat} (hi : i ≤ vs.length) : (mixL fs vs i).length = vs.length := by
  have := fill_len e
  unfold mixL
  rw [len_mix (by omega) this, this]
theorem mix_get {fs : List VGateField} {vs : List ByteArray} (e : fs.length = vs.length) {i : Nat} (hi : i < vs.length) : (mixL fs vs i)[((i : Int)).toNat]? = some vs[i] :=
  get_mix (by rw [fill_len e]; exact hi) (fill_len e)
theorem mix_step {fs : List VGateField} {vs : List ByteArray} (e : fs.length = vs.length) {i : Nat} (hi : i < vs.length) (hf : i < fs.length) :
    cond (decide (vs[i] = ⟨#[]⟩)) ((mixL fs vs i).set i fs[i].Default) (mixL fs vs i) = mixL fs vs (i + 1) := by
  have hl := fill_len e
  have hi' : i < (fillL fs vs).length := by omega
  have hs := take_set hi' hl
  have hg : (fillL fs vs)[i] = fillAt fs[i] vs[i] := by simp [fillL]
  rw [hg] at hs
  unfold mixL
  unfold fillAt at hs
  by_cases h : vs[i] = ⟨#[]⟩
  · rw [decide_eq_true h] at hs ⊢
    exact hs
  · rw [decide_eq_false h] at hs ⊢
    simp only [cond_false] at hs ⊢
    rw [← hs]
    have h2 : i < (List.take i (fillL fs vs) ++ List.drop i vs).length := by rw [len_mix (by omega) hl]; exact hi'
    have h3 := get_mix hi' hl
    rw [Int.toNat_natCast, List.getElem?_eq_getElem h2] at h3
    have h3 := Option.some.inj h3
    apply List.ext_getElem (by simp)
    intro j h1 h2'
    rw [List.getElem_set]
    split
    · next hj => subst hj; exact h3
    · rfl
theorem mix_end {fs : List VGateField} {vs : List ByteArray} (e : fs.length = vs.length) : mixL fs vs fs.length = fillL fs vs := by
  have := fill_len e
  unfold mixL
  rw [e, List.drop_length, List.append_nil, List.take_of_length_le (by omega)]
theorem lp91 {fs : List VGateField} {vs : List ByteArray} (hf : fs.length ≤ 1048576) (e : fs.length = vs.length) {c2 c3 c4 c5 c6 c7 c8 k nm t en h v} :
    LP91_0 fuel (fs, 0, c2, c3, c4, c5, c6, c7, c8, k, nm, t, vs, en, h, v) = some ⟨k, nm, t, fillL fs vs, en, h, v⟩ := by
  have key := lp_idx (rnd := r91_0 fuel) (st := fun i => (fs, (i : Int), c2, c3, c4, c5, c6, c7, c8, k, nm, t, mixL fs vs i, en, h, v)) (val := fun _ => some ⟨k, nm, t, fillL fs vs, en, h, v⟩) fs.length (fun rec => by simp only [r91_0, Int.lt_irrefl, decide_false, cond_false]; rw [mix_end e]) (fun rec i hi hr => by
    have hv : i < vs.length := by omega
    have h1 : (i : Int) < (fs.length : Int) := by omega
    have h2 : (i : Int) < ((mixL fs vs i).length : Int) := by rw [mix_len e (by omega)]; omega
    have hw := wrap_nat (i := i) (by omega)
    have hm := mix_step e hv hi
    simp only [r91_0]
    rw [hw, mix_get e hv, get_cast hi]
    simp only [h1, h2, decide_true, cond_true, Int.natCast_nonneg, Option.bind_some, Int.toNat_natCast]
    cases hd : decide (vs[i] = ⟨#[]⟩) with
    | true => rw [hd, cond_true] at hm; rw [cond_true, hm]; exact hr
    | false => rw [hd, cond_false] at hm; rw [cond_false, hm]; exact hr) fuel 0 (Nat.zero_le _) (by have := fuel_big; omega)
  have e0 : mixL fs vs 0 = vs := by simp [mixL]
  rw [e0] at key
  exact key
theorem lp32 {fs : List VGateField} {vs : List ByteArray} (hf : fs.length ≤ 1048576) (e : fs.length = vs.length) {c2 c3 c4 c5 c6 c7 c8 k nm t en h v} :
    LP32_0 fuel (fs, (fs.length : Int), 0, k, nm, t, vs, en, h, v, c2, c3, c4, c5, c6, c7, c8) = some ⟨k, nm, t, fillL fs vs, en, h, v⟩ := by
  have key := lp_idx (rnd := r32_0 fuel) (st := fun i => (fs, (fs.length : Int), (i : Int), k, nm, t, mixL fs vs i, en, h, v, c2, c3, c4, c5, c6, c7, c8)) (val := fun _ => some ⟨k, nm, t, fillL fs vs, en, h, v⟩) fs.length (fun rec => by simp only [r32_0, Int.lt_irrefl, decide_false, cond_false]; rw [mix_end e]) (fun rec i hi hr => by
    have hv : i < vs.length := by omega
    have h1 : (i : Int) < (fs.length : Int) := by omega
    have h2 : (i : Int) < ((mixL fs vs i).length : Int) := by rw [mix_len e (by omega)]; omega
    have hw := wrap_nat (i := i) (by omega)
    have hm := mix_step e hv hi
    simp only [r32_0]
    rw [hw, mix_get e hv, get_cast hi]
    simp only [h1, h2, decide_true, cond_true, Int.natCast_nonneg, Option.bind_some, Int.toNat_natCast]
    cases hd : decide (vs[i] = ⟨#[]⟩) with
    | true => rw [hd, cond_true] at hm; rw [cond_true, hm]; exact hr
    | false => rw [hd, cond_false] at hm; rw [cond_false, hm]; exact hr) fuel 0 (Nat.zero_le _) (by have := fuel_big; omega)
  have e0 : mixL fs vs 0 = vs := by simp [mixL]
  rw [e0] at key
  exact key
def filled (xs : List VGateShape) (o : VGateObject) : VGateObject := match xs.find? (fun x => decide (x.Kind = o.Kind)) with
  | some x => cond (decide (x.Fields.length = o.Values.length)) ⟨o.Kind, o.Name, o.Team, fillL x.Fields o.Values, o.Ending, o.Holds, o.Version⟩ o
  | none => o
theorem g91 {xs : List VGateShape} {o : VGateObject} (hx : xs.length ≤ 1048576) (hs : ∀ x ∈ xs, SSm x) (hO : OSm o) : G91 xs o = some (filled xs o) := by
  unfold G91 G91n filled
  rw [g47 hO, g83 hx]
  simp only [Option.bind_some]
  rcases pos_find (fun x : VGateShape => decide (x.Kind = o.Kind)) xs with ⟨e, h⟩ | ⟨i, hi, e, h⟩
  · rw [e, h]; rfl
  · rw [e, h]
    have hn : ¬ (i : Int) < 0 := by omega
    simp only [hn, decide_false, cond_false, Int.natCast_nonneg, decide_true, cond_true]
    rw [get_cast hi]
    simp only [Option.bind_some, ne_cast]
    cases hl : decide (xs[i].Fields.length = o.Values.length) with
    | false => rfl
    | true =>
      simp only [Bool.not_true, cond_false, cond_true]
      exact lp91 (hs _ (List.getElem_mem hi)).l (of_decide_eq_true hl)
theorem g32 {xs : List VGateShape} {o : VGateObject} (hx : xs.length ≤ 1048576) (hs : ∀ x ∈ xs, SSm x) (hO : OSm o) (hk : shapesB xs = true) : G32 xs o = some (filled xs o) := by
  unfold G32 G32n filled
  rw [g52 hO]
  simp only [Option.bind_some]
  rw [g55 hx]
  simp only [Option.bind_some]
  rcases pos_find (fun x : VGateShape => decide (x.Kind = o.Kind)) xs with ⟨e, h⟩ | ⟨i, hi, e, h⟩
  · rw [e, h]; rfl
  · rw [e, h]
    have hn : ¬ (i : Int) < 0 := by omega
    simp only [hn, decide_false, cond_false, Int.natCast_nonneg, decide_true, cond_true]
    rw [get_cast hi]
    simp only [Option.bind_some, ne_cast, g67 hx hs, hk, Bool.not_true, cond_false]
    rw [show decide (o.Values.length = xs[i].Fields.length) = decide (xs[i].Fields.length = o.Values.length) from by simp [eq_comm]]
    cases hl : decide (xs[i].Fields.length = o.Values.length) with
    | false => rfl
    | true =>
      simp only [Bool.not_true, cond_false, cond_true]
      exact lp32 (hs _ (List.getElem_mem hi)).l (of_decide_eq_true hl)
theorem filled_len {xs : List VGateShape} {o : VGateObject} : (filled xs o).Values.length = o.Values.length ∧ (filled xs o).Holds = o.Holds := by
  unfold filled
  cases xs.find? (fun x => decide (x.Kind = o.Kind)) with
  | none => exact ⟨rfl, rfl⟩
  | some x =>
    simp only
    cases hl : decide (x.Fields.length = o.Values.length) with
    | false => exact ⟨rfl, rfl⟩
    | true => exact ⟨fill_len (of_decide_eq_true hl), rfl⟩
theorem filled_osm {xs : List VGateShape} {o : VGateObject} (hO : OSm o) : OSm (filled xs o) := ⟨by rw [filled_len.1]; exact hO.v, by rw [filled_len.2]; exact hO.h⟩
theorem mended_osm {xs : List VGateShape} {ms : List VGateMend} {o : VGateObject} (hO : OSm o) : OSm (mended xs ms o) := ⟨by rw [mended_len.1]; exact hO.v, by rw [mended_len.2]; exact hO.h⟩
def shaped (xs : List VGateShape) (ms : List VGateMend) (o : VGateObject) : VGateObject := cond (mendsB xs ms) (mended xs ms (filled xs o)) o
theorem mends_shapes {xs : List VGateShape} {ms : List VGateMend} (h : mendsB xs ms = true) : shapesB xs = true := by
  unfold mendsB at h
  rw [Bool.and_eq_true] at h
  exact h.1
theorem g27 {xs : List VGateShape} {ms : List VGateMend} {o : VGateObject} (hL : LSm xs ms) (hO : OSm o) : G27 xs ms o = some (shaped xs ms o) := by
  unfold G27 G27n shaped
  rw [g39 hL]
  cases hm : mendsB xs ms with
  | false => simp only [Option.bind_some, Bool.not_false, cond_true, cond_false, g47 hO]
  | true =>
    simp only [Option.bind_some, Bool.not_true, cond_true, cond_false]
    unfold G65 G65n
    simp only [g91 hL.x hL.s hO, Option.bind_some, g48 hL (filled_osm hO) hm]
theorem g28 {xs : List VGateShape} {ms : List VGateMend} {o : VGateObject} (hL : LSm xs ms) (hO : OSm o) : G28 xs ms o = some (shaped xs ms o) := by
  unfold G28 G28n shaped
  rw [g31 hL]
  cases hm : mendsB xs ms with
  | false => simp only [Option.bind_some, Bool.not_false, cond_true, cond_false, g52 hO]
  | true =>
    simp only [Option.bind_some, Bool.not_true, cond_true, cond_false, g32 hL.x hL.s hO (mends_shapes hm), g19 hL (filled_osm hO)]
theorem shaped_osm {xs : List VGateShape} {ms : List VGateMend} {o : VGateObject} (hO : OSm o) : OSm (shaped xs ms o) := by
  unfold shaped
  cases mendsB xs ms with
  | false => exact hO
  | true => exact mended_osm (filled_osm hO)
theorem pure5 (a0 : List VGateShape) (a1 : List VGateMend) (a2 : VGateObject) (h0 : Sm KK (.row .e74 a0)) (h1 : Sm KK (.row .e77 a1)) (k0 : Sm KK (.str a2.Kind)) (k1 : Sm KK (.str a2.Name)) (k2 : Sm KK (.str a2.Team)) (k3 : Sm KK (.row .e9 a2.Values)) (k5 : Sm KK (.row .e9 a2.Holds)) (k6 : Sm KK (.int .i64 a2.Version)) : G5 a0 a1 a2 = some true := by
  unfold G5 G5n
  have hA := sm_GateShapeS_of h0
  have hB := sm_GateMendS_of h1
  obtain ⟨r1, e1, q1 | ⟨p1, q1⟩⟩ := sz_GateShapeS hA.1 hA.2 (a := 1048576) (by omega) (by omega)
  · simp only [e1, Option.bind_some, q1, decide_true, cond_true]
  obtain ⟨r2, e2, q2 | ⟨p2, q2⟩⟩ := sz_GateMendS hB.1 hB.2 (a := r1) p1 (by omega)
  · have n1 : ¬ r1 < 0 := by omega
    simp only [e1, e2, Option.bind_some, n1, q2, decide_true, decide_false, cond_true, cond_false]
  obtain ⟨r3, e3, q3 | ⟨p3, q3⟩⟩ := sz_GateObject (sm_obj k0 k1 k2 k3 k5) (a := r2) p2 (by omega)
  · have n1 : ¬ r1 < 0 := by omega
    have n2 : ¬ r2 < 0 := by omega
    simp only [e1, e2, e3, Option.bind_some, n1, n2, q3, decide_true, decide_false, cond_true, cond_false]
  have n1 : ¬ r1 < 0 := by omega
  have n2 : ¬ r2 < 0 := by omega
  have n3 : ¬ r3 < 0 := by omega
  have t1 : s_GateShapeS a0 ≤ 1048576 := by omega
  have t2 : s_GateMendS a1 ≤ 1048576 := by omega
  have t3 : s_GateObject a2 ≤ 1048576 := by omega
  have hL := lsm_of t1 t2
  have hO := osm_of t3
  have w1 := ws_GateShapeS a0
  have w2 := ws_GateMendS a1
  have hR : OSm (shaped a0 a1 a2) := shaped_osm hO
  obtain ⟨ys, m1⟩ := markO_GateShapeS (xs := a0) (k := 1) (by omega) (by omega)
  obtain ⟨zs, m2⟩ := markO_GateMendS (xs := a1) (k := 1 + (w_GateShapeS a0 : Int)) (by omega) (by omega)
  obtain ⟨v1, v2, k', m3, m4, _⟩ := markO hO (k := 1 + (w_GateShapeS a0 : Int) + (w_GateMendS a1 : Int)) (by omega) (by omega)
  obtain ⟨u1, u2, k2', s1, s2, s3⟩ := markO hR (k := 1) (by omega) (by omega)
  have n4 : ¬ k' < 0 := by omega
  have n5 : ¬ k2' < 0 := by omega
  simp only [e1, e2, e3, Option.bind_some, n1, n2, n3, decide_false, cond_false, to_GateShapeS t1, to_GateMendS t2, to_GateObject t3, g27 hL hO, g28 hL hO, eqO hO, eqO hR, eq_GateShapeS (xs := a0) (by omega), eq_GateMendS (xs := a1) (by omega), Bool.not_true, m1, m2, m3, s1, s3, n4, n5, bne_self_eq_false]
end Go.Proofs.Ytkiognopoigbhaa.Ab

