/- The plain law: names, places, what a list holds, names in order. -/
import Derived.Test.YtjodpeldfebhfaaGreatP5
set_option linter.unusedVariables false
set_option linter.unusedSimpArgs false
namespace Go.Proofs.YtjodpeldfebhfaaGreat.Ab
open Go Go.RowKit

/-! ### Names -/
def bOk (c : Int) : Bool := (decide (97 ≤ c) && decide (c ≤ 122)) || (decide (48 ≤ c) && decide (c ≤ 57)) || c == 45
theorem g77 (c : Int) : G77 c = some (bOk c) := by
  unfold G77 G77n bOk
  by_cases h1 : 97 ≤ c <;> by_cases h2 : c ≤ 122 <;> by_cases h3 : 48 ≤ c <;> by_cases h4 : c ≤ 57 <;> simp [h1, h2, h3, h4]
theorem g84 (c : Int) : G84 c = some (bOk c) := g77 c
def allB (s : ByteArray) (i : Nat) : Bool := allN (fun j => bOk (sbt s (j : Int))) s.size i
theorem lp50 {s : ByteArray} (hs : s.size ≤ 281474976710656) : LP50_0 fuel (s, 0) = some (allB s 0) :=
  lp_idx (st := fun i => (s, (i : Int))) (val := fun i => some (allB s i)) s.size (fun rec => by simp [r50_0, allB, allN_end]) (fun rec i hi hr => by
    rw [← wrap_nat (by omega)] at hr
    have h1 : (i : Int) < (s.size : Int) := by omega
    simp only [r50_0, h1, decide_true, cond_true, Int.natCast_nonneg, g77, Option.bind_some]
    rw [show allB s i = _ from allN_step hi]
    cases hb : bOk (sbt s (i : Int)) with
    | true => simpa [allB] using hr
    | false => rfl) fuel 0 (Nat.zero_le _) (by have := fuel_big; omega)
theorem lp64 {s : ByteArray} (hs : s.size ≤ 281474976710656) : LP64_0 fuel (s, (s.size : Int), 0) = some (allB s 0) :=
  lp_idx (st := fun i => (s, (s.size : Int), (i : Int))) (val := fun i => some (allB s i)) s.size (fun rec => by simp [r64_0, allB, allN_end]) (fun rec i hi hr => by
    rw [← wrap_nat (by omega)] at hr
    have h1 : (i : Int) < (s.size : Int) := by omega
    simp only [r64_0, h1, decide_true, cond_true, Int.natCast_nonneg, g84, Option.bind_some]
    rw [show allB s i = _ from allN_step hi]
    cases hb : bOk (sbt s (i : Int)) with
    | true => simpa [allB] using hr
    | false => rfl) fuel 0 (Nat.zero_le _) (by have := fuel_big; omega)
def nmB (s : ByteArray) : Bool := decide (1 ≤ s.size) && (decide (s.size ≤ 16) && allB s 0)
theorem g51 (a b c : Int) : G51 a b c = some (decide (b ≤ a) && decide (a ≤ c)) := by
  unfold G51 G51n
  by_cases h : b ≤ a <;> simp [h]
theorem g50 (s : ByteArray) : G50 s = some (nmB s) := by
  unfold G50 G50n nmB
  rw [g51]
  by_cases h1 : 1 ≤ s.size
  · by_cases h2 : s.size ≤ 16
    · have e1 : (1 : Int) ≤ (s.size : Int) := by omega
      have e2 : (s.size : Int) ≤ 16 := by omega
      simp only [e1, e2, h1, h2, decide_true, Bool.and_self, Option.bind_some, Bool.not_true, cond_false, Bool.true_and]
      exact lp50 (by omega)
    · have e2 : ¬ (s.size : Int) ≤ 16 := by omega
      simp [e2, h2]
  · have e1 : ¬ (1 : Int) ≤ (s.size : Int) := by omega
    simp [e1, h1]
theorem g31 (s : ByteArray) : G31 s = some (nmB s) := by
  unfold G31 G31n nmB
  by_cases h1 : 1 ≤ s.size
  · by_cases h2 : s.size ≤ 16
    · have e1 : (s.size : Int) ≥ 1 := by omega
      have e2 : (s.size : Int) ≤ 16 := by omega
      have : G64 s = some (allB s 0) := lp64 (by omega)
      simp [e1, e2, h1, h2, this]
    · have e2 : ¬ (s.size : Int) ≤ 16 := by omega
      simp [e2, h2]
  · have e1 : ¬ (1 : Int) ≤ (s.size : Int) := by omega
    simp [e1, h1]
theorem nm_ne {s : ByteArray} (h : nmB s = true) : s ≠ ⟨#[]⟩ := fun e => by subst e; simp [nmB] at h; exact absurd h.1 (by decide)
theorem nm_nil : nmB ⟨#[]⟩ = false := rfl

/-! ### Places -/
def posL {α : Type} (p : α → Bool) : List α → Nat → Int
  | [], _ => -1
  | x :: r, i => cond (p x) (i : Int) (posL p r (i + 1))
theorem posL_step {α : Type} {p : α → Bool} {xs : List α} {i : Nat} (h : i < xs.length) : posL p (xs.drop i) i = cond (p xs[i]) (i : Int) (posL p (xs.drop (i + 1)) (i + 1)) := by
  rw [List.drop_eq_getElem_cons h]; rfl
/-- A place: minus one and nothing there, or the first that fits. -/
theorem posL_cases {α : Type} (p : α → Bool) (xs : List α) : (posL p xs 0 = -1 ∧ ∀ x ∈ xs, p x = false) ∨ ∃ i : Nat, ∃ h : i < xs.length, posL p xs 0 = (i : Int) ∧ p xs[i] = true ∧ ∀ j (hj : j < i), p (xs[j]'(by omega)) = false := by
  have key : ∀ (n i : Nat), i ≤ xs.length → xs.length - i ≤ n → (posL p (xs.drop i) i = -1 ∧ ∀ j (hj : j < xs.length), i ≤ j → p xs[j] = false) ∨ ∃ k : Nat, ∃ h : k < xs.length, i ≤ k ∧ posL p (xs.drop i) i = (k : Int) ∧ p xs[k] = true ∧ ∀ j (hj : j < k), i ≤ j → p (xs[j]'(by omega)) = false := by
    intro n
    induction n with
    | zero =>
      intro i hi hn
      have : i = xs.length := by omega
      subst this
      left
      exact ⟨by simp [posL], fun j hj h => by omega⟩
    | succ n ih =>
      intro i hi hn
      rcases Nat.lt_or_ge i xs.length with h | h
      · rw [posL_step h]
        cases hp : p xs[i] with
        | true => right; exact ⟨i, h, Nat.le_refl _, rfl, hp, fun j hj hij => by omega⟩
        | false =>
          rcases ih (i + 1) (by omega) (by omega) with ⟨e, ha⟩ | ⟨k, hk, hik, e, hp2, ha⟩
          · left
            refine ⟨e, fun j hj hij => ?_⟩
            rcases Nat.lt_or_ge i j with h' | h'
            · exact ha j hj h'
            · obtain rfl : i = j := by omega
              exact hp
          · right
            refine ⟨k, hk, by omega, e, hp2, fun j hj hij => ?_⟩
            rcases Nat.lt_or_ge i j with h' | h'
            · exact ha j hj h'
            · obtain rfl : i = j := by omega
              exact hp
      · left
        have : i = xs.length := by omega
        subst this
        exact ⟨by simp [posL], fun j hj h => by omega⟩
  rcases key xs.length 0 (Nat.zero_le _) (by omega) with ⟨e, h⟩ | ⟨k, hk, _, e, h1, h2⟩
  · left
    refine ⟨by simpa using e, fun x hx => ?_⟩
    obtain ⟨i, hi, rfl⟩ := List.mem_iff_getElem.1 hx
    exact h i hi (Nat.zero_le _)
  · right
    exact ⟨k, hk, by simpa using e, h1, fun j hj => h2 j hj (Nat.zero_le _)⟩
theorem pos_lp {α R : Type} {p : α → Bool} {xs : List α} {A : Type} {st : Nat → A} {rnd : (A → Option Int) → A → Option Int} (hl : xs.length ≤ 1048576)
    (hend : ∀ rec, rnd rec (st xs.length) = some (-1))
    (hstep : ∀ rec i (hi : i < xs.length), rnd rec (st i) = cond (p xs[i]) (some (i : Int)) (rec (st (i + 1)))) : lpN rnd fuel (st 0) = some (posL p xs 0) := by
  have := lp_idx (rnd := rnd) (st := st) (val := fun i => some (posL p (xs.drop i) i)) xs.length (fun rec => by rw [hend]; simp [posL]) (fun rec i hi hr => by
    rw [hstep rec i hi, posL_step hi]
    cases p xs[i] with
    | true => rfl
    | false => exact hr) fuel 0 (Nat.zero_le _) (by have := fuel_big; omega)
  simpa using this
theorem g54 {xs : List VGateShape} (h : xs.length ≤ 1048576) (k : ByteArray) : G54 xs k = some (posL (fun x => decide (x.Kind = k)) xs 0) := by
  unfold G54 G54n
  refine pos_lp (R := Int) (rnd := r54_0 fuel) (st := fun i => (xs, k, (i : Int))) h (fun rec => by simp [r54_0]) (fun rec i hi => ?_)
  have hw := wrap_nat (i := i) (by omega)
  have h1 : (i : Int) < (xs.length : Int) := by omega
  simp only [r54_0]
  rw [get_cast hi, hw]
  simp only [h1, decide_true, cond_true, Int.natCast_nonneg, Option.bind_some]
theorem g80 {xs : List VGateShape} (h : xs.length ≤ 1048576) (k : ByteArray) : G80 xs k = some (posL (fun x => decide (x.Kind = k)) xs 0) := by
  unfold G80 G80n
  refine pos_lp (R := Int) (rnd := r80_0 fuel) (st := fun i => (k, xs, (xs.length : Int), (i : Int))) h (fun rec => by simp [r80_0]) (fun rec i hi => ?_)
  have hw := wrap_nat (i := i) (by omega)
  have h1 : (i : Int) < (xs.length : Int) := by omega
  simp only [r80_0]
  rw [get_cast hi, hw]
  simp only [h1, decide_true, cond_true, Int.natCast_nonneg, Option.bind_some]
theorem g90 {xs : List VGateField} (h : xs.length ≤ 1048576) (k : ByteArray) : G90 xs k = some (posL (fun x => decide (x.Name = k)) xs 0) := by
  unfold G90 G90n
  refine pos_lp (R := Int) (rnd := r90_0 fuel) (st := fun i => (xs, k, (i : Int))) h (fun rec => by simp [r90_0]) (fun rec i hi => ?_)
  have hw := wrap_nat (i := i) (by omega)
  have h1 : (i : Int) < (xs.length : Int) := by omega
  simp only [r90_0]
  rw [get_cast hi, hw]
  simp only [h1, decide_true, cond_true, Int.natCast_nonneg, Option.bind_some]
theorem g97 {xs : List VGateField} (h : xs.length ≤ 1048576) (k : ByteArray) : G97 xs k = some (posL (fun x => decide (x.Name = k)) xs 0) := by
  unfold G97 G97n
  refine pos_lp (R := Int) (rnd := r97_0 fuel) (st := fun i => (k, xs, (xs.length : Int), (i : Int))) h (fun rec => by simp [r97_0]) (fun rec i hi => ?_)
  have hw := wrap_nat (i := i) (by omega)
  have h1 : (i : Int) < (xs.length : Int) := by omega
  simp only [r97_0]
  rw [get_cast hi, hw]
  simp only [h1, decide_true, cond_true, Int.natCast_nonneg, Option.bind_some]
theorem g83 {xs : List VGateTeam} (h : xs.length ≤ 1048576) (k : ByteArray) : G83 xs k = some (posL (fun x => decide (x.Name = k)) xs 0) := by
  unfold G83 G83n
  refine pos_lp (R := Int) (rnd := r83_0 fuel) (st := fun i => (k, xs, (xs.length : Int), (i : Int))) h (fun rec => by simp [r83_0]) (fun rec i hi => ?_)
  have hw := wrap_nat (i := i) (by omega)
  have h1 : (i : Int) < (xs.length : Int) := by omega
  simp only [r83_0]
  rw [get_cast hi, hw]
  simp only [h1, decide_true, cond_true, Int.natCast_nonneg, Option.bind_some]

/-! ### What a list holds -/
theorem any_lp {α A : Type} {p : α → Bool} {xs : List α} {st : Nat → A} {rnd : (A → Option Bool) → A → Option Bool} (hl : xs.length ≤ 1048576)
    (hend : ∀ rec, rnd rec (st xs.length) = some false)
    (hstep : ∀ rec i (hi : i < xs.length), rnd rec (st i) = cond (p xs[i]) (some true) (rec (st (i + 1)))) : lpN rnd fuel (st 0) = some (xs.any p) := by
  have := lp_idx (rnd := rnd) (st := st) (val := fun i => some ((xs.drop i).any p)) xs.length (fun rec => by rw [hend]; simp) (fun rec i hi hr => by
    rw [hstep rec i hi, List.drop_eq_getElem_cons hi, List.any_cons]
    cases p xs[i] with
    | true => rfl
    | false => simpa using hr) fuel 0 (Nat.zero_le _) (by have := fuel_big; omega)
  simpa using this
theorem all_lp {α A : Type} {p : α → Bool} {xs : List α} {st : Nat → A} {rnd : (A → Option Bool) → A → Option Bool} (hl : xs.length ≤ 1048576)
    (hend : ∀ rec, rnd rec (st xs.length) = some true)
    (hstep : ∀ rec i (hi : i < xs.length), rnd rec (st i) = cond (p xs[i]) (rec (st (i + 1))) (some false)) : lpN rnd fuel (st 0) = some (xs.all p) := by
  have := lp_idx (rnd := rnd) (st := st) (val := fun i => some ((xs.drop i).all p)) xs.length (fun rec => by rw [hend]; simp) (fun rec i hi hr => by
    rw [hstep rec i hi, List.drop_eq_getElem_cons hi, List.all_cons]
    cases p xs[i] with
    | true => simpa using hr
    | false => rfl) fuel 0 (Nat.zero_le _) (by have := fuel_big; omega)
  simpa using this
def hasB (xs : List ByteArray) (s : ByteArray) : Bool := xs.any fun x => decide (x = s)
theorem has_iff {xs : List ByteArray} {s : ByteArray} : hasB xs s = true ↔ s ∈ xs := by
  unfold hasB
  rw [List.any_eq_true]
  exact ⟨fun ⟨x, h, e⟩ => by simp at e; subst e; exact h, fun h => ⟨s, h, by simp⟩⟩
theorem g91 {xs : List ByteArray} (h : xs.length ≤ 1048576) (s : ByteArray) : G91 xs s = some (hasB xs s) := by
  unfold G91 G91n
  refine any_lp (rnd := r91_0 fuel) (st := fun i => (xs, s, (i : Int))) h (fun rec => by simp [r91_0]) (fun rec i hi => ?_)
  have hw := wrap_nat (i := i) (by omega)
  have h1 : (i : Int) < (xs.length : Int) := by omega
  simp only [r91_0]
  rw [get_cast hi, hw]
  simp only [h1, decide_true, cond_true, Int.natCast_nonneg, Option.bind_some]
theorem lp153 {xs : List ByteArray} (h : xs.length ≤ 1048576) (s : ByteArray) : LP153_0 fuel (s, xs, (xs.length : Int), 0) = some (hasB xs s) := by
  refine any_lp (rnd := r153_0 fuel) (st := fun i => (s, xs, (xs.length : Int), (i : Int))) h (fun rec => by simp [r153_0]) (fun rec i hi => ?_)
  have hw := wrap_nat (i := i) (by omega)
  have h1 : (i : Int) < (xs.length : Int) := by omega
  simp only [r153_0]
  rw [get_cast hi, hw]
  simp only [h1, decide_true, cond_true, Int.natCast_nonneg, Option.bind_some]

/-! ### Names in order -/
def ascAt (xs : List ByteArray) (j : Nat) : Bool := nmB (xs.getD j ⟨#[]⟩) && (decide (j = 0) || slt (xs.getD (j - 1) ⟨#[]⟩) (xs.getD j ⟨#[]⟩))
def ascB (xs : List ByteArray) : Bool := allN (ascAt xs) xs.length 0
theorem g56 {xs : List ByteArray} (h : xs.length ≤ 1048576) : G56 xs = some (ascB xs) :=
  lp_idx (rnd := r56_0 fuel) (st := fun i => (xs, (i : Int))) (val := fun i => some (allN (ascAt xs) xs.length i)) xs.length (fun rec => by simp [r56_0, allN_end]) (fun rec i hi hr => by
    have hw := wrap_nat (i := i) (by omega)
    have h1 : (i : Int) < (xs.length : Int) := by omega
    have hg : xs.getD i ⟨#[]⟩ = xs[i] := by simp [List.getD, hi]
    simp only [r56_0]
    rw [get_cast hi, hw]
    simp only [h1, decide_true, cond_true, Int.natCast_nonneg, Option.bind_some, g50]
    have ha : ascAt xs i = (nmB xs[i] && (decide (i = 0) || slt (xs.getD (i - 1) ⟨#[]⟩) xs[i])) := by unfold ascAt; rw [hg]
    rw [allN_step hi, ha]
    cases hb : nmB xs[i] with
    | false => rfl
    | true =>
      rcases Nat.eq_zero_or_pos i with h0 | h0
      · subst h0
        simpa using hr
      · have hp := wrap_pred h0 (by omega)
        have hg2 : xs.getD (i - 1) ⟨#[]⟩ = xs[i - 1]'(by omega) := by simp [List.getD, show i - 1 < xs.length by omega]
        have h2 : (i : Int) > 0 := by omega
        have h3 : ¬ i = 0 := by omega
        rw [hp, get_cast (show i - 1 < xs.length by omega), hg2]
        simp only [h2, h3, decide_true, decide_false, cond_true, Int.natCast_nonneg, Option.bind_some, Bool.not_true, cond_false, Bool.false_or, Bool.true_and]
        cases slt (xs[i - 1]'(by omega)) xs[i] with
        | true => simpa using hr
        | false => rfl) fuel 0 (Nat.zero_le _) (by have := fuel_big; omega)
theorem g94 {xs : List ByteArray} (h : xs.length ≤ 1048576) : G94 xs = some (ascB xs) :=
  lp_idx (rnd := r94_0 fuel) (st := fun i => (xs, xs, (xs.length : Int), (i : Int))) (val := fun i => some (allN (ascAt xs) xs.length i)) xs.length (fun rec => by simp [r94_0, allN_end]) (fun rec i hi hr => by
    have hw := wrap_nat (i := i) (by omega)
    have h1 : (i : Int) < (xs.length : Int) := by omega
    have hg : xs.getD i ⟨#[]⟩ = xs[i] := by simp [List.getD, hi]
    simp only [r94_0]
    rw [get_cast hi, hw]
    simp only [h1, decide_true, cond_true, Int.natCast_nonneg, Option.bind_some, g31]
    have ha : ascAt xs i = (nmB xs[i] && (decide (i = 0) || slt (xs.getD (i - 1) ⟨#[]⟩) xs[i])) := by unfold ascAt; rw [hg]
    rw [allN_step hi, ha]
    cases hb : nmB xs[i] with
    | false => rfl
    | true =>
      rcases Nat.eq_zero_or_pos i with h0 | h0
      · subst h0
        simpa using hr
      · have hp := wrap_pred h0 (by omega)
        have hg2 : xs.getD (i - 1) ⟨#[]⟩ = xs[i - 1]'(by omega) := by simp [List.getD, show i - 1 < xs.length by omega]
        have h2 : (i : Int) > 0 := by omega
        have h3 : ¬ i = 0 := by omega
        rw [hp, get_cast (show i - 1 < xs.length by omega), hg2]
        simp only [h2, h3, decide_true, decide_false, cond_true, Int.natCast_nonneg, Option.bind_some, Bool.not_true, cond_false, Bool.false_or, Bool.true_and]
        cases slt (xs[i - 1]'(by omega)) xs[i] with
        | true => simpa using hr
        | false => rfl) fuel 0 (Nat.zero_le _) (by have := fuel_big; omega)
end Go.Proofs.YtjodpeldfebhfaaGreat.Ab

/- The plain law: what fits into a field. -/
set_option linter.unusedVariables false
set_option linter.unusedSimpArgs false
namespace Go.Proofs.YtjodpeldfebhfaaGreat.Ab
open Go Go.RowKit

theorem sbt_rng (s : ByteArray) (i : Int) : 0 ≤ sbt s i ∧ sbt s i ≤ 255 := by
  unfold sbt
  split
  · rename_i b h
    have := b.toNat_lt
    omega
  · omega
/-! ### Numbers -/
def pw : Nat → Int
  | 0 => 1
  | i + 1 => 10 * pw i
theorem pw_le : ∀ i < 7, pw i ≤ 1000000 := by decide
def numL (s : ByteArray) : Nat → Nat → Int → Option Int
  | 0, _, acc => some acc
  | k + 1, i, acc => cond (decide (sbt s (i : Int) < 48)) none (cond (decide (sbt s (i : Int) > 57)) none (numL s k (i + 1) (acc * 10 + (sbt s (i : Int) - 48))))
theorem numL_pos {s : ByteArray} : ∀ {k i : Nat} {acc v : Int}, 0 ≤ acc → numL s k i acc = some v → 0 ≤ v
  | 0, _, _, _, h, e => by simp only [numL, Option.some.injEq] at e; omega
  | k + 1, i, acc, v, h, e => by
    simp only [numL] at e
    by_cases h1 : sbt s (i : Int) < 48
    · simp [h1] at e
    · by_cases h2 : sbt s (i : Int) > 57
      · simp [h1, h2] at e
      · simp only [h1, h2, decide_false, cond_false] at e
        exact numL_pos (by omega) e
theorem lp103 {s : ByteArray} (hs : s.size ≤ 7) : ∀ (k i : Nat) (acc : Int) (n : Nat), i + k = s.size → 0 ≤ acc → acc < pw i → k < n → lpN (r103_0 fuel) n (s, acc, (i : Int)) = some ((numL s k i acc).getD (-1)) := by
  intro k
  induction k with
  | zero =>
    intro i acc n hi h0 h1 hn
    rw [lp_open (by omega)]
    have : ¬ (i : Int) < (s.size : Int) := by omega
    simp [r103_0, this, numL]
  | succ k ih =>
    intro i acc n hi h0 h1 hn
    rw [lp_open (by omega)]
    have hlt : (i : Int) < (s.size : Int) := by omega
    have hw := wrap_nat (i := i) (by omega)
    have hp := pw_le i (by omega)
    have hr := sbt_rng s (i : Int)
    simp only [r103_0, hlt, decide_true, cond_true, Int.natCast_nonneg, hw, numL]
    by_cases c1 : sbt s (i : Int) < 48
    · simp [c1]
    · by_cases c2 : sbt s (i : Int) > 57
      · simp [c1, c2]
      · have e1 : IntKind.i64.wrap (acc * 10) = acc * 10 := wrap_id (by omega) (by omega)
        have e2 : IntKind.i64.wrap (sbt s (i : Int)) = sbt s (i : Int) := wrap_id (by omega) (by omega)
        have e3 : IntKind.i64.wrap (acc * 10 + sbt s (i : Int)) = acc * 10 + sbt s (i : Int) := wrap_id (by omega) (by omega)
        have e4 : IntKind.i64.wrap (acc * 10 + sbt s (i : Int) - 48) = acc * 10 + (sbt s (i : Int) - 48) := by rw [wrap_id (by omega) (by omega)]; omega
        simp only [c1, c2, decide_false, cond_false, e1, e2, e3, e4]
        exact ih (i + 1) _ (n - 1) (by omega) (by omega) (by simp only [pw]; omega) (by omega)
theorem lp151 {s : ByteArray} (hs : s.size ≤ 7) : ∀ (k i : Nat) (acc : Int) (n : Nat), i + k = s.size → 0 ≤ acc → acc < pw i → k < n → lpN (r151_0 fuel) n (s, acc, (s.size : Int), (i : Int)) = some (match numL s k i acc with | some v => (v, true) | none => (0, false)) := by
  intro k
  induction k with
  | zero =>
    intro i acc n hi h0 h1 hn
    rw [lp_open (by omega)]
    have : ¬ (i : Int) < (s.size : Int) := by omega
    simp [r151_0, this, numL]
  | succ k ih =>
    intro i acc n hi h0 h1 hn
    rw [lp_open (by omega)]
    have hlt : (i : Int) < (s.size : Int) := by omega
    have hw := wrap_nat (i := i) (by omega)
    have hp := pw_le i (by omega)
    have hr := sbt_rng s (i : Int)
    simp only [r151_0, hlt, decide_true, cond_true, Int.natCast_nonneg, hw, numL]
    by_cases c1 : sbt s (i : Int) < 48
    · simp [c1]
    · by_cases c2 : sbt s (i : Int) > 57
      · simp [c1, c2]
      · have e1 : IntKind.i64.wrap (acc * 10) = acc * 10 := wrap_id (by omega) (by omega)
        have e2 : IntKind.u8.wrap (sbt s (i : Int) - 48) = sbt s (i : Int) - 48 := by
          simp [IntKind.wrap, IntKind.bits, IntKind.signed]
          omega
        have e3 : IntKind.i64.wrap (sbt s (i : Int) - 48) = sbt s (i : Int) - 48 := wrap_id (by omega) (by omega)
        have e4 : IntKind.i64.wrap (acc * 10 + (sbt s (i : Int) - 48)) = acc * 10 + (sbt s (i : Int) - 48) := wrap_id (by omega) (by omega)
        simp only [c1, c2, decide_false, cond_false, e1, e2, e3, e4]
        exact ih (i + 1) _ (n - 1) (by omega) (by omega) (by simp only [pw]; omega) (by omega)
def numB (s : ByteArray) : Option Int := cond (decide (1 ≤ s.size) && decide (s.size ≤ 7)) (cond (decide (1 < s.size) && (sbt s 0 == 48)) none (numL s s.size 0 0)) none
theorem numB_pos {s : ByteArray} {v : Int} (h : numB s = some v) : 0 ≤ v := by
  unfold numB at h
  cases hc : (decide (1 ≤ s.size) && decide (s.size ≤ 7)) with
  | false => rw [hc] at h; cases h
  | true =>
    rw [hc] at h
    cases hd : (decide (1 < s.size) && (sbt s 0 == 48)) with
    | true => rw [hd] at h; cases h
    | false => rw [hd] at h; exact numL_pos (Int.le_refl 0) h
theorem g103 (s : ByteArray) : G103 s = some ((numB s).getD (-1)) := by
  unfold G103 G103n numB
  rw [g51]
  by_cases h1 : 1 ≤ s.size
  · by_cases h2 : s.size ≤ 7
    · have e1 : (1 : Int) ≤ (s.size : Int) := by omega
      have e2 : (s.size : Int) ≤ 7 := by omega
      have e0 : (0 : Int) < (s.size : Int) := by omega
      have hl : LP103_0 fuel (s, 0, 0) = some ((numL s s.size 0 0).getD (-1)) := lp103 h2 s.size 0 0 fuel (by omega) (Int.le_refl _) (by decide) (by have := fuel_big; omega)
      simp only [e1, e2, e0, h1, h2, decide_true, Bool.and_self, Option.bind_some, Bool.not_true, cond_false, cond_true, hl, Int.le_refl]
      by_cases h3 : 1 < s.size
      · have e3 : (s.size : Int) > 1 := by omega
        simp only [h3, e3, decide_true, cond_true, Bool.true_and]
        cases sbt s 0 == 48 <;> rfl
      · have e3 : ¬ (s.size : Int) > 1 := by omega
        simp only [h3, e3, decide_false, cond_false, Bool.false_and]
    · have e2 : ¬ (s.size : Int) ≤ 7 := by omega
      simp [e2, h2]
  · have e1 : ¬ (1 : Int) ≤ (s.size : Int) := by omega
    simp [e1, h1]
theorem g151 (s : ByteArray) : G151 s = some (match numB s with | some v => (v, true) | none => (0, false)) := by
  unfold G151 G151n numB
  by_cases h1 : 1 ≤ s.size
  · by_cases h2 : s.size ≤ 7
    · have e1 : ¬ (s.size : Int) < 1 := by omega
      have e2 : ¬ (s.size : Int) > 7 := by omega
      have e0 : (0 : Int) < (s.size : Int) := by omega
      have hl : LP151_0 fuel (s, 0, (s.size : Int), 0) = some (match numL s s.size 0 0 with | some v => (v, true) | none => (0, false)) := lp151 h2 s.size 0 0 fuel (by omega) (Int.le_refl _) (by decide) (by have := fuel_big; omega)
      simp only [e1, e2, e0, h1, h2, decide_true, decide_false, Bool.and_self, Option.bind_some, Bool.not_true, cond_false, cond_true, hl, Int.le_refl]
      by_cases h3 : 1 < s.size
      · have e3 : (s.size : Int) > 1 := by omega
        simp only [h3, e3, decide_true, cond_true, Bool.true_and]
        cases sbt s 0 == 48 <;> rfl
      · have e3 : ¬ (s.size : Int) > 1 := by omega
        simp only [h3, e3, decide_false, cond_false, Bool.false_and]
        cases sbt s 0 == 48 <;> rfl
    · have e1 : ¬ (s.size : Int) < 1 := by omega
      have e2 : (s.size : Int) > 7 := by omega
      simp [e1, e2, h2]
  · have e1 : (s.size : Int) < 1 := by omega
    simp [e1, h1]
/-! ### Texts -/
def prAt (s : ByteArray) (j : Nat) : Bool := decide (33 ≤ sbt s (j : Int)) && decide (sbt s (j : Int) ≤ 126)
def prB (s : ByteArray) : Bool := allN (prAt s) s.size 0
theorem lp156 {s : ByteArray} (hs : s.size ≤ 1048576) : LP156_0 fuel (s, (s.size : Int), 0) = some (prB s) :=
  lp_idx (st := fun i => (s, (s.size : Int), (i : Int))) (val := fun i => some (allN (prAt s) s.size i)) s.size (fun rec => by simp [r156_0, allN_end]) (fun rec i hi hr => by
    have hw := wrap_nat (i := i) (by omega)
    have h1 : (i : Int) < (s.size : Int) := by omega
    simp only [r156_0, h1, decide_true, cond_true, Int.natCast_nonneg, hw]
    rw [allN_step hi]
    unfold prAt
    by_cases c1 : sbt s (i : Int) < 48 - 15
    · have c1' : sbt s (i : Int) < 33 := by omega
      have c2 : ¬ 33 ≤ sbt s (i : Int) := by omega
      simp [c1', c2]
    · have c1' : ¬ sbt s (i : Int) < 33 := by omega
      have c2 : 33 ≤ sbt s (i : Int) := by omega
      by_cases d1 : sbt s (i : Int) > 126
      · have d2 : ¬ sbt s (i : Int) ≤ 126 := by omega
        simp [c1', c2, d1, d2]
      · have d2 : sbt s (i : Int) ≤ 126 := by omega
        simp only [c1', c2, d1, d2, decide_true, decide_false, cond_false, Bool.true_and]
        exact hr) fuel 0 (Nat.zero_le _) (by have := fuel_big; omega)
theorem lp89 {s : ByteArray} (hs : s.size ≤ 1048576) {a2 a3 a4 a5 a6 a7 a8 a9 a10 a11 a12} : LP89_0 fuel (s, 0, a2, a3, a4, a5, a6, a7, a8, a9, a10, a11, a12) = some (prB s && (!decide (s = ⟨#[]⟩) && (decide (a4 ≤ (s.size : Int)) && decide ((s.size : Int) ≤ a5)))) :=
  lp_idx (st := fun i => (s, (i : Int), a2, a3, a4, a5, a6, a7, a8, a9, a10, a11, a12)) (val := fun i => some (allN (prAt s) s.size i && (!decide (s = ⟨#[]⟩) && (decide (a4 ≤ (s.size : Int)) && decide ((s.size : Int) ≤ a5))))) s.size (fun rec => by
    simp only [r89_0, allN_end, Int.lt_irrefl, decide_false, cond_false, g51, Option.bind_some, Bool.true_and]
    cases decide (s = ⟨#[]⟩) <;> rfl) (fun rec i hi hr => by
    have hw := wrap_nat (i := i) (by omega)
    have h1 : (i : Int) < (s.size : Int) := by omega
    have hg := sbt_rng s (i : Int)
    have e2 : IntKind.i64.wrap (sbt s (i : Int)) = sbt s (i : Int) := wrap_id (by omega) (by omega)
    simp only [r89_0, h1, decide_true, cond_true, Int.natCast_nonneg, hw, g51, e2, Option.bind_some]
    rw [allN_step hi, show prAt s i = (decide (33 ≤ sbt s (i : Int)) && decide (sbt s (i : Int) ≤ 126)) from rfl]
    cases (decide (33 ≤ sbt s (i : Int)) && decide (sbt s (i : Int) ≤ 126)) with
    | true => simpa using hr
    | false => rfl) fuel 0 (Nat.zero_le _) (by have := fuel_big; omega)
/-! ### What fits -/
def fitB (f : VGateField) (s : ByteArray) : Bool :=
  cond (f.Kind == 1) (match numB s with | some v => decide (f.Least ≤ v) && decide (v ≤ f.Most) | none => false)
  (cond (f.Kind == 2) (!decide (s = ⟨#[]⟩) && hasB f.Words s)
  (cond (f.Kind == 3) (prB s && (!decide (s = ⟨#[]⟩) && (decide (f.Least ≤ (s.size : Int)) && decide ((s.size : Int) ≤ f.Most))))
  (cond (f.Kind == 4) (nmB s) false)))
theorem g89 {f : VGateField} {s : ByteArray} (hw : f.Words.length ≤ 1048576) (hs : s.size ≤ 1048576) : G89 f s = some (fitB f s) := by
  unfold G89 G89n fitB
  rw [g103, g91 hw, g50, lp89 hs]
  cases f.Kind == 1 with
  | true =>
    simp only [cond_true, Option.bind_some]
    cases hn : numB s with
    | none => simp
    | some v =>
      have := numB_pos hn
      simp [this, g51]
  | false =>
    simp only [cond_false]
    cases f.Kind == 2 with
    | true =>
      simp only [cond_true, Option.bind_some]
      cases decide (s = ⟨#[]⟩) <;> rfl
    | false =>
      simp only [cond_false]
      cases f.Kind == 3 with
      | true => rfl
      | false =>
        simp only [cond_false]
        cases f.Kind == 4 <;> rfl
theorem num_nil : numB ⟨#[]⟩ = none := rfl
theorem dec_beq (a b : Int) : decide (a = b) = (b == a) := by
  by_cases h : a = b
  · subst h; simp
  · have : ¬ b = a := fun e => h e.symm
    simp [h, this]
theorem g98 {f : VGateField} {s : ByteArray} (hw : f.Words.length ≤ 1048576) (hs : s.size ≤ 1048576) : G98 f s = some (fitB f s) := by
  unfold G98 G98n fitB
  simp only [dec_beq]
  have q1 : ∀ x : VnumberField, x.GateField_Least = f.Least → x.GateField_Most = f.Most → G149 x s = some (match numB s with | some v => decide (f.Least ≤ v) && decide (v ≤ f.Most) | none => false) := fun x e1 e2 => by
    unfold G149 G149n
    rw [g151, e1, e2]
    cases numB s with
    | none => rfl
    | some v =>
      simp only [Option.bind_some, cond_true, ge_iff_le]
      cases decide (f.Least ≤ v) <;> rfl
  have q2 : ∀ x : VwordField, x.GateField_Words = f.Words → G153 x s = some (hasB f.Words s) := fun x e => by
    unfold G153 G153n
    rw [e]
    exact lp153 hw s
  have q3 : ∀ x : VtextField, x.GateField_Least = f.Least → x.GateField_Most = f.Most → G156 x s = some (prB s && (decide (f.Least ≤ (s.size : Int)) && decide ((s.size : Int) ≤ f.Most))) := fun x e1 e2 => by
    unfold G156 G156n
    rw [lp156 hs, e1, e2]
    by_cases c1 : (s.size : Int) < f.Least
    · have c2 : ¬ f.Least ≤ (s.size : Int) := by omega
      simp [c1, c2]
    · have c2 : f.Least ≤ (s.size : Int) := by omega
      by_cases d1 : (s.size : Int) > f.Most
      · have d2 : ¬ (s.size : Int) ≤ f.Most := by omega
        simp [c1, c2, d1, d2]
      · have d2 : (s.size : Int) ≤ f.Most := by omega
        simp [c1, c2, d1, d2]
  have q4 : ∀ x : VlinkField, G159 x s = some (nmB s) := fun x => by
    unfold G159 G159n
    rw [g31]; rfl
  have n1 : decide (s = ⟨#[]⟩) = true → numB s = none := fun h => by rw [of_decide_eq_true h]; exact num_nil
  have n4 : decide (s = ⟨#[]⟩) = true → nmB s = false := fun h => by rw [of_decide_eq_true h]; exact nm_nil
  rw [q1 _ rfl rfl, q2 _ rfl, q3 _ rfl rfl, q4]
  cases f.Kind == 1 with
  | true =>
    simp only [cond_true, Option.bind_some]
    cases hd : decide (s = ⟨#[]⟩) with
    | false => rfl
    | true => rw [n1 hd]; rfl
  | false =>
    simp only [cond_false]
    cases f.Kind == 2 with
    | true =>
      simp only [cond_true, Option.bind_some]
      cases decide (s = ⟨#[]⟩) <;> rfl
    | false =>
      simp only [cond_false]
      cases f.Kind == 3 with
      | true =>
        simp only [cond_true, Option.bind_some]
        cases decide (s = ⟨#[]⟩) <;> cases prB s <;> rfl
      | false =>
        simp only [cond_false]
        cases f.Kind == 4 with
        | false => rfl
        | true =>
          simp only [cond_true, Option.bind_some]
          cases hd : decide (s = ⟨#[]⟩) with
          | false => rfl
          | true => rw [n4 hd]; rfl
end Go.Proofs.YtjodpeldfebhfaaGreat.Ab

/- The plain law: fields and shapes. -/
set_option linter.unusedVariables false
set_option linter.unusedSimpArgs false
namespace Go.Proofs.YtjodpeldfebhfaaGreat.Ab
open Go Go.RowKit

theorem allN_iff {p : Nat → Bool} {len : Nat} : allN p len 0 = true ↔ ∀ j, j < len → p j = true := by
  unfold allN
  rw [List.all_eq_true]
  constructor
  · intro h j hj; exact h j (by rw [List.mem_range'_1]; omega)
  · intro h j hj; rw [List.mem_range'_1] at hj; exact h j (by omega)
/-! ### Maps from texts to numbers -/
theorem keys9 (a b : ByteArray) : keysEq (KK.enc .e9 a) (KK.enc .e9 b) = decide (a = b) := rfl
theorem mval_put (z x : ByteArray) (y : Int) (c : Nat) : ∀ m : List (Nat × ByteArray × Int), mval KK .e9 .e3 z (mput KK .e9 .e3 x y c m) = if z = x then y else mval KK .e9 .e3 z m
  | [] => by
    simp only [mput, mval, mget, keys9]
    by_cases h : z = x
    · subst h; simp
    · have : ¬ x = z := fun e => h e.symm
      simp [h, this]
  | e :: r => by
    have ih := mval_put z x y c r
    simp only [mput, keys9]
    by_cases h1 : e.2.1 = x
    · simp only [h1, decide_true, cond_true]
      by_cases h : z = x
      · subst h; simp [mval, mget, keys9]
      · have : ¬ x = z := fun e => h e.symm
        simp [mval, mget, keys9, h, this, h1]
    · simp only [h1, decide_false, cond_false]
      by_cases h2 : e.2.1 = z
      · have : ¬ z = x := fun e' => h1 (h2.trans e')
        simp [mval, mget, keys9, h2, this]
      · have e1 : ∀ m, mval KK .e9 .e3 z (e :: m) = mval KK .e9 .e3 z m := fun m => by simp [mval, mget, keys9, h2]
        rw [e1, e1, ih]
/-! ### Fields -/
def bareB (f : VGateField) : Bool :=
  cond (f.Kind == 1) (decide (f.Words.length = 0) && (decide (f.To = ⟨#[]⟩) && (f.Role == 0)))
  (cond (f.Kind == 2) ((f.Least == 0) && ((f.Most == 0) && (decide (f.To = ⟨#[]⟩) && ((f.Role == 0) && decide (f.Weighs = ⟨#[]⟩)))))
  (cond (f.Kind == 3) (decide (f.Words.length = 0) && (decide (f.To = ⟨#[]⟩) && ((f.Role == 0) && decide (f.Weighs = ⟨#[]⟩))))
  (cond (f.Kind == 4) ((f.Least == 0) && ((f.Most == 0) && (decide (f.Words.length = 0) && decide (f.Weighs = ⟨#[]⟩)))) false)))
def soundB (ks : List ByteArray) (f : VGateField) : Bool :=
  cond (f.Kind == 1) (decide (0 ≤ f.Least) && (decide (f.Least ≤ f.Most) && (decide (f.Most ≤ 1000000) && (decide (f.Weighs = ⟨#[]⟩) || nmB f.Weighs))))
  (cond (f.Kind == 2) (decide (1 ≤ (f.Words.length : Int)) && (decide ((f.Words.length : Int) ≤ 6) && ascB f.Words))
  (cond (f.Kind == 3) (decide (1 ≤ f.Least) && (decide (f.Least ≤ f.Most) && decide (f.Most ≤ 40)))
  (cond (f.Kind == 4) (hasB ks f.To && (decide (1 ≤ f.Role) && (decide (f.Role ≤ 3) && (decide (f.Default = ⟨#[]⟩) && (!(f.Role == 2) || !f.Must))))) false)))
def defB (f : VGateField) : Bool := decide (f.Default = ⟨#[]⟩) || fitB f f.Default
def fldB (ks : List ByteArray) (f : VGateField) : Bool := nmB f.Name && (bareB f && (soundB ks f && defB f))
structure FSm (f : VGateField) : Prop where
  w : f.Words.length ≤ 1048576
  d : f.Default.size ≤ 1048576
theorem g102 (f : VGateField) : G102 f = some (cond (f.Kind == 1 || (f.Kind == 2 || (f.Kind == 3 || f.Kind == 4))) (bareB f) ((f.Least == 0) && ((f.Most == 0) && (decide (f.Weighs = ⟨#[]⟩) && (decide (f.Words.length = 0) && (decide (f.To = ⟨#[]⟩) && (f.Role == 0))))))) := by
  unfold G102 G102n bareB
  have ew : decide ((f.Words.length : Int) > 0) = !decide (f.Words.length = 0) := by
    by_cases h : f.Words.length = 0
    · simp [h]
    · have : (f.Words.length : Int) > 0 := by omega
      rw [decide_eq_true this, decide_eq_false h]; rfl
  have e1 : (f.Least != 0) = !(f.Least == 0) := rfl
  have e2 : (f.Most != 0) = !(f.Most == 0) := rfl
  rw [ew, e1, e2]
  generalize decide (f.Words.length = 0) = b1
  generalize decide (f.To = ⟨#[]⟩) = b2
  generalize (f.Role == 0) = b3
  generalize decide (f.Weighs = ⟨#[]⟩) = b4
  generalize (f.Least == 0) = b5
  generalize (f.Most == 0) = b6
  by_cases h1 : f.Kind = 1
  · simp only [h1]; cases b1 <;> cases b2 <;> cases b3 <;> cases b4 <;> cases b5 <;> cases b6 <;> rfl
  · by_cases h2 : f.Kind = 2
    · simp only [h2]; cases b1 <;> cases b2 <;> cases b3 <;> cases b4 <;> cases b5 <;> cases b6 <;> rfl
    · by_cases h3 : f.Kind = 3
      · simp only [h3]; cases b1 <;> cases b2 <;> cases b3 <;> cases b4 <;> cases b5 <;> cases b6 <;> rfl
      · by_cases h4 : f.Kind = 4
        · simp only [h4]; cases b1 <;> cases b2 <;> cases b3 <;> cases b4 <;> cases b5 <;> cases b6 <;> rfl
        · have k1 : (f.Kind == 1) = false := by simp [h1]
          have k2 : (f.Kind == 2) = false := by simp [h2]
          have k3 : (f.Kind == 3) = false := by simp [h3]
          have k4 : (f.Kind == 4) = false := by simp [h4]
          have n1 : (f.Kind != 1) = true := by simp [h1]
          have n2 : (f.Kind != 2) = true := by simp [h2]
          rw [k1, k3, k4, k2, n1, n2]
          cases b1 <;> cases b2 <;> cases b3 <;> cases b4 <;> cases b5 <;> cases b6 <;> rfl
theorem pos_has {xs : List VGateShape} {k : ByteArray} : decide (posL (fun x => decide (x.Kind = k)) xs 0 ≥ 0) = hasB (xs.map (·.Kind)) k := by
  rcases posL_cases (fun x : VGateShape => decide (x.Kind = k)) xs with ⟨e, h⟩ | ⟨i, hi, e, h, _⟩
  · rw [e]
    cases hb : hasB (xs.map (·.Kind)) k with
    | false => rfl
    | true =>
      obtain ⟨x, hx, rfl⟩ := List.mem_map.1 (has_iff.1 hb)
      have := h x hx
      simp at this
  · rw [e]
    have : hasB (xs.map (·.Kind)) k = true := has_iff.2 (List.mem_map.2 ⟨xs[i], List.getElem_mem hi, by simpa using h⟩)
    rw [this]
    simp
theorem bare_kind {ks : List ByteArray} {f : VGateField} (b : Bool) : (cond (f.Kind == 1 || (f.Kind == 2 || (f.Kind == 3 || f.Kind == 4))) (bareB f) b && soundB ks f) = (bareB f && soundB ks f) := by
  unfold bareB soundB
  cases f.Kind == 1 <;> cases f.Kind == 2 <;> cases f.Kind == 3 <;> cases f.Kind == 4 <;> simp
theorem g87 {xs : List VGateShape} {f : VGateField} (hx : xs.length ≤ 1048576) (hf : FSm f) : G87 xs f = some (fldB (xs.map (·.Kind)) f) := by
  have key : G87 xs f = some (nmB f.Name && (cond (f.Kind == 1 || (f.Kind == 2 || (f.Kind == 3 || f.Kind == 4))) (bareB f) ((f.Least == 0) && ((f.Most == 0) && (decide (f.Weighs = ⟨#[]⟩) && (decide (f.Words.length = 0) && (decide (f.To = ⟨#[]⟩) && (f.Role == 0)))))) && (defB f && soundB (xs.map (·.Kind)) f))) := by
    unfold G87 G87n
    rw [g50, g102, g89 hf.w hf.d, g50, g56 hf.w, g51, g51, g54 hx]
    simp only [Option.bind_some, pos_has]
    unfold soundB defB
    simp only [ge_iff_le]
    generalize (cond (f.Kind == 1 || (f.Kind == 2 || (f.Kind == 3 || f.Kind == 4))) (bareB f) ((f.Least == 0) && ((f.Most == 0) && (decide (f.Weighs = ⟨#[]⟩) && (decide (f.Words.length = 0) && (decide (f.To = ⟨#[]⟩) && (f.Role == 0)))))) ) = bb
    cases nmB f.Name with
    | false => rfl
    | true =>
      cases bb with
      | false => rfl
      | true =>
        have e2 : (f.Role != 2) = !(f.Role == 2) := rfl
        rw [e2]
        generalize fitB f f.Default = b1
        generalize decide (f.Default = ⟨#[]⟩) = b2
        cases f.Kind == 1 with
        | true =>
          generalize nmB f.Weighs = b3
          generalize decide (f.Weighs = ⟨#[]⟩) = b4
          generalize decide (0 ≤ f.Least) = b5
          generalize decide (f.Least ≤ f.Most) = b6
          generalize decide (f.Most ≤ 1000000) = b7
          cases b1 <;> cases b2 <;> cases b3 <;> cases b4 <;> cases b5 <;> cases b6 <;> cases b7 <;> rfl
        | false =>
          cases f.Kind == 2 with
          | true =>
            generalize ascB f.Words = b3
            generalize decide ((1 : Int) ≤ (f.Words.length : Int)) = b4
            generalize decide ((f.Words.length : Int) ≤ 6) = b5
            cases b1 <;> cases b2 <;> cases b3 <;> cases b4 <;> cases b5 <;> rfl
          | false =>
            cases f.Kind == 3 with
            | true =>
              generalize decide (1 ≤ f.Least) = b5
              generalize decide (f.Least ≤ f.Most) = b6
              generalize decide (f.Most ≤ 40) = b7
              cases b1 <;> cases b2 <;> cases b5 <;> cases b6 <;> cases b7 <;> rfl
            | false =>
              cases f.Kind == 4 with
              | false => cases b1 <;> cases b2 <;> rfl
              | true =>
                generalize hasB (xs.map (·.Kind)) f.To = b3
                generalize decide (1 ≤ f.Role) = b4
                generalize decide (f.Role ≤ 3) = b5
                generalize (f.Role == 2) = b6
                generalize f.Must = b7
                cases b1 <;> cases b2 <;> cases b3 <;> cases b4 <;> cases b5 <;> cases b6 <;> cases b7 <;> rfl
  rw [key]
  unfold fldB
  rw [Bool.and_comm (defB f), ← Bool.and_assoc (cond _ _ _), bare_kind, Bool.and_assoc]
/-! ### The program's fields -/
def linkB (b : Bool) (role : Int) (must : Bool) (d : ByteArray) : Bool := b && (decide (1 ≤ role) && (decide (role ≤ 3) && (decide (d = ⟨#[]⟩) && (!(role == 2) || !must))))
theorem take_any {α : Type} {p : α → Bool} {xs : List α} {i : Nat} (hi : i < xs.length) : (xs.take (i + 1)).any p = ((xs.take i).any p || p xs[i]) := by
  rw [← List.take_append_getElem hi, List.any_append]
  simp
theorem lp160 {ks : List ByteArray} (h : ks.length ≤ 1048576) {a4 a5 a6 a7 a8 a9 a10 a11 a12 a13 a14} : LP160_0 fuel (false, ks, (ks.length : Int), 0, a4, a5, a6, a7, a8, a9, a10, a11, a12, a13, a14) = some (linkB (hasB ks a9) a10 a11 a13) := by
  have := lp_idx (rnd := r160_0 fuel) (st := fun i => ((ks.take i).any (fun x => decide (x = a9)), ks, (ks.length : Int), (i : Int), a4, a5, a6, a7, a8, a9, a10, a11, a12, a13, a14)) (val := fun i => some (linkB (hasB ks a9) a10 a11 a13)) ks.length (fun rec => by
    simp only [r160_0, Int.lt_irrefl, decide_false, cond_false, List.take_length, ge_iff_le]
    unfold linkB hasB
    generalize ks.any (fun x => decide (x = a9)) = b1
    generalize decide (1 ≤ a10) = b2
    generalize decide (a10 ≤ 3) = b3
    generalize decide (a13 = ⟨#[]⟩) = b4
    generalize (a10 == 2) = b5
    cases b1 <;> cases b2 <;> cases b3 <;> cases b4 <;> cases b5 <;> cases a11 <;> rfl) (fun rec i hi hr => by
    have hw := wrap_nat (i := i) (by omega)
    have h1 : (i : Int) < (ks.length : Int) := by omega
    rw [take_any hi] at hr
    simp only [r160_0, h1, decide_true, cond_true, Int.natCast_nonneg, hw]
    rw [get_cast hi]
    simp only [Option.bind_some]
    cases hb : (ks.take i).any (fun x => decide (x = a9)) with
    | true => rw [hb] at hr; exact hr
    | false => rw [hb] at hr; exact hr) fuel 0 (Nat.zero_le _) (by have := fuel_big; omega)
  unfold LP160_0
  simpa using this
def dupB (fs : List VGateField) (j : Nat) : Bool := !allN (fun k => !decide ((fs.getD k ⟨⟨#[]⟩, 0, 0, 0, [], ⟨#[]⟩, 0, false, false, ⟨#[]⟩, ⟨#[]⟩⟩).Name = (fs.getD j ⟨⟨#[]⟩, 0, 0, 0, [], ⟨#[]⟩, 0, false, false, ⟨#[]⟩, ⟨#[]⟩⟩).Name)) j 0
def fAt (fs : List VGateField) (j : Nat) : VGateField := fs.getD j ⟨⟨#[]⟩, 0, 0, 0, [], ⟨#[]⟩, 0, false, false, ⟨#[]⟩, ⟨#[]⟩⟩
theorem fAt_eq {fs : List VGateField} {j : Nat} (h : j < fs.length) : fAt fs j = fs[j] := by simp [fAt, List.getD, h]
def fldsB (ks : List ByteArray) (fs : List VGateField) : Bool := allN (fun j => fldB ks (fAt fs j) && !dupB fs j) fs.length 0
theorem dup_iff {fs : List VGateField} {j : Nat} (h : j < fs.length) : dupB fs j = true ↔ ∃ k, ∃ hk : k < j, (fs[k]'(by omega)).Name = fs[j].Name := by
  unfold dupB
  rw [Bool.not_eq_true', Bool.eq_false_iff, ne_eq, allN_iff]
  have hj := fAt_eq h
  unfold fAt at hj
  constructor
  · intro hn
    exact Classical.byContradiction fun hc => hn fun k hk => by
      have hk2 := fAt_eq (show k < fs.length by omega)
      unfold fAt at hk2
      rw [hj, hk2]
      simp only [Bool.not_eq_true', decide_eq_false_iff_not]
      exact fun e => hc ⟨k, hk, e⟩
  · rintro ⟨k, hk, e⟩ hn
    have hk2 := fAt_eq (show k < fs.length by omega)
    unfold fAt at hk2
    have := hn k hk
    rw [hj, hk2] at this
    simp [e] at this
/-- How often a name has been counted: once where it stands among those before. -/
def Cnt (fs : List VGateField) (i : Nat) (m : List (Nat × ByteArray × Int)) : Prop := ∀ z, (mval KK .e9 .e3 z m = 0 ∧ ∀ k (hk : k < fs.length), k < i → fs[k].Name ≠ z) ∨ (mval KK .e9 .e3 z m = 1 ∧ ∃ k, ∃ hk : k < fs.length, k < i ∧ fs[k].Name = z)
theorem lp95 {ks : List ByteArray} {fs : List VGateField} (hk : ks.length ≤ 1048576) (hl : fs.length ≤ 1048576) (hs : ∀ f ∈ fs, FSm f) : ∀ (n i : Nat) (m : List (Nat × ByteArray × Int)) (c : Nat), i ≤ fs.length → fs.length - i < n → Cnt fs i m → lpN (r95_0 fuel) n (ks, fs, (fs.length : Int), (i : Int), m, c) = some (allN (fun j => fldB ks (fAt fs j) && !dupB fs j) fs.length i) := by
  intro n
  induction n with
  | zero => intro i m c _ h; omega
  | succ n ih =>
    intro i m c hi hn hm
    rw [lp_succ]
    rcases Nat.lt_or_ge i fs.length with h | h
    · have hw := wrap_nat (i := i) (by omega)
      have h1 : (i : Int) < (fs.length : Int) := by omega
      have hf := hs fs[i] (List.getElem_mem h)
      simp only [r95_0, h1, decide_true, cond_true, Int.natCast_nonneg, hw]
      rw [get_cast h, allN_step h, fAt_eq h]
      simp only [Option.bind_some, g31, mval_put, if_true, g98 hf.w hf.d]
      unfold fldB
      cases hnm : nmB fs[i].Name with
      | false => rfl
      | true =>
        simp only [Bool.not_true, cond_false, Bool.true_and]
        rcases hm fs[i].Name with ⟨e0, hno⟩ | ⟨e1, k, hk', hki, ek⟩
        · have hd : dupB fs i = false := by
            rw [Bool.eq_false_iff, ne_eq, dup_iff h]
            rintro ⟨k, hk, e⟩
            exact hno k (by omega) hk e
          have ew : IntKind.i64.wrap (mval KK .e9 .e3 fs[i].Name m + 1) = 1 := by rw [e0]; rfl
          have hc : Cnt fs (i + 1) (mput KK .e9 .e3 fs[i].Name 1 c m) := fun z => by
            rw [mval_put]
            by_cases hz : z = fs[i].Name
            · rw [if_pos hz]
              exact Or.inr ⟨rfl, i, h, by omega, hz.symm⟩
            · rw [if_neg hz]
              rcases hm z with ⟨a, b⟩ | ⟨a, k, hk1, hk2, e⟩
              · refine Or.inl ⟨a, fun k hk hki => ?_⟩
                rcases Nat.lt_or_ge k i with h' | h'
                · exact b k hk h'
                · obtain rfl : k = i := by omega
                  exact fun e => hz e.symm
              · exact Or.inr ⟨a, k, hk1, by omega, e⟩
          have hr := ih (i + 1) _ (mclk KK .e9 .e3 fs[i].Name c m) (by omega) (by omega) hc
          rw [ew, hd]
          have n1 : ¬ (1 : Int) > 1 := by decide
          simp only [n1, decide_false, cond_false, dec_beq, Bool.not_false, Bool.and_true]
          rw [hr]
          have q1 : ∀ x : VnumberField, x.GateField_Words = fs[i].Words → x.GateField_To = fs[i].To → x.GateField_Role = fs[i].Role → G148 x = some (decide (fs[i].Words.length = 0) && (decide (fs[i].To = ⟨#[]⟩) && (fs[i].Role == 0))) := fun x a b d => by
            unfold G148 G148n
            rw [a, b, d]
            have : (((fs[i].Words.length : Nat) : Int) == 0) = decide (fs[i].Words.length = 0) := by
              by_cases h : fs[i].Words.length = 0
              · simp [h]
              · simp [h]
            rw [this]
            cases decide (fs[i].Words.length = 0) <;> cases decide (fs[i].To = ⟨#[]⟩) <;> rfl
          have q2 : ∀ x : VwordField, x.GateField_Least = fs[i].Least → x.GateField_Most = fs[i].Most → x.GateField_To = fs[i].To → x.GateField_Role = fs[i].Role → x.GateField_Weighs = fs[i].Weighs → G152 x = some ((fs[i].Least == 0) && ((fs[i].Most == 0) && (decide (fs[i].To = ⟨#[]⟩) && ((fs[i].Role == 0) && decide (fs[i].Weighs = ⟨#[]⟩))))) := fun x a b d e f => by
            unfold G152 G152n
            rw [a, b, d, e, f]
            cases fs[i].Least == 0 <;> cases fs[i].Most == 0 <;> cases decide (fs[i].To = ⟨#[]⟩) <;> cases fs[i].Role == 0 <;> rfl
          have q3 : ∀ x : VtextField, x.GateField_Words = fs[i].Words → x.GateField_To = fs[i].To → x.GateField_Role = fs[i].Role → x.GateField_Weighs = fs[i].Weighs → G155 x = some (decide (fs[i].Words.length = 0) && (decide (fs[i].To = ⟨#[]⟩) && ((fs[i].Role == 0) && decide (fs[i].Weighs = ⟨#[]⟩)))) := fun x a b d e => by
            unfold G155 G155n
            rw [a, b, d, e]
            have : (((fs[i].Words.length : Nat) : Int) == 0) = decide (fs[i].Words.length = 0) := by
              by_cases h : fs[i].Words.length = 0
              · simp [h]
              · simp [h]
            rw [this]
            cases decide (fs[i].Words.length = 0) <;> cases decide (fs[i].To = ⟨#[]⟩) <;> cases fs[i].Role == 0 <;> rfl
          have q4 : ∀ x : VlinkField, x.GateField_Least = fs[i].Least → x.GateField_Most = fs[i].Most → x.GateField_Words = fs[i].Words → x.GateField_Weighs = fs[i].Weighs → G158 x = some ((fs[i].Least == 0) && ((fs[i].Most == 0) && (decide (fs[i].Words.length = 0) && decide (fs[i].Weighs = ⟨#[]⟩)))) := fun x a b d e => by
            unfold G158 G158n
            rw [a, b, d, e]
            have : (((fs[i].Words.length : Nat) : Int) == 0) = decide (fs[i].Words.length = 0) := by
              by_cases h : fs[i].Words.length = 0
              · simp [h]
              · simp [h]
            rw [this]
            cases fs[i].Least == 0 <;> cases fs[i].Most == 0 <;> cases decide (fs[i].Words.length = 0) <;> rfl
          have s1 : ∀ x : VnumberField, x.GateField_Least = fs[i].Least → x.GateField_Most = fs[i].Most → x.GateField_Weighs = fs[i].Weighs → G150 x ks = some (decide (0 ≤ fs[i].Least) && (decide (fs[i].Least ≤ fs[i].Most) && (decide (fs[i].Most ≤ 1000000) && (decide (fs[i].Weighs = ⟨#[]⟩) || nmB fs[i].Weighs)))) := fun x a b d => by
            unfold G150 G150n
            rw [a, b, d, g31]
            simp only [ge_iff_le, Option.bind_some]
            cases decide (0 ≤ fs[i].Least) <;> cases decide (fs[i].Least ≤ fs[i].Most) <;> cases decide (fs[i].Most ≤ 1000000) <;> cases decide (fs[i].Weighs = ⟨#[]⟩) <;> rfl
          have s2 : ∀ x : VwordField, x.GateField_Words = fs[i].Words → G154 x ks = some (decide (1 ≤ (fs[i].Words.length : Int)) && (decide ((fs[i].Words.length : Int) ≤ 6) && ascB fs[i].Words)) := fun x a => by
            unfold G154 G154n
            rw [a, g94 hf.w]
            simp only [ge_iff_le, Option.bind_some]
            cases decide (1 ≤ (fs[i].Words.length : Int)) <;> cases decide ((fs[i].Words.length : Int) ≤ 6) <;> rfl
          have s3 : ∀ x : VtextField, x.GateField_Least = fs[i].Least → x.GateField_Most = fs[i].Most → G157 x ks = some (decide (1 ≤ fs[i].Least) && (decide (fs[i].Least ≤ fs[i].Most) && decide (fs[i].Most ≤ 40))) := fun x a b => by
            unfold G157 G157n
            rw [a, b]
            simp only [ge_iff_le, Option.bind_some]
            cases decide (1 ≤ fs[i].Least) <;> cases decide (fs[i].Least ≤ fs[i].Most) <;> rfl
          have s4 : ∀ x : VlinkField, x.GateField_To = fs[i].To → x.GateField_Role = fs[i].Role → x.GateField_Must = fs[i].Must → x.GateField_Default = fs[i].Default → G160 x ks = some (linkB (hasB ks fs[i].To) fs[i].Role fs[i].Must fs[i].Default) := fun x a b d e => by
            unfold G160 G160n
            rw [lp160 hk, a, b, d, e]
          rw [q1 _ rfl rfl rfl, q2 _ rfl rfl rfl rfl rfl, q3 _ rfl rfl rfl rfl, q4 _ rfl rfl rfl rfl, s1 _ rfl rfl rfl, s2 _ rfl, s3 _ rfl rfl, s4 _ rfl rfl rfl rfl]
          simp only [Option.bind_some]
          unfold bareB soundB defB linkB
          generalize fitB fs[i] fs[i].Default = b1
          generalize decide (fs[i].Default = ⟨#[]⟩) = b2
          generalize allN (fun j => nmB (fAt fs j).Name && (bareB (fAt fs j) && (soundB ks (fAt fs j) && defB (fAt fs j))) && !dupB fs j) fs.length (i + 1) = R at hr ⊢
          cases fs[i].Kind == 1 with
          | true =>
            simp only [cond_true]
            generalize (decide (fs[i].Words.length = 0) && (decide (fs[i].To = ⟨#[]⟩) && (fs[i].Role == 0))) = x1
            generalize (decide (0 ≤ fs[i].Least) && (decide (fs[i].Least ≤ fs[i].Most) && (decide (fs[i].Most ≤ 1000000) && (decide (fs[i].Weighs = ⟨#[]⟩) || nmB fs[i].Weighs)))) = x2
            cases x1 <;> cases x2 <;> cases b1 <;> cases b2 <;> rfl
          | false =>
            simp only [cond_false]
            cases fs[i].Kind == 2 with
            | true =>
              simp only [cond_true]
              generalize ((fs[i].Least == 0) && ((fs[i].Most == 0) && (decide (fs[i].To = ⟨#[]⟩) && ((fs[i].Role == 0) && decide (fs[i].Weighs = ⟨#[]⟩))))) = x1
              generalize (decide (1 ≤ (fs[i].Words.length : Int)) && (decide ((fs[i].Words.length : Int) ≤ 6) && ascB fs[i].Words)) = x2
              cases x1 <;> cases x2 <;> cases b1 <;> cases b2 <;> rfl
            | false =>
              simp only [cond_false]
              cases fs[i].Kind == 3 with
              | true =>
                simp only [cond_true]
                generalize (decide (fs[i].Words.length = 0) && (decide (fs[i].To = ⟨#[]⟩) && ((fs[i].Role == 0) && decide (fs[i].Weighs = ⟨#[]⟩)))) = x1
                generalize (decide (1 ≤ fs[i].Least) && (decide (fs[i].Least ≤ fs[i].Most) && decide (fs[i].Most ≤ 40))) = x2
                cases x1 <;> cases x2 <;> cases b1 <;> cases b2 <;> rfl
              | false =>
                simp only [cond_false]
                cases fs[i].Kind == 4 with
                | false => rfl
                | true =>
                  simp only [cond_true]
                  generalize ((fs[i].Least == 0) && ((fs[i].Most == 0) && (decide (fs[i].Words.length = 0) && decide (fs[i].Weighs = ⟨#[]⟩)))) = x1
                  generalize hasB ks fs[i].To = x2
                  generalize decide (1 ≤ fs[i].Role) = x3
                  generalize decide (fs[i].Role ≤ 3) = x4
                  generalize (fs[i].Role == 2) = x5
                  generalize fs[i].Must = x6
                  cases x1 <;> cases x2 <;> cases b1 <;> cases b2 <;> cases x3 <;> cases x4 <;> cases x5 <;> cases x6 <;> rfl
        · have hd : dupB fs i = true := (dup_iff h).2 ⟨k, hki, ek⟩
          have ew : IntKind.i64.wrap (mval KK .e9 .e3 fs[i].Name m + 1) = 2 := by rw [e1]; rfl
          rw [ew, hd]
          simp
    · have e : i = fs.length := by omega
      subst e
      simp [r95_0, allN_end]
end Go.Proofs.YtjodpeldfebhfaaGreat.Ab

/- The plain law: shapes. -/
set_option linter.unusedVariables false
set_option linter.unusedSimpArgs false
namespace Go.Proofs.YtjodpeldfebhfaaGreat.Ab
open Go Go.RowKit

theorem fsm_of {f : VGateField} (h : s_GateField f ≤ 1048576) : FSm f := by
  unfold s_GateField at h
  have := s_StringS_len f.Words
  exact ⟨by omega, by omega⟩
structure SSm (x : VGateShape) : Prop where
  l : x.Fields.length ≤ 1048576
  f : ∀ f ∈ x.Fields, FSm f
theorem ssm_of {x : VGateShape} (h : s_GateShape x ≤ 1048576) : SSm x := by
  unfold s_GateShape at h
  have := s_GateFieldS_len x.Fields
  exact ⟨by omega, fun f hf => fsm_of (by have := s_GateFieldS_mem hf; omega)⟩
def kindsOf (xs : List VGateShape) : List ByteArray := xs.map (·.Kind)
def shB (ks : List ByteArray) (x : VGateShape) : Bool := decide (x.Fields.length ≤ 6) && fldsB ks x.Fields
def spB (xs : List VGateShape) (j : Nat) : Bool := ascAt (kindsOf xs) j && (match xs[j]? with | some x => shB (kindsOf xs) x | none => true)
theorem kinds_at {xs : List VGateShape} {i : Nat} (h : i < xs.length) : (kindsOf xs).getD i ⟨#[]⟩ = xs[i].Kind := by simp [kindsOf, List.getD, h]
theorem lp73_2 {rec0 : A73_0 → Option Bool} {rec1 : A73_1 → Option Bool} {xs : List VGateShape} {I : Int} {kind : ByteArray} {fs : List VGateField} {j : Nat} (hl : fs.length ≤ 1048576) (hj : j < fs.length) :
    LP73_2 fuel rec0 rec1 (xs, I, (j : Int), 0, kind, fs) = cond (dupB fs j) (some false) (rec1 (xs, I, ((j + 1 : Nat) : Int), kind, fs)) := by
  have := lp_idx (rnd := r73_2 fuel rec0 rec1) (st := fun k => (xs, I, (j : Int), (k : Int), kind, fs)) (val := fun k => cond (allN (fun k => !decide ((fAt fs k).Name = (fAt fs j).Name)) j k) (rec1 (xs, I, ((j + 1 : Nat) : Int), kind, fs)) (some false)) j (fun rec => by
    have hw := wrap_nat (i := j) (by omega)
    simp only [r73_2, Int.lt_irrefl, decide_false, cond_false, allN_end, cond_true, hw]) (fun rec k hk hr => by
    have hw := wrap_nat (i := k) (by omega)
    have h1 : (k : Int) < (j : Int) := by omega
    simp only [r73_2, h1, decide_true, cond_true, Int.natCast_nonneg, hw]
    rw [get_cast (show k < fs.length by omega), get_cast hj, allN_step hk, fAt_eq hj, fAt_eq (show k < fs.length by omega)]
    simp only [Option.bind_some]
    cases hd : decide ((fs[k]'(by omega)).Name = fs[j].Name) with
    | true => rfl
    | false => simpa [fAt_eq hj] using hr) fuel 0 (Nat.zero_le _) (by have := fuel_big; omega)
  unfold LP73_2
  have hd : dupB fs j = !allN (fun k => !decide ((fAt fs k).Name = (fAt fs j).Name)) j 0 := rfl
  rw [show (0 : Int) = ((0 : Nat) : Int) from rfl, this, hd]
  cases allN (fun k => !decide ((fAt fs k).Name = (fAt fs j).Name)) j 0 <;> rfl
theorem lp73_1 {rec0 : A73_0 → Option Bool} {xs : List VGateShape} {i : Nat} {kind : ByteArray} {fs : List VGateField} (hx : xs.length ≤ 1048576) (hi : i < xs.length) (hl : fs.length ≤ 1048576) (hs : ∀ f ∈ fs, FSm f) :
    LP73_1 fuel rec0 (xs, (i : Int), 0, kind, fs) = cond (fldsB (kindsOf xs) fs) (rec0 (xs, ((i + 1 : Nat) : Int))) (some false) := by
  have := lp_idx (rnd := r73_1 fuel rec0) (st := fun j => (xs, (i : Int), (j : Int), kind, fs)) (val := fun j => cond (allN (fun j => fldB (kindsOf xs) (fAt fs j) && !dupB fs j) fs.length j) (rec0 (xs, ((i + 1 : Nat) : Int))) (some false)) fs.length (fun rec => by
    have hw := wrap_nat (i := i) (by omega)
    simp only [r73_1, Int.lt_irrefl, decide_false, cond_false, allN_end, cond_true, hw]) (fun rec j hj hr => by
    have hw := wrap_nat (i := j) (by omega)
    have h1 : (j : Int) < (fs.length : Int) := by omega
    simp only [r73_1, h1, decide_true, cond_true, Int.natCast_nonneg, lp73_2 hl hj]
    rw [get_cast hj, allN_step hj, fAt_eq hj]
    simp only [Option.bind_some, g87 hx (hs _ (List.getElem_mem hj))]
    rw [show xs.map (·.Kind) = kindsOf xs from rfl]
    cases fldB (kindsOf xs) fs[j] with
    | false => rfl
    | true =>
      cases dupB fs j with
      | true => rfl
      | false => simpa using hr) fuel 0 (Nat.zero_le _) (by have := fuel_big; omega)
  unfold LP73_1
  rw [show (0 : Int) = ((0 : Nat) : Int) from rfl, this]
  rfl
theorem len6 {n : Nat} : decide ((n : Int) > 6) = !decide (n ≤ 6) := by
  by_cases h : n ≤ 6
  · have : ¬ (n : Int) > 6 := by omega
    simp [h, this]
  · have : (n : Int) > 6 := by omega
    rw [decide_eq_true this, decide_eq_false h]; rfl
def shapesB (xs : List VGateShape) : Bool := decide (xs.length ≤ 6) && allN (spB xs) xs.length 0
theorem g73 {xs : List VGateShape} (hx : xs.length ≤ 1048576) (hs : ∀ x ∈ xs, SSm x) : G73 xs = some (shapesB xs) := by
  have hl : LP73_0 fuel (xs, 0) = some (allN (spB xs) xs.length 0) := lp_idx (rnd := r73_0 fuel) (st := fun i => (xs, (i : Int))) (val := fun i => some (allN (spB xs) xs.length i)) xs.length (fun rec => by simp [r73_0, allN_end]) (fun rec i hi hr => by
    have hm := hs xs[i] (List.getElem_mem hi)
    have h1 : (i : Int) < (xs.length : Int) := by omega
    have hg : xs[i]? = some xs[i] := List.getElem?_eq_getElem hi
    simp only [r73_0, h1, decide_true, cond_true, Int.natCast_nonneg, lp73_1 hx hi hm.l hm.f]
    rw [get_cast hi, allN_step hi]
    have he : spB xs i = ((nmB xs[i].Kind && (decide (i = 0) || slt ((kindsOf xs).getD (i - 1) ⟨#[]⟩) xs[i].Kind)) && (decide (xs[i].Fields.length ≤ 6) && fldsB (kindsOf xs) xs[i].Fields)) := by
      unfold spB ascAt shB
      rw [kinds_at hi, hg]
    rw [he]
    simp only [Option.bind_some, g50, len6, lp73_1 hx hi hm.l hm.f]
    rw [hr]
    cases hb : nmB xs[i].Kind with
    | false => rfl
    | true =>
      rcases Nat.eq_zero_or_pos i with h0 | h0
      · subst h0
        cases decide (xs[0].Fields.length ≤ 6) <;> cases fldsB (kindsOf xs) xs[0].Fields <;> simp
      · have hp := wrap_pred h0 (by omega)
        have h2 : (i : Int) > 0 := by omega
        have h3 : ¬ i = 0 := by omega
        rw [hp, get_cast (show i - 1 < xs.length by omega), kinds_at (show i - 1 < xs.length by omega)]
        simp only [h2, h3, decide_true, decide_false, cond_true, Int.natCast_nonneg, Option.bind_some, Bool.not_true, cond_false, Bool.false_or, Bool.true_and]
        cases slt (xs[i - 1]'(by omega)).Kind xs[i].Kind <;> cases decide (xs[i].Fields.length ≤ 6) <;> cases fldsB (kindsOf xs) xs[i].Fields <;> rfl) fuel 0 (Nat.zero_le _) (by have := fuel_big; omega)
  unfold G73 G73n shapesB
  rw [len6, hl]
  cases decide (xs.length ≤ 6) <;> rfl
theorem cnt_nil (fs : List VGateField) : Cnt fs 0 [] := fun z => Or.inl ⟨rfl, fun k hk h => by omega⟩
theorem g95 {ks : List ByteArray} {x : VGateShape} (hk : ks.length ≤ 1048576) (hm : SSm x) : G95 x ks = some (shB ks x) := by
  have hl : LP95_0 fuel (ks, x.Fields, (x.Fields.length : Int), 0, ([] : List (Nat × ByteArray × Int)), 0) = some (fldsB ks x.Fields) := lp95 hk hm.l hm.f fuel 0 [] 0 (Nat.zero_le _) (by have := fuel_big; have := hm.l; omega) (cnt_nil _)
  unfold G95 G95n shB
  rw [len6]
  cases decide (x.Fields.length ≤ 6) with
  | false => rfl
  | true => exact hl
theorem asc_shapes {xs : List VGateShape} : allN (spB xs) xs.length 0 = (ascB (kindsOf xs) && xs.all (fun x => shB (kindsOf xs) x)) := by
  rw [Bool.eq_iff_iff, Bool.and_eq_true, List.all_eq_true]
  unfold ascB
  have hlen : (kindsOf xs).length = xs.length := by simp [kindsOf]
  rw [hlen, allN_iff, allN_iff]
  unfold spB
  constructor
  · intro h
    refine ⟨fun j hj => ?_, fun x hx => ?_⟩
    · have := h j hj
      rw [Bool.and_eq_true] at this
      exact this.1
    · obtain ⟨i, hi, rfl⟩ := List.mem_iff_getElem.1 hx
      have := h i hi
      rw [Bool.and_eq_true, List.getElem?_eq_getElem hi] at this
      exact this.2
  · rintro ⟨h1, h2⟩ j hj
    rw [Bool.and_eq_true, List.getElem?_eq_getElem hj]
    exact ⟨h1 j hj, h2 _ (List.getElem_mem hj)⟩
theorem g79 {xs : List VGateShape} (hx : xs.length ≤ 1048576) (hs : ∀ x ∈ xs, SSm x) : G79 xs = some (shapesB xs) := by
  have hk : (kindsOf xs).length ≤ 1048576 := by simp [kindsOf]; omega
  have h2 : LP79_1 fuel (kindsOf xs, xs, (xs.length : Int), 0) = some (xs.all (fun x => shB (kindsOf xs) x)) := by
    refine all_lp (rnd := r79_1 fuel) (st := fun i => (kindsOf xs, xs, (xs.length : Int), (i : Int))) hx (fun rec => by simp [r79_1]) (fun rec i hi => ?_)
    have hw := wrap_nat (i := i) (by omega)
    have h1 : (i : Int) < (xs.length : Int) := by omega
    simp only [r79_1]
    rw [get_cast hi, hw]
    simp only [h1, decide_true, cond_true, Int.natCast_nonneg, Option.bind_some, g95 hk (hs _ (List.getElem_mem hi))]
    cases shB (kindsOf xs) xs[i] <;> rfl
  have hl : LP79_0 fuel (xs, ([] : List ByteArray), xs, (xs.length : Int), 0) = some (allN (spB xs) xs.length 0) := by
    have := lp_idx (rnd := r79_0 fuel) (st := fun i => (xs, kindsOf (xs.take i), xs, (xs.length : Int), (i : Int))) (val := fun i => some (allN (spB xs) xs.length 0)) xs.length (fun rec => by
      simp only [r79_0, Int.lt_irrefl, decide_false, cond_false, List.take_length, g94 hk, Option.bind_some, h2, asc_shapes]
      cases ascB (kindsOf xs) <;> rfl) (fun rec i hi hr => by
      have hw := wrap_nat (i := i) (by omega)
      have h1 : (i : Int) < (xs.length : Int) := by omega
      have hl : (kindsOf (xs.take i)).length = i := by simp [kindsOf]; omega
      have h3 : (i + 1) * 16 ≤ 140737488355328 := by omega
      simp only [r79_0, h1, decide_true, cond_true, Int.natCast_nonneg, hw]
      rw [get_cast hi]
      simp only [Option.bind_some, hl, List.length_singleton, h3, decide_true, cond_true]
      rw [show kindsOf (xs.take i) ++ [xs[i].Kind] = kindsOf (xs.take (i + 1)) from by unfold kindsOf; rw [← List.take_append_getElem hi, List.map_append]; rfl]
      exact hr) fuel 0 (Nat.zero_le _) (by have := fuel_big; omega)
    unfold LP79_0
    simpa [kindsOf] using this
  unfold G79 G79n shapesB
  have h3 : (xs.length : Int) * 16 ≤ 140737488355328 := by omega
  rw [len6, hl]
  simp only [h3, Int.natCast_nonneg, decide_true, cond_true]
  cases decide (xs.length ≤ 6) <;> rfl
end Go.Proofs.YtjodpeldfebhfaaGreat.Ab

/- The plain law: mends. -/
set_option linter.unusedVariables false
set_option linter.unusedSimpArgs false
namespace Go.Proofs.YtjodpeldfebhfaaGreat.Ab
open Go Go.RowKit

theorem pos_find {α : Type} (p : α → Bool) (xs : List α) : (posL p xs 0 = -1 ∧ xs.find? p = none) ∨ ∃ i : Nat, ∃ h : i < xs.length, posL p xs 0 = (i : Int) ∧ xs.find? p = some xs[i] := by
  rcases posL_cases p xs with ⟨e, h⟩ | ⟨i, hi, e, hp, hb⟩
  · exact Or.inl ⟨e, List.find?_eq_none.2 fun x hx => by simp [h x hx]⟩
  · exact Or.inr ⟨i, hi, e, List.find?_eq_some_iff_getElem.2 ⟨hp, i, hi, rfl, fun j hj => by simp [hb j hj]⟩⟩
def fieldOf (fs : List VGateField) (a : ByteArray) : Option VGateField := fs.find? fun x => decide (x.Name = a)
def plB (fs : List VGateField) (a : ByteArray) : Bool := match fieldOf fs a with
  | some x => x.Kind != 4
  | none => false
theorem g88 {fs : List VGateField} (h : fs.length ≤ 1048576) (a : ByteArray) : G88 fs a = some (plB fs a) := by
  unfold G88 G88n plB fieldOf
  rw [g90 h]
  rcases pos_find (fun x : VGateField => decide (x.Name = a)) fs with ⟨e, h⟩ | ⟨i, hi, e, h⟩
  · rw [e, h]; rfl
  · rw [e, h]
    simp only [Option.bind_some, ge_iff_le, Int.natCast_nonneg, decide_true, cond_true]
    rw [get_cast hi]; rfl
theorem g96 {fs : List VGateField} (h : fs.length ≤ 1048576) (a : ByteArray) : G96 a fs = some (plB fs a) := by
  unfold G96 G96n plB fieldOf
  rw [g97 h]
  rcases pos_find (fun x : VGateField => decide (x.Name = a)) fs with ⟨e, h⟩ | ⟨i, hi, e, h⟩
  · rw [e, h]; rfl
  · rw [e, h]
    simp only [Option.bind_some, ge_iff_le, Int.natCast_nonneg, decide_true, cond_true]
    rw [get_cast hi]; rfl
def putB (fs : List VGateField) (m : VGateMend) : Bool := match fieldOf fs m.Field with
  | some x => fitB x m.Put
  | none => false
theorem tl72 {fs : List VGateField} {m : VGateMend} (h : fs.length ≤ 1048576) (hs : ∀ f ∈ fs, FSm f) (hm : m.Put.size ≤ 1048576) (hp : plB fs m.Field = true) :
    (Option.bind (G90 fs m.Field) fun r => cond (decide (0 ≤ r)) (Option.bind fs[r.toNat]? fun x => Option.bind (G89 x m.Put) fun b => some (b)) none) = some (putB fs m) := by
  unfold putB
  unfold plB at hp
  unfold fieldOf at hp ⊢
  rw [g90 h]
  rcases pos_find (fun x : VGateField => decide (x.Name = m.Field)) fs with ⟨e, h⟩ | ⟨i, hi, e, h⟩
  · rw [h] at hp; cases hp
  · rw [e, h]
    simp only [Option.bind_some, ge_iff_le, Int.natCast_nonneg, decide_true, cond_true]
    have hf := hs fs[i] (List.getElem_mem hi)
    rw [get_cast hi]
    simp only [Option.bind_some, g89 hf.w hm]
theorem tl68 {fs : List VGateField} {m : VGateMend} (h : fs.length ≤ 1048576) (hs : ∀ f ∈ fs, FSm f) (hm : m.Put.size ≤ 1048576) (hp : plB fs m.Field = true) :
    (Option.bind (G97 fs m.Field) fun r => cond (decide (0 ≤ r)) (Option.bind fs[r.toNat]? fun x => Option.bind (G98 x m.Put) fun b => some (b)) none) = some (putB fs m) := by
  unfold putB
  unfold plB at hp
  unfold fieldOf at hp ⊢
  rw [g97 h]
  rcases pos_find (fun x : VGateField => decide (x.Name = m.Field)) fs with ⟨e, h⟩ | ⟨i, hi, e, h⟩
  · rw [h] at hp; cases hp
  · rw [e, h]
    simp only [Option.bind_some, ge_iff_le, Int.natCast_nonneg, decide_true, cond_true]
    have hf := hs fs[i] (List.getElem_mem hi)
    rw [get_cast hi]
    simp only [Option.bind_some, g98 hf.w hm]
def mendB (fs : List VGateField) (m : VGateMend) : Bool :=
  plB fs m.Field && ((decide (m.When = ⟨#[]⟩) || plB fs m.When) && ((decide (m.From = ⟨#[]⟩) || plB fs m.From) && (!decide (m.When = m.Field) && (!decide (m.From = m.Field) && ((!decide (m.When = ⟨#[]⟩) || decide (m.Is = ⟨#[]⟩)) && (!(decide (m.Put = ⟨#[]⟩) == decide (m.From = ⟨#[]⟩)) && (decide (m.Put = ⟨#[]⟩) || putB fs m)))))))
theorem g81 {fs : List VGateField} {m : VGateMend} (h : fs.length ≤ 1048576) (hs : ∀ f ∈ fs, FSm f) (hm : m.Put.size ≤ 1048576) : G81 fs m = some (mendB fs m) := by
  unfold G81 G81n mendB
  rw [g96 h, g96 h, g96 h]
  simp only [Option.bind_some]
  cases hp : plB fs m.Field with
  | false => rfl
  | true =>
    simp only [tl68 h hs hm hp]
    generalize plB fs m.When = b1
    generalize plB fs m.From = b2
    generalize decide (m.When = ⟨#[]⟩) = b3
    generalize decide (m.From = ⟨#[]⟩) = b4
    generalize decide (m.When = m.Field) = b5
    generalize decide (m.From = m.Field) = b6
    generalize decide (m.Is = ⟨#[]⟩) = b7
    generalize decide (m.Put = ⟨#[]⟩) = b8
    generalize putB fs m = b9
    cases b3 <;> cases b4 <;> cases b5 <;> cases b6 <;> cases b1 <;> cases b2 <;> first | rfl | (cases b7 <;> cases b8 <;> cases b9 <;> rfl)
def shapeAt (xs : List VGateShape) (k : ByteArray) : Option VGateShape := xs.find? fun x => decide (x.Kind = k)
def mdB (xs : List VGateShape) (m : VGateMend) : Bool := match shapeAt xs m.Kind with
  | some x => mendB x.Fields m
  | none => false
theorem g74 {xs : List VGateShape} {m : VGateMend} (hx : xs.length ≤ 1048576) (hs : ∀ x ∈ xs, SSm x) (hm : m.Put.size ≤ 1048576) : G74 xs m = some (mdB xs m) := by
  unfold G74 G74n mdB shapeAt
  rw [g54 hx]
  rcases pos_find (fun x : VGateShape => decide (x.Kind = m.Kind)) xs with ⟨e, h⟩ | ⟨i, hi, e, h⟩
  · rw [e, h]; rfl
  · rw [e, h]
    have hn : ¬ (i : Int) < 0 := by omega
    have hm2 := hs xs[i] (List.getElem_mem hi)
    simp only [Option.bind_some, hn, decide_false, cond_false, Int.natCast_nonneg, decide_true, cond_true]
    rw [get_cast hi]
    simp only [Option.bind_some]
    rw [g88 hm2.l, g88 hm2.l, g88 hm2.l]
    unfold mendB
    simp only [Option.bind_some]
    cases hp : plB xs[i].Fields m.Field with
    | false => rfl
    | true =>
      simp only [tl72 hm2.l hm2.f hm hp]
      generalize plB xs[i].Fields m.When = b1
      generalize plB xs[i].Fields m.From = b2
      generalize decide (m.When = ⟨#[]⟩) = b3
      generalize decide (m.From = ⟨#[]⟩) = b4
      generalize decide (m.When = m.Field) = b5
      generalize decide (m.From = m.Field) = b6
      generalize decide (m.Is = ⟨#[]⟩) = b7
      generalize decide (m.Put = ⟨#[]⟩) = b8
      generalize putB xs[i].Fields m = b9
      cases b3 <;> cases b4 <;> cases b5 <;> cases b6 <;> cases b1 <;> cases b2 <;> first | rfl | (cases b7 <;> cases b8 <;> cases b9 <;> rfl)
theorem lp48_0 {xs : List VGateShape} {ms : List VGateMend} (hx : xs.length ≤ 1048576) (hs : ∀ x ∈ xs, SSm x) (hl : ms.length ≤ 1048576) (hm : ∀ m ∈ ms, m.Put.size ≤ 1048576) :
    LP48_0 fuel (xs, ms, 0) = cond (ms.all (mdB xs)) (LP48_1 fuel (xs, ms, 0)) (some false) := by
  have := lp_idx (rnd := r48_0 fuel) (st := fun i => (xs, ms, (i : Int))) (val := fun i => cond ((ms.drop i).all (mdB xs)) (LP48_1 fuel (xs, ms, 0)) (some false)) ms.length (fun rec => by
    simp only [r48_0, Int.lt_irrefl, decide_false, cond_false, List.drop_length, List.all_nil, cond_true]) (fun rec i hi hr => by
    have hw := wrap_nat (i := i) (by omega)
    have h1 : (i : Int) < (ms.length : Int) := by omega
    simp only [r48_0, h1, decide_true, cond_true, Int.natCast_nonneg, hw]
    rw [get_cast hi, List.drop_eq_getElem_cons hi, List.all_cons]
    simp only [Option.bind_some, g74 hx hs (hm _ (List.getElem_mem hi))]
    cases mdB xs ms[i] with
    | false => rfl
    | true => simpa using hr) fuel 0 (Nat.zero_le _) (by have := fuel_big; omega)
  unfold LP48_0
  simpa using this
theorem lp62_0 {xs : List VGateShape} {ms : List VGateMend} (hx : xs.length ≤ 1048576) (hs : ∀ x ∈ xs, SSm x) (hl : ms.length ≤ 1048576) (hm : ∀ m ∈ ms, m.Put.size ≤ 1048576) :
    LP62_0 fuel (xs, ms, ms, (ms.length : Int), 0) = cond (ms.all (mdB xs)) (LP62_1 fuel (ms, xs, (xs.length : Int), 0)) (some false) := by
  have := lp_idx (rnd := r62_0 fuel) (st := fun i => (xs, ms, ms, (ms.length : Int), (i : Int))) (val := fun i => cond ((ms.drop i).all (mdB xs)) (LP62_1 fuel (ms, xs, (xs.length : Int), 0)) (some false)) ms.length (fun rec => by
    simp only [r62_0, Int.lt_irrefl, decide_false, cond_false, List.drop_length, List.all_nil, cond_true]) (fun rec i hi hr => by
    have hw := wrap_nat (i := i) (by omega)
    have h1 : (i : Int) < (ms.length : Int) := by omega
    simp only [r62_0, h1, decide_true, cond_true, Int.natCast_nonneg, hw]
    rw [get_cast hi, List.drop_eq_getElem_cons hi, List.all_cons]
    simp only [Option.bind_some, g80 hx]
    rw [show mdB xs ms[i] = (match xs.find? (fun x => decide (x.Kind = ms[i].Kind)) with | some x => mendB x.Fields ms[i] | none => false) from rfl]
    rcases pos_find (fun x : VGateShape => decide (x.Kind = ms[i].Kind)) xs with ⟨e, h⟩ | ⟨k, hk, e, h⟩
    · rw [e, h]; rfl
    · rw [e, h]
      have hn : ¬ (k : Int) < 0 := by omega
      have hm2 := hs xs[k] (List.getElem_mem hk)
      simp only [Option.bind_some, hn, decide_false, cond_false, Int.natCast_nonneg, decide_true, cond_true]
      rw [get_cast hk]
      simp only [Option.bind_some, g81 hm2.l hm2.f (hm _ (List.getElem_mem hi))]
      cases mendB xs[k].Fields ms[i] with
      | false => rfl
      | true => simpa using hr) fuel 0 (Nat.zero_le _) (by have := fuel_big; omega)
  unfold LP62_0
  simpa using this
end Go.Proofs.YtjodpeldfebhfaaGreat.Ab

/- The plain law: rows of fields, each behind what it needs: the program's search goes deep, the reference takes what is ready. -/
set_option linter.unusedVariables false
set_option linter.unusedSimpArgs false
namespace Go.Proofs.YtjodpeldfebhfaaGreat.Ab
open Go Go.RowKit

/-! ### What a field needs -/
def ndep (m : VGateMend) : List ByteArray := (cond (decide (m.When = ⟨#[]⟩)) [] [m.When]) ++ (cond (decide (m.From = ⟨#[]⟩)) [] [m.From])
def depOne (K y : ByteArray) (m : VGateMend) : List ByteArray := cond (decide (m.Kind = K)) (cond (decide (m.Field = y)) (ndep m) []) []
def depsOf (ms : List VGateMend) (K y : ByteArray) : List ByteArray := ms.flatMap (depOne K y)
theorem depOne_len (K y : ByteArray) (m : VGateMend) : (depOne K y m).length ≤ 2 := by
  unfold depOne ndep
  cases decide (m.Kind = K) <;> cases decide (m.Field = y) <;> cases decide (m.When = ⟨#[]⟩) <;> cases decide (m.From = ⟨#[]⟩) <;> simp
theorem depsOf_len (K y : ByteArray) : ∀ ms : List VGateMend, (depsOf ms K y).length ≤ 2 * ms.length
  | [] => by simp [depsOf]
  | m :: r => by
    have := depsOf_len K y r
    have h2 := depOne_len K y m
    unfold depsOf at this ⊢
    rw [List.flatMap_cons, List.length_append, List.length_cons]; omega
theorem deps_take {ms : List VGateMend} {K y : ByteArray} {i : Nat} (hi : i < ms.length) : depsOf (ms.take (i + 1)) K y = depsOf (ms.take i) K y ++ depOne K y ms[i] := by
  unfold depsOf
  rw [← List.take_append_getElem hi, List.flatMap_append]
  simp
theorem mem_bound {a b c : Nat} (hd : a ≤ 2 * b) (hb : b ≤ c) (hl : c ≤ 1048576) : (a + 1) * 16 ≤ 140737488355328 ∧ (a + 1 + 1) * 16 ≤ 140737488355328 := by omega
theorem g100 {ms : List VGateMend} (hl : ms.length ≤ 1048576) (y K : ByteArray) (fs : List VGateField) : G100 y ms ⟨K, fs⟩ = some (depsOf ms K y) := by
  have := lp_idx (rnd := r100_0 fuel) (st := fun i => (y, (⟨K, fs⟩ : VGateShape), depsOf (ms.take i) K y, ms, (ms.length : Int), (i : Int))) (val := fun i => some (depsOf ms K y)) ms.length (fun rec => by
    simp only [r100_0, Int.lt_irrefl, decide_false, cond_false, List.take_length]) (fun rec i hi hr => by
    have hw := wrap_nat (i := i) (by omega)
    have h1 : (i : Int) < (ms.length : Int) := by omega
    have hd := depsOf_len K y (ms.take i)
    have hd2 : (ms.take i).length ≤ ms.length := by simp only [List.length_take]; exact Nat.min_le_right _ _
    rw [deps_take hi] at hr
    generalize hA : depsOf (ms.take i) K y = A at hr hd ⊢
    obtain ⟨m1, m2⟩ := mem_bound hd hd2 hl
    simp only [r100_0, h1, decide_true, cond_true, Int.natCast_nonneg, hw]
    rw [get_cast hi]
    simp only [Option.bind_some, List.length_append, List.length_singleton, m1, m2, decide_true, cond_true]
    unfold depOne ndep at hr
    generalize hB : rec = R at hr ⊢
    cases h3 : decide (ms[i].Kind = K) with
    | false =>
      rw [h3] at hr
      simp only [cond_false, List.append_nil] at hr
      exact hr
    | true =>
      cases h4 : decide (ms[i].Field = y) with
      | false =>
        rw [h3, h4] at hr
        simp only [cond_false, cond_true, List.append_nil] at hr
        exact hr
      | true =>
        rw [h3, h4] at hr
        cases h5 : decide (ms[i].When = ⟨#[]⟩) <;> cases h6 : decide (ms[i].From = ⟨#[]⟩) <;> rw [h5, h6] at hr <;> simp only [cond_false, cond_true, List.append_nil, List.nil_append, ← List.append_assoc] at hr <;> exact hr) fuel 0 (Nat.zero_le _) (by have := fuel_big; omega)
  unfold G100 G100n LP100_0
  simpa [depsOf] using this
/-! ### Lists -/
theorem nodup_len : ∀ {xs ys : List ByteArray}, xs.Nodup → (∀ x ∈ xs, x ∈ ys) → xs.length ≤ ys.length
  | [], ys, _, _ => Nat.zero_le _
  | x :: r, ys, hn, hs => by
    rw [List.nodup_cons] at hn
    obtain ⟨p, q, rfl⟩ := List.append_of_mem (hs x (List.mem_cons_self ..))
    have h := nodup_len (ys := p ++ q) hn.2 fun z hz => by
      have hm := hs z (List.mem_cons_of_mem _ hz)
      rw [List.mem_append, List.mem_cons] at hm
      rw [List.mem_append]
      rcases hm with hm | hm | hm
      · exact Or.inl hm
      · exact absurd (hm ▸ hz) hn.1
      · exact Or.inr hm
    rw [List.length_append] at h
    rw [List.length_append, List.length_cons, List.length_cons]; omega
theorem count_lt {p q : ByteArray → Bool} {y : ByteArray} : ∀ {xs : List ByteArray}, (∀ x ∈ xs, p x = true → q x = true) → y ∈ xs → p y = false → q y = true → xs.countP p < xs.countP q
  | [], _, h, _, _ => by cases h
  | x :: r, hi, hm, h1, h2 => by
    have hr : ∀ z ∈ r, p z = true → q z = true := fun z hz => hi z (List.mem_cons_of_mem _ hz)
    have hle : r.countP p ≤ r.countP q := List.countP_mono_left hr
    rw [List.countP_cons, List.countP_cons]
    rcases List.mem_cons.1 hm with e | hm
    · subst e
      rw [h1, h2]; simp; omega
    · have := count_lt hr hm h1 h2
      have hx := hi x (List.mem_cons_self ..)
      cases hp : p x with
      | true => rw [hx hp]; simp; omega
      | false => cases q x <;> simp <;> omega
/-- Each stands behind what it needs. -/
def Topo (dp : ByteArray → List ByteArray) (T : List ByteArray) : Prop := ∀ p x s, T = p ++ x :: s → ∀ d ∈ dp x, d ∈ p
theorem topo_nil (dp : ByteArray → List ByteArray) : Topo dp [] := fun p x s e => by cases p <;> cases e
theorem topo_snoc {dp : ByteArray → List ByteArray} {T : List ByteArray} {y : ByteArray} (h : Topo dp T) (hd : ∀ d ∈ dp y, d ∈ T) : Topo dp (T ++ [y]) := by
  intro p x s e d hdx
  rcases List.eq_nil_or_concat s with rfl | ⟨s', z, rfl⟩
  · have := List.append_inj' e rfl
    obtain ⟨e1, e2⟩ := this
    cases e2
    subst e1
    exact hd d hdx
  · have e' : T ++ [y] = (p ++ x :: s') ++ [z] := by simpa using e
    have := List.append_inj' e' rfl
    exact h p x s' this.1 d hdx
def rk : List ByteArray → ByteArray → Nat
  | [], _ => 0
  | x :: r, z => if x = z then 0 else rk r z + 1
theorem rk_at {x : ByteArray} {s : List ByteArray} : ∀ {p : List ByteArray}, x ∉ p → rk (p ++ x :: s) x = p.length
  | [], _ => by simp [rk]
  | a :: p, h => by
    have h1 : ¬ a = x := fun e => h (e ▸ List.mem_cons_self ..)
    have := rk_at (s := s) (p := p) fun hm => h (List.mem_cons_of_mem _ hm)
    simp [rk, h1, this]
theorem rk_in {d : ByteArray} {s : List ByteArray} : ∀ {p : List ByteArray}, d ∈ p → rk (p ++ s) d < p.length
  | a :: p, h => by
    by_cases e : a = d
    · simp [rk, e]
    · rcases List.mem_cons.1 h with e' | h
      · exact absurd e'.symm e
      · have := rk_in (s := s) h
        simp only [List.cons_append, rk, if_neg e, List.length_cons]
        omega
/-- A row that is told whole gives each name a rank. -/
theorem topo_rank {dp : ByteArray → List ByteArray} {T : List ByteArray} (hn : T.Nodup) (ht : Topo dp T) {x d : ByteArray} (hx : x ∈ T) (hd : d ∈ dp x) : rk T d < rk T x := by
  obtain ⟨p, s, rfl⟩ := List.append_of_mem hx
  have hxp : x ∉ p := by
    rw [List.nodup_append] at hn
    intro hm
    exact hn.2.2 x hm x (List.mem_cons_self ..) rfl
  rw [rk_at hxp]
  exact rk_in (ht p x s rfl d hd)
/-! ### The program's search -/
abbrev Mp := List (Nat × ByteArray × Int)
noncomputable def sta (m : Mp) (z : ByteArray) : Int := mval KK .e9 .e3 z m
theorem sta_put (m : Mp) (x : ByteArray) (y : Int) (c : Nat) (z : ByteArray) : sta (mput KK .e9 .e3 x y c m) z = if z = x then y else sta m z := mval_put z x y c m
noncomputable def freeN (N : List ByteArray) (m : Mp) : Nat := N.countP fun z => decide (sta m z = 0)
structure Inv (N : List ByteArray) (dp : ByteArray → List ByteArray) (row : List ByteArray) (m : Mp) : Prop where
  three : ∀ z, sta m z = 0 ∨ sta m z = 1 ∨ sta m z = 2
  mem : ∀ z, z ∈ row ↔ sta m z = 2
  nd : row.Nodup
  sub : ∀ z ∈ row, z ∈ N
  topo : Topo dp row
def Rank (N : List ByteArray) (dp : ByteArray → List ByteArray) (ρ : ByteArray → Nat) : Prop := ∀ x ∈ N, ∀ d ∈ dp x, ρ d < ρ x
def Good (N : List ByteArray) (dp : ByteArray → List ByteArray) (y : ByteArray) (m0 : Mp) (r : List ByteArray × Mp × Bool) : Prop :=
  (r.2.2 = true → Inv N dp r.1 r.2.1 ∧ sta r.2.1 y = 2 ∧ (∀ z, sta r.2.1 z = 1 ↔ sta m0 z = 1) ∧ (∀ z, sta m0 z = 2 → sta r.2.1 z = 2)) ∧
  (r.2.2 = false → ∀ ρ, Rank N dp ρ → (∀ x, sta m0 x = 1 → ρ y < ρ x) → False)
theorem free_le {N : List ByteArray} {dp : ByteArray → List ByteArray} {row : List ByteArray} {m m' : Mp} (h : Inv N dp row m) (h1 : ∀ z, sta m z = 1 → sta m' z = 1) (h2 : ∀ z, sta m z = 2 → sta m' z = 2) : freeN N m' ≤ freeN N m := by
  refine List.countP_mono_left fun z hz hp => ?_
  simp only [decide_eq_true_eq] at hp ⊢
  rcases h.three z with e | e | e
  · exact e
  · have := h1 z e; omega
  · have := h2 z e; omega
section
variable {ms : List VGateMend} {K : ByteArray} {fs : List VGateField} {N : List ByteArray}
theorem dfs_loop (hN : N.length ≤ 1048576) (hdep : ∀ x ∈ N, ∀ d ∈ depsOf ms K x, d ∈ N) (d : Nat)
    (ih : ∀ y row m c, y ∈ N → Inv N (depsOf ms K) row m → freeN N m < d → ∃ row' m' c' ok, G105d fuel d y row m c ms K fs = some (row', m', c', ms, K, fs, ok) ∧ Good N (depsOf ms K) y m (row', m', ok))
    (y : ByteArray) (hy : y ∈ N) (m0 : Mp) (h0 : sta m0 y = 0) (hl : (depsOf ms K y).length ≤ 4194304) :
    ∀ n i row m c, i ≤ (depsOf ms K y).length → (depsOf ms K y).length - i < n → Inv N (depsOf ms K) row m → sta m y = 1 → freeN N m < d → (∀ z, sta m z = 1 ↔ (z = y ∨ sta m0 z = 1)) → (∀ j (hj : j < (depsOf ms K y).length), j < i → sta m (depsOf ms K y)[j] = 2) → (∀ z, sta m0 z = 2 → sta m z = 2) →
      ∃ row' m' c' ok, lpN (r105_0 fuel (G105d fuel d)) n (y, depsOf ms K y, ((depsOf ms K y).length : Int), (i : Int), row, m, c, ms, K, fs) = some (row', m', c', ms, K, fs, ok) ∧ Good N (depsOf ms K) y m0 (row', m', ok) := by
  intro n
  induction n with
  | zero => intro i row m c _ h; omega
  | succ n ihn =>
    intro i row m c hi hn hI hy1 hfr h1 hdone h2
    rw [lp_succ]
    rcases Nat.lt_or_ge i (depsOf ms K y).length with h | h
    · have hw := wrap_nat (i := i) (by omega)
      have hlt : (i : Int) < ((depsOf ms K y).length : Int) := by omega
      have hz : (depsOf ms K y)[i] ∈ depsOf ms K y := List.getElem_mem h
      obtain ⟨row', m', c', ok, e, hg⟩ := ih (depsOf ms K y)[i] row m c (hdep y hy _ hz) hI hfr
      simp only [r105_0, hlt, decide_true, cond_true, Int.natCast_nonneg, hw]
      rw [get_cast h]
      simp only [Option.bind_some, e]
      cases ok with
      | false =>
        refine ⟨row', m', c', false, rfl, ?_, fun _ ρ hρ hx => ?_⟩
        · intro hc; cases hc
        · refine hg.2 rfl ρ hρ fun x hx1 => ?_
          have hr := hρ y hy _ hz
          rcases (h1 x).1 hx1 with rfl | hx2
          · exact hr
          · exact Nat.lt_trans hr (hx x hx2)
      | true =>
        obtain ⟨g1, g2, g3, g4⟩ := hg.1 rfl
        simp only [Bool.not_true, cond_false]
        refine ihn (i + 1) row' m' c' (by omega) (by omega) g1 ((g3 y).2 hy1) (Nat.lt_of_le_of_lt (free_le hI (fun z hz => (g3 z).2 hz) g4) hfr) (fun z => (g3 z).trans (h1 z)) (fun j hj hji => ?_) (fun z hz => g4 z (h2 z hz))
        rcases Nat.lt_or_ge j i with h' | h'
        · exact g4 _ (hdone j hj h')
        · obtain rfl : j = i := by omega
          exact g2
    · have e : i = (depsOf ms K y).length := by omega
      subst e
      have hlen : row.length ≤ N.length := nodup_len hI.nd hI.sub
      have m1 : (row.length + 1) * 16 ≤ 140737488355328 := by omega
      simp only [r105_0, Int.lt_irrefl, decide_false, cond_false, List.length_singleton, m1, decide_true, cond_true]
      refine ⟨_, _, _, true, rfl, fun _ => ⟨⟨fun z => ?_, fun z => ?_, ?_, fun z hz => ?_, ?_⟩, ?_, fun z => ?_, fun z hz => ?_⟩, fun hc => by cases hc⟩
      · rw [sta_put]
        by_cases e : z = y
        · simp [e]
        · rw [if_neg e]; exact hI.three z
      · rw [sta_put, List.mem_append, hI.mem]
        by_cases e : z = y
        · subst e; simp
        · rw [if_neg e]; simp [e]
      · rw [List.nodup_append]
        refine ⟨hI.nd, by simp, fun a ha b hb e => ?_⟩
        simp at hb
        subst hb e
        have := (hI.mem a).1 ha
        omega
      · rcases List.mem_append.1 hz with hz | hz
        · exact hI.sub z hz
        · simp at hz; subst hz; exact hy
      · refine topo_snoc hI.topo fun d hd => ?_
        obtain ⟨j, hj, rfl⟩ := List.mem_iff_getElem.1 hd
        exact (hI.mem _).2 (hdone j hj hj)
      · rw [sta_put, if_pos rfl]
      · rw [sta_put]
        by_cases e : z = y
        · subst e; simp [h0]
        · rw [if_neg e, h1]; simp [e]
      · rw [sta_put]
        by_cases e : z = y
        · rw [if_pos e]
        · rw [if_neg e]; exact h2 z hz
theorem dfs (hms : ms.length ≤ 1048576) (hN : N.length ≤ 1048576) (hdep : ∀ x ∈ N, ∀ d ∈ depsOf ms K x, d ∈ N) : ∀ d y row m c, y ∈ N → Inv N (depsOf ms K) row m → freeN N m < d →
    ∃ row' m' c' ok, G105d fuel d y row m c ms K fs = some (row', m', c', ms, K, fs, ok) ∧ Good N (depsOf ms K) y m (row', m', ok) := by
  intro d
  induction d with
  | zero => intro y row m c _ _ h; omega
  | succ d ih =>
    intro y row m c hy hI hfr
    show ∃ row' m' c' ok, B105 fuel (G105d fuel d) y row m c ms K fs = _ ∧ _
    unfold B105
    rw [show mval KK .e9 .e3 y m = sta m y from rfl, g100 hms]
    rcases hI.three y with e | e | e
    · have k1 : (sta m y == 1) = false := by rw [e]; rfl
      have k2 : (sta m y == 2) = false := by rw [e]; rfl
      rw [k1, k2]
      simp only [cond_false, Option.bind_some]
      have hlen := depsOf_len K y ms
      have hst : ∀ z, sta (mput KK .e9 .e3 y 1 c m) z = 1 ↔ (z = y ∨ sta m z = 1) := fun z => by
        rw [sta_put]
        by_cases e' : z = y
        · simp [e']
        · rw [if_neg e']; simp [e']
      have h2 : ∀ z, sta m z = 2 → sta (mput KK .e9 .e3 y 1 c m) z = 2 := fun z hz => by
        rw [sta_put]
        by_cases e' : z = y
        · subst e'; omega
        · rw [if_neg e']; exact hz
      refine dfs_loop (N := N) hN hdep d ih y hy m e (by omega) fuel 0 row _ _ (Nat.zero_le _) (by have := fuel_big; omega) ⟨fun z => ?_, fun z => ?_, hI.nd, hI.sub, hI.topo⟩ ((hst y).2 (Or.inl rfl)) ?_ hst (fun j hj hji => by omega) h2
      · rw [sta_put]
        by_cases e' : z = y
        · simp [e']
        · rw [if_neg e']; exact hI.three z
      · rw [hI.mem, sta_put]
        by_cases e' : z = y
        · subst e'; simp [e]
        · rw [if_neg e']
      · have : freeN N (mput KK .e9 .e3 y 1 c m) < freeN N m := by
          refine count_lt (y := y) (fun z hz hp => ?_) hy ?_ ?_
          · simp only [decide_eq_true_eq] at hp ⊢
            rw [sta_put] at hp
            by_cases e' : z = y
            · rw [if_pos e'] at hp; omega
            · rw [if_neg e'] at hp; exact hp
          · rw [sta_put, if_pos rfl]; rfl
          · rw [e]; rfl
        omega
    · have k1 : (sta m y == 1) = true := by rw [e]; rfl
      rw [k1]
      refine ⟨row, m, c, false, rfl, ?_, ?_⟩
      · intro hc; cases hc
      · intro _ ρ _ hx; exact Nat.lt_irrefl _ (hx y e)
    · have k1 : (sta m y == 1) = false := by rw [e]; rfl
      have k2 : (sta m y == 2) = true := by rw [e]; rfl
      rw [k1, k2]
      refine ⟨row, m, c, true, rfl, ?_, ?_⟩
      · intro _; exact ⟨hI, e, fun z => Iff.rfl, fun z hz => hz⟩
      · intro hc; cases hc
end
end Go.Proofs.YtjodpeldfebhfaaGreat.Ab

/- The plain law: the program's row and the reference's are full together. -/
set_option linter.unusedVariables false
set_option linter.unusedSimpArgs false
namespace Go.Proofs.YtjodpeldfebhfaaGreat.Ab
open Go Go.RowKit

def namesOf (fs : List VGateField) : List ByteArray := fs.map (·.Name)
/-- All fields in an order in which each stands behind what it needs. -/
structure Full (N : List ByteArray) (dp : ByteArray → List ByteArray) (T : List ByteArray) : Prop where
  nd : T.Nodup
  mem : ∀ z, z ∈ T ↔ z ∈ N
  topo : Topo dp T
section
variable {ms : List VGateMend} {K : ByteArray} {fs : List VGateField} {N : List ByteArray}
theorem free_len {m : Mp} : freeN N m ≤ N.length := List.countP_le_length
theorem top_loop (hms : ms.length ≤ 1048576) (hN : N.length ≤ 1048576) (hdep : ∀ x ∈ N, ∀ d ∈ depsOf ms K x, d ∈ N) :
    ∀ n i row m c, i ≤ N.length → N.length - i < n → Inv N (depsOf ms K) row m → (∀ z, sta m z ≠ 1) → (∀ j (hj : j < N.length), j < i → sta m N[j] = 2) →
      ∃ row' ok, lpN (r82_1 fuel) n (N, (N.length : Int), (i : Int), row, m, c, ms, K, fs) = some (row', ok) ∧ (ok = true → Full N (depsOf ms K) row') ∧ (ok = false → ∀ ρ, Rank N (depsOf ms K) ρ → False) := by
  intro n
  induction n with
  | zero => intro i row m c _ h; omega
  | succ n ihn =>
    intro i row m c hi hn hI h1 hdone
    rw [lp_succ]
    rcases Nat.lt_or_ge i N.length with h | h
    · have hw := wrap_nat (i := i) (by omega)
      have hlt : (i : Int) < (N.length : Int) := by omega
      have hz : N[i] ∈ N := List.getElem_mem h
      obtain ⟨row', m', c', ok, e, hg⟩ := dfs (fs := fs) hms hN hdep fuel N[i] row m c hz hI (by have := free_len (N := N) (m := m); have := fuel_big; omega)
      simp only [r82_1, hlt, decide_true, cond_true, Int.natCast_nonneg, hw]
      rw [get_cast h]
      simp only [Option.bind_some, e]
      cases ok with
      | false =>
        refine ⟨[], false, rfl, ?_, fun _ ρ hρ => hg.2 rfl ρ hρ fun x hx => absurd hx (h1 x)⟩
        intro hc; cases hc
      | true =>
        obtain ⟨g1, g2, g3, g4⟩ := hg.1 rfl
        simp only [Bool.not_true, cond_false]
        refine ihn (i + 1) row' m' c' (by omega) (by omega) g1 (fun z hz => h1 z ((g3 z).1 hz)) (fun j hj hji => ?_)
        rcases Nat.lt_or_ge j i with h' | h'
        · exact g4 _ (hdone j hj h')
        · obtain rfl : j = i := by omega
          exact g2
    · have e : i = N.length := by omega
      subst e
      simp only [r82_1, Int.lt_irrefl, decide_false, cond_false]
      refine ⟨row, true, rfl, fun _ => ⟨hI.nd, fun z => ⟨hI.sub z, fun hz => ?_⟩, hI.topo⟩, ?_⟩
      · obtain ⟨j, hj, rfl⟩ := List.mem_iff_getElem.1 hz
        exact (hI.mem _).2 (hdone j hj hj)
      · intro hc; cases hc
theorem g82 (hms : ms.length ≤ 1048576) (hfs : fs.length ≤ 1048576) (hdep : ∀ x ∈ namesOf fs, ∀ d ∈ depsOf ms K x, d ∈ namesOf fs) :
    ∃ row ok, G82 ⟨K, fs⟩ ms = some (row, ok) ∧ (ok = true → Full (namesOf fs) (depsOf ms K) row) ∧ (ok = false → ∀ ρ, Rank (namesOf fs) (depsOf ms K) ρ → False) := by
  have hlen : (namesOf fs).length = fs.length := by simp [namesOf]
  obtain ⟨row, ok, e, h⟩ := top_loop (fs := fs) hms (by omega) hdep fuel 0 [] [] 0 (Nat.zero_le _) (by have := fuel_big; omega)
    ⟨fun z => Or.inl rfl, fun z => ⟨fun h => (by cases h), fun h => (by cases h)⟩, List.nodup_nil, fun z h => (by cases h), topo_nil _⟩ (fun z h => by cases h) (fun j hj h => by omega)
  refine ⟨row, ok, ?_, h⟩
  have key := lp_idx (rnd := r82_0 fuel) (st := fun i => (namesOf (fs.take i), fs, (fs.length : Int), (i : Int), K, fs, ms)) (val := fun i => some (row, ok)) fs.length (fun rec => by
    simp only [r82_0, Int.lt_irrefl, decide_false, cond_false, List.take_length]
    exact e) (fun rec i hi hr => by
    have hw := wrap_nat (i := i) (by omega)
    have h1 : (i : Int) < (fs.length : Int) := by omega
    have hl : (namesOf (fs.take i)).length = i := by simp [namesOf]; omega
    have h3 : (i + 1) * 16 ≤ 140737488355328 := by omega
    simp only [r82_0, h1, decide_true, cond_true, Int.natCast_nonneg, hw]
    rw [get_cast hi]
    simp only [Option.bind_some, hl, List.length_singleton, h3, decide_true, cond_true]
    rw [show namesOf (fs.take i) ++ [fs[i].Name] = namesOf (fs.take (i + 1)) from by unfold namesOf; rw [← List.take_append_getElem hi, List.map_append]; rfl]
    exact hr) fuel 0 (Nat.zero_le _) (by have := fuel_big; omega)
  unfold G82 G82n LP82_0
  simpa [namesOf] using key
/-! ### The reference takes what is ready -/
def readyB (ms : List VGateMend) (K y : ByteArray) (R : List ByteArray) : Bool := (depsOf ms K y).all (hasB R)
theorem ready_cons {m : VGateMend} {r : List VGateMend} {K y : ByteArray} {R : List ByteArray} : readyB (m :: r) K y R = ((depOne K y m).all (hasB R) && readyB r K y R) := by
  unfold readyB depsOf
  rw [List.flatMap_cons, List.all_append]
theorem g92 (hms : ms.length ≤ 1048576) {y : ByteArray} {R : List ByteArray} (hR : R.length ≤ 1048576) : G92 ms K y R = some (readyB ms K y R) := by
  have := lp_idx (rnd := r92_0 fuel) (st := fun i => (ms, K, y, R, (i : Int))) (val := fun i => some (readyB (ms.drop i) K y R)) ms.length (fun rec => by
    simp [r92_0, readyB, depsOf]) (fun rec i hi hr => by
    have hw := wrap_nat (i := i) (by omega)
    have h1 : (i : Int) < (ms.length : Int) := by omega
    simp only [r92_0, h1, decide_true, cond_true, Int.natCast_nonneg, hw]
    rw [get_cast hi, List.drop_eq_getElem_cons hi, ready_cons]
    simp only [Option.bind_some, g91 hR]
    unfold depOne ndep
    rw [hr]
    cases decide (ms[i].Kind = K) with
    | false => simp
    | true =>
      cases decide (ms[i].Field = y) with
      | false => simp
      | true =>
        cases decide (ms[i].When = ⟨#[]⟩) <;> cases decide (ms[i].From = ⟨#[]⟩) <;> simp only [cond_true, cond_false, Bool.not_true, Bool.not_false, List.append_nil, List.nil_append, List.all_cons, List.all_nil, Bool.and_true, Bool.true_and, List.cons_append]
        · cases hasB R ms[i].When <;> cases hasB R ms[i].From <;> simp
        · cases hasB R ms[i].When <;> simp
        · cases hasB R ms[i].From <;> simp) fuel 0 (Nat.zero_le _) (by have := fuel_big; omega)
  unfold G92 G92n LP92_0
  simpa using this
def nextP (ms : List VGateMend) (K : ByteArray) (R : List ByteArray) (f : VGateField) : Bool := !hasB R f.Name && readyB ms K f.Name R
def gr (ms : List VGateMend) (K : ByteArray) (fs : List VGateField) : Nat → List ByteArray → List ByteArray
  | 0, R => R
  | k + 1, R => match fs.find? (nextP ms K R) with
    | some f => gr ms K fs k (R ++ [f.Name])
    | none => gr ms K fs k R
theorem lp75_1 (hms : ms.length ≤ 1048576) (hfs : fs.length ≤ 1048576) {R : List ByteArray} (hR : R.length ≤ 1048576) {rec0 : A75_0 → Option (List (C .e9))} {i : Nat} (hi : i < 4194304) :
    LP75_1 fuel rec0 (ms, R, (i : Int), 0, K, fs) = match fs.find? (nextP ms K R) with
      | some f => rec0 (ms, R ++ [f.Name], ((i + 1 : Nat) : Int), K, fs)
      | none => rec0 (ms, R, ((i + 1 : Nat) : Int), K, fs) := by
  have hw0 := wrap_nat (i := i) (by omega)
  have := lp_idx (rnd := r75_1 fuel rec0) (st := fun j => (ms, R, (i : Int), (j : Int), K, fs)) (val := fun j => match (fs.drop j).find? (nextP ms K R) with
      | some f => rec0 (ms, R ++ [f.Name], ((i + 1 : Nat) : Int), K, fs)
      | none => rec0 (ms, R, ((i + 1 : Nat) : Int), K, fs)) fs.length (fun rec => by
    simp [r75_1, hw0]) (fun rec j hj hr => by
    have hw := wrap_nat (i := j) (by omega)
    have h1 : (j : Int) < (fs.length : Int) := by omega
    have h3 : (R.length + 1) * 16 ≤ 140737488355328 := by omega
    simp only [r75_1, h1, decide_true, cond_true, Int.natCast_nonneg, hw, hw0]
    rw [get_cast hj, List.drop_eq_getElem_cons hj, List.find?_cons]
    simp only [Option.bind_some, g91 hR, g92 hms hR, List.length_singleton, h3, decide_true, cond_true]
    rw [hr]
    unfold nextP
    cases hasB R fs[j].Name <;> cases readyB ms K fs[j].Name R <;> rfl) fuel 0 (Nat.zero_le _) (by have := fuel_big; omega)
  unfold LP75_1
  simpa using this
theorem lp75_0 (hms : ms.length ≤ 1048576) (hfs : fs.length ≤ 1048576) : ∀ k i R n, i + k = fs.length → R.length ≤ i → k < n → lpN (r75_0 fuel) n (ms, R, (i : Int), K, fs) = some (gr ms K fs k R) := by
  intro k
  induction k with
  | zero =>
    intro i R n hi hR hn
    rw [lp_open (by omega)]
    have : ¬ (i : Int) < (fs.length : Int) := by omega
    simp [r75_0, this, gr]
  | succ k ih =>
    intro i R n hi hR hn
    rw [lp_open (by omega)]
    have h1 : (i : Int) < (fs.length : Int) := by omega
    simp only [r75_0, h1, decide_true, cond_true]
    rw [lp75_1 hms hfs (by omega) (by omega)]
    simp only [gr]
    cases fs.find? (nextP ms K R) with
    | none => exact ih (i + 1) R (n - 1) (by omega) (by omega) (by omega)
    | some f => exact ih (i + 1) _ (n - 1) (by omega) (by rw [List.length_append, List.length_singleton]; omega) (by omega)
theorem g75 (hms : ms.length ≤ 1048576) (hfs : fs.length ≤ 1048576) : G75 ⟨K, fs⟩ ms = some (gr ms K fs fs.length []) := by
  unfold G75 G75n
  exact lp75_0 hms hfs fs.length 0 [] fuel (by omega) (Nat.le_refl _) (by have := fuel_big; omega)
structure GInv (N : List ByteArray) (dp : ByteArray → List ByteArray) (R : List ByteArray) : Prop where
  nd : R.Nodup
  sub : ∀ z ∈ R, z ∈ N
  topo : Topo dp R
theorem ready_iff {y : ByteArray} {R : List ByteArray} : readyB ms K y R = true ↔ ∀ d ∈ depsOf ms K y, d ∈ R := by
  unfold readyB
  rw [List.all_eq_true]
  exact ⟨fun h d hd => has_iff.1 (h d hd), fun h d hd => has_iff.2 (h d hd)⟩
theorem next_ginv {R : List ByteArray} {f : VGateField} (h : GInv (namesOf fs) (depsOf ms K) R) (hf : fs.find? (nextP ms K R) = some f) : GInv (namesOf fs) (depsOf ms K) (R ++ [f.Name]) := by
  have hp := List.find?_some hf
  have hm := List.mem_of_find?_eq_some hf
  unfold nextP at hp
  rw [Bool.and_eq_true, Bool.not_eq_true', Bool.eq_false_iff, ne_eq, has_iff, ready_iff] at hp
  refine ⟨?_, fun z hz => ?_, topo_snoc h.topo hp.2⟩
  · rw [List.nodup_append]
    refine ⟨h.nd, by simp, fun a ha b hb e => ?_⟩
    simp at hb
    subst hb e
    exact hp.1 ha
  · rcases List.mem_append.1 hz with hz | hz
    · exact h.sub z hz
    · simp at hz; subst hz; exact List.mem_map.2 ⟨f, hm, rfl⟩
theorem gr_ginv : ∀ k R, GInv (namesOf fs) (depsOf ms K) R → GInv (namesOf fs) (depsOf ms K) (gr ms K fs k R)
  | 0, R, h => h
  | k + 1, R, h => by
    simp only [gr]
    cases hf : fs.find? (nextP ms K R) with
    | none => exact gr_ginv k R h
    | some f => exact gr_ginv k _ (next_ginv h hf)
/-- The first of a list that is not in R. -/
theorem first_out {R : List ByteArray} : ∀ {T : List ByteArray}, (∃ z ∈ T, z ∉ R) → ∃ p x s, T = p ++ x :: s ∧ x ∉ R ∧ ∀ z ∈ p, z ∈ R
  | [], ⟨z, h, _⟩ => by cases h
  | t :: T, ⟨z, h, hz⟩ => by
    by_cases ht : t ∈ R
    · rcases List.mem_cons.1 h with e | h
      · exact absurd (e ▸ ht) hz
      · obtain ⟨p, x, s, e, hx, hp⟩ := first_out (R := R) (T := T) ⟨z, h, hz⟩
        refine ⟨t :: p, x, s, by rw [e]; rfl, hx, fun w hw => ?_⟩
        rcases List.mem_cons.1 hw with rfl | hw
        · exact ht
        · exact hp w hw
    · exact ⟨[], t, T, rfl, ht, fun w hw => by cases hw⟩
theorem next_some {T R : List ByteArray} (hT : Full (namesOf fs) (depsOf ms K) T) (hnd : (namesOf fs).Nodup) (h : GInv (namesOf fs) (depsOf ms K) R) (hl : R.length < (namesOf fs).length) : ∃ f, fs.find? (nextP ms K R) = some f := by
  have hout : ∃ z ∈ T, z ∉ R := Classical.byContradiction fun hc => by
    have : (namesOf fs).length ≤ R.length := nodup_len hnd fun z hz => Classical.byContradiction fun hz2 => hc ⟨z, (hT.mem z).2 hz, hz2⟩
    omega
  obtain ⟨p, x, s, e, hx, hp⟩ := first_out hout
  have hxN : x ∈ namesOf fs := (hT.mem x).1 (by rw [e]; simp)
  obtain ⟨f, hf, rfl⟩ := List.mem_map.1 hxN
  cases hfd : fs.find? (nextP ms K R) with
  | some g => exact ⟨g, rfl⟩
  | none =>
    have := List.find?_eq_none.1 hfd f hf
    refine absurd ?_ this
    unfold nextP
    rw [Bool.and_eq_true, Bool.not_eq_true', Bool.eq_false_iff, ne_eq, has_iff, ready_iff]
    exact ⟨hx, fun d hd => hp d (hT.topo p _ s e d hd)⟩
theorem gr_full {T : List ByteArray} (hT : Full (namesOf fs) (depsOf ms K) T) (hnd : (namesOf fs).Nodup) : ∀ k R, GInv (namesOf fs) (depsOf ms K) R → R.length + k = (namesOf fs).length → (gr ms K fs k R).length = (namesOf fs).length
  | 0, R, h, hl => by simpa [gr] using hl
  | k + 1, R, h, hl => by
    obtain ⟨f, hf⟩ := next_some hT hnd h (by omega)
    simp only [gr, hf]
    exact gr_full hT hnd k _ (next_ginv h hf) (by rw [List.length_append, List.length_singleton]; omega)
theorem ginv_full {R : List ByteArray} (h : GInv (namesOf fs) (depsOf ms K) R) (hl : R.length = (namesOf fs).length) : Full (namesOf fs) (depsOf ms K) R := by
  refine ⟨h.nd, fun z => ⟨h.sub z, fun hz => Classical.byContradiction fun hn => ?_⟩, h.topo⟩
  have : (z :: R).length ≤ (namesOf fs).length := nodup_len (List.nodup_cons.2 ⟨hn, h.nd⟩) fun w hw => by
    rcases List.mem_cons.1 hw with rfl | hw
    · exact hz
    · exact h.sub w hw
  rw [List.length_cons] at this
  omega
/-- The program's search succeeds if and only if the reference's row takes all fields. -/
theorem rows_alike (hms : ms.length ≤ 1048576) (hfs : fs.length ≤ 1048576) (hnd : (namesOf fs).Nodup) (hdep : ∀ x ∈ namesOf fs, ∀ d ∈ depsOf ms K x, d ∈ namesOf fs) :
    ∃ row, G82 ⟨K, fs⟩ ms = some (row, decide ((gr ms K fs fs.length []).length = fs.length)) ∧ ((gr ms K fs fs.length []).length = fs.length → Full (namesOf fs) (depsOf ms K) row) := by
  obtain ⟨row, ok, e, h1, h2⟩ := g82 hms hfs hdep
  have hlen : (namesOf fs).length = fs.length := by simp [namesOf]
  have h0 : GInv (namesOf fs) (depsOf ms K) [] := ⟨List.nodup_nil, fun z h => (by cases h), topo_nil _⟩
  have hok : ok = decide ((gr ms K fs fs.length []).length = fs.length) := by
    cases ok with
    | true =>
      have := gr_full (h1 rfl) hnd fs.length [] h0 (by simp [hlen])
      rw [hlen] at this
      simp [this]
    | false =>
      have hn : ¬ (gr ms K fs fs.length []).length = fs.length := fun hl => by
        have hF := ginv_full (gr_ginv fs.length [] h0) (by rw [hlen]; exact hl)
        exact h2 rfl (rk (gr ms K fs fs.length [])) fun x hx d hd => topo_rank hF.nd hF.topo ((hF.mem x).2 hx) hd
      simp [hn]
  rw [← hok]
  refine ⟨row, e, fun hl => h1 ?_⟩
  rw [hok]
  simp [hl]
end
end Go.Proofs.YtjodpeldfebhfaaGreat.Ab

/- The plain law: mends, all together. -/
set_option linter.unusedVariables false
set_option linter.unusedSimpArgs false
namespace Go.Proofs.YtjodpeldfebhfaaGreat.Ab
open Go Go.RowKit

/-! ### Texts in order differ -/
theorem bl_irrefl : ∀ x : List UInt8, Go.Op.bytesLess x x = false
  | [] => rfl
  | a :: x => by
    have h : ¬ a < a := UInt8.lt_irrefl a
    simp [Go.Op.bytesLess, bl_irrefl x, h]
theorem bl_trans : ∀ {x y z : List UInt8}, Go.Op.bytesLess x y = true → Go.Op.bytesLess y z = true → Go.Op.bytesLess x z = true
  | _, [], _, h, _ => by simp [Go.Op.bytesLess] at h
  | _, _ :: _, [], _, h => by simp [Go.Op.bytesLess] at h
  | [], _ :: _, _ :: _, _, _ => by simp [Go.Op.bytesLess]
  | a :: x, b :: y, c :: z, h1, h2 => by
    simp only [Go.Op.bytesLess, Bool.or_eq_true, Bool.and_eq_true, decide_eq_true_eq, beq_iff_eq] at h1 h2 ⊢
    rcases h1 with h1 | ⟨rfl, h1⟩
    · rcases h2 with h2 | ⟨rfl, h2⟩
      · exact Or.inl (UInt8.lt_trans h1 h2)
      · exact Or.inl h1
    · rcases h2 with h2 | ⟨rfl, h2⟩
      · exact Or.inl h2
      · exact Or.inr ⟨rfl, bl_trans h1 h2⟩
theorem slt_irrefl (a : ByteArray) : slt a a = false := bl_irrefl _
theorem slt_trans {a b c : ByteArray} (h1 : slt a b = true) (h2 : slt b c = true) : slt a c = true := bl_trans h1 h2
/-- Names of which each stands behind the one before it. -/
theorem asc_lt {xs : List ByteArray} (h : ∀ j, 0 < j → j < xs.length → slt (xs.getD (j - 1) ⟨#[]⟩) (xs.getD j ⟨#[]⟩) = true) : ∀ j i, i < j → j < xs.length → slt (xs.getD i ⟨#[]⟩) (xs.getD j ⟨#[]⟩) = true := by
  intro j
  induction j with
  | zero => intro i hi; omega
  | succ j ih =>
    intro i hi hj
    have h1 := h (j + 1) (by omega) hj
    rcases Nat.lt_or_ge i j with h2 | h2
    · exact slt_trans (ih i h2 (by omega)) h1
    · obtain rfl : i = j := by omega
      exact h1
theorem asc_inj {xs : List ByteArray} (h : ∀ j, 0 < j → j < xs.length → slt (xs.getD (j - 1) ⟨#[]⟩) (xs.getD j ⟨#[]⟩) = true) {i j : Nat} (hi : i < xs.length) (hj : j < xs.length) (e : xs.getD i ⟨#[]⟩ = xs.getD j ⟨#[]⟩) : i = j := by
  rcases Nat.lt_trichotomy i j with h1 | h1 | h1
  · have := asc_lt h j i h1 hj
    rw [e, slt_irrefl] at this; cases this
  · exact h1
  · have := asc_lt h i j h1 hi
    rw [e, slt_irrefl] at this; cases this
theorem ascAt_lt {xs : List ByteArray} {j : Nat} (h0 : 0 < j) (h : ascAt xs j = true) : slt (xs.getD (j - 1) ⟨#[]⟩) (xs.getD j ⟨#[]⟩) = true := by
  unfold ascAt at h
  rw [Bool.and_eq_true, Bool.or_eq_true] at h
  rcases h.2 with e | e
  · exact absurd (of_decide_eq_true e) (by omega)
  · exact e
/-! ### Shapes in order -/
structure ShapesOk (xs : List VGateShape) : Prop where
  asc : ascB (kindsOf xs) = true
  fl : ∀ x ∈ xs, fldsB (kindsOf xs) x.Fields = true
theorem shapes_ok {xs : List VGateShape} (h : shapesB xs = true) : ShapesOk xs := by
  unfold shapesB at h
  rw [Bool.and_eq_true, asc_shapes, Bool.and_eq_true, List.all_eq_true] at h
  refine ⟨h.2.1, fun x hx => ?_⟩
  have := h.2.2 x hx
  unfold shB at this
  rw [Bool.and_eq_true] at this
  exact this.2
theorem shape_at {xs : List VGateShape} (h : ShapesOk xs) {x : VGateShape} (hx : x ∈ xs) : shapeAt xs x.Kind = some x := by
  obtain ⟨i, hi, rfl⟩ := List.mem_iff_getElem.1 hx
  have hlen : (kindsOf xs).length = xs.length := by simp [kindsOf]
  have ha : ∀ j, 0 < j → j < (kindsOf xs).length → slt ((kindsOf xs).getD (j - 1) ⟨#[]⟩) ((kindsOf xs).getD j ⟨#[]⟩) = true := fun j h0 hj => by
    have := h.asc
    unfold ascB at this
    exact ascAt_lt h0 (allN_iff.1 this j hj)
  unfold shapeAt
  rw [List.find?_eq_some_iff_getElem]
  refine ⟨by simp, i, hi, rfl, fun j hj => ?_⟩
  simp only [Bool.not_eq_true', decide_eq_false_iff_not]
  intro e
  have := asc_inj ha (i := j) (j := i) (by omega) (by omega) (by rw [kinds_at (show j < xs.length by omega), kinds_at hi]; exact e)
  omega
theorem names_nodup {ks : List ByteArray} {fs : List VGateField} (h : fldsB ks fs = true) : (namesOf fs).Nodup := by
  unfold fldsB at h
  rw [allN_iff] at h
  have hlen : (namesOf fs).length = fs.length := by simp [namesOf]
  unfold List.Nodup
  rw [List.pairwise_iff_getElem]
  intro i j hi hj hij e
  have := h j (by omega)
  rw [Bool.and_eq_true, Bool.not_eq_true', Bool.eq_false_iff, ne_eq, dup_iff (show j < fs.length by omega)] at this
  exact this.2 ⟨i, hij, by simpa [namesOf] using e⟩
theorem pl_mem {fs : List VGateField} {a : ByteArray} (h : plB fs a = true) : a ∈ namesOf fs := by
  unfold plB fieldOf at h
  cases hf : fs.find? (fun x => decide (x.Name = a)) with
  | none => rw [hf] at h; cases h
  | some x =>
    have h1 := List.find?_some hf
    have h2 := List.mem_of_find?_eq_some hf
    simp only [decide_eq_true_eq] at h1
    exact List.mem_map.2 ⟨x, h2, h1⟩
theorem deps_in {xs : List VGateShape} {ms : List VGateMend} (h : ShapesOk xs) (hm : ms.all (mdB xs) = true) {x : VGateShape} (hx : x ∈ xs) : ∀ y ∈ namesOf x.Fields, ∀ d ∈ depsOf ms x.Kind y, d ∈ namesOf x.Fields := by
  intro y hy d hd
  unfold depsOf at hd
  obtain ⟨m, hmm, hd⟩ := List.mem_flatMap.1 hd
  have hmd := List.all_eq_true.1 hm m hmm
  unfold depOne at hd
  cases hk : decide (m.Kind = x.Kind) with
  | false => rw [hk] at hd; cases hd
  | true =>
    cases hf : decide (m.Field = y) with
    | false => rw [hk, hf] at hd; cases hd
    | true =>
      rw [hk, hf] at hd
      simp only [cond_true] at hd
      unfold mdB at hmd
      rw [of_decide_eq_true hk, shape_at h hx] at hmd
      simp only at hmd
      unfold mendB at hmd
      simp only [Bool.and_eq_true, Bool.or_eq_true] at hmd
      unfold ndep at hd
      rcases List.mem_append.1 hd with hd | hd
      · cases hw : decide (m.When = ⟨#[]⟩) with
        | true => rw [hw] at hd; cases hd
        | false =>
          rw [hw] at hd
          simp at hd
          subst hd
          rcases hmd.2.1 with h' | h'
          · rw [hw] at h'; cases h'
          · exact pl_mem h'
      · cases hw : decide (m.From = ⟨#[]⟩) with
        | true => rw [hw] at hd; cases hd
        | false =>
          rw [hw] at hd
          simp at hd
          subst hd
          rcases hmd.2.2.1 with h' | h'
          · rw [hw] at h'; cases h'
          · exact pl_mem h'
def rwB (ms : List VGateMend) (x : VGateShape) : Bool := decide ((gr ms x.Kind x.Fields x.Fields.length []).length = x.Fields.length)
theorem ne_cast (a b : Nat) : ((a : Int) != (b : Int)) = !decide (a = b) := by
  by_cases h : a = b
  · subst h; simp
  · have : ¬ (a : Int) = (b : Int) := by omega
    simp [h, this]
theorem lp48_1 {xs : List VGateShape} {ms : List VGateMend} (hx : xs.length ≤ 1048576) (hs : ∀ x ∈ xs, SSm x) (hl : ms.length ≤ 1048576) : LP48_1 fuel (xs, ms, 0) = some (xs.all (rwB ms)) := by
  refine all_lp (rnd := r48_1 fuel) (st := fun i => (xs, ms, (i : Int))) hx (fun rec => by simp [r48_1]) (fun rec i hi => ?_)
  have hw := wrap_nat (i := i) (by omega)
  have h1 : (i : Int) < (xs.length : Int) := by omega
  have hg : G75 xs[i] ms = some (gr ms xs[i].Kind xs[i].Fields xs[i].Fields.length []) := g75 hl (hs _ (List.getElem_mem hi)).l
  simp only [r48_1]
  rw [get_cast hi, hw]
  simp only [h1, decide_true, cond_true, Int.natCast_nonneg, Option.bind_some, hg, ne_cast]
  rw [show decide ((gr ms xs[i].Kind xs[i].Fields xs[i].Fields.length []).length = xs[i].Fields.length) = rwB ms xs[i] from rfl]
  cases rwB ms xs[i] <;> rfl
theorem lp62_1 {xs : List VGateShape} {ms : List VGateMend} (hx : xs.length ≤ 1048576) (hs : ∀ x ∈ xs, SSm x) (hl : ms.length ≤ 1048576) (h : ShapesOk xs) (hm : ms.all (mdB xs) = true) : LP62_1 fuel (ms, xs, (xs.length : Int), 0) = some (xs.all (rwB ms)) := by
  refine all_lp (rnd := r62_1 fuel) (st := fun i => (ms, xs, (xs.length : Int), (i : Int))) hx (fun rec => by simp [r62_1]) (fun rec i hi => ?_)
  have hw := wrap_nat (i := i) (by omega)
  have h1 : (i : Int) < (xs.length : Int) := by omega
  have hi' : xs[i] ∈ xs := List.getElem_mem hi
  obtain ⟨row, e, _⟩ := rows_alike (K := xs[i].Kind) hl (hs _ hi').l (names_nodup (h.fl _ hi')) (deps_in h hm hi')
  have hg : G82 xs[i] ms = some (row, rwB ms xs[i]) := e
  simp only [r62_1]
  rw [get_cast hi, hw]
  simp only [h1, decide_true, cond_true, Int.natCast_nonneg, Option.bind_some, hg]
  cases rwB ms xs[i] <;> rfl
theorem len12 {n : Nat} : decide ((n : Int) > 12) = !decide (n ≤ 12) := by
  by_cases h : n ≤ 12
  · have : ¬ (n : Int) > 12 := by omega
    simp [h, this]
  · have : (n : Int) > 12 := by omega
    rw [decide_eq_true this, decide_eq_false h]; rfl
def mendsB (xs : List VGateShape) (ms : List VGateMend) : Bool := shapesB xs && (decide (ms.length ≤ 12) && (ms.all (mdB xs) && xs.all (rwB ms)))
structure LSm (xs : List VGateShape) (ms : List VGateMend) : Prop where
  x : xs.length ≤ 1048576
  s : ∀ x ∈ xs, SSm x
  l : ms.length ≤ 1048576
  m : ∀ m ∈ ms, m.Put.size ≤ 1048576
theorem g48 {xs : List VGateShape} {ms : List VGateMend} (h : LSm xs ms) : G48 xs ms = some (mendsB xs ms) := by
  unfold G48 G48n mendsB
  rw [g73 h.x h.s, len12, lp48_0 h.x h.s h.l h.m, lp48_1 h.x h.s h.l]
  cases shapesB xs <;> cases decide (ms.length ≤ 12) <;> cases ms.all (mdB xs) <;> rfl
theorem g62 {xs : List VGateShape} {ms : List VGateMend} (h : LSm xs ms) : G62 xs ms = some (mendsB xs ms) := by
  unfold G62 G62n mendsB
  rw [g79 h.x h.s, len12, lp62_0 h.x h.s h.l h.m]
  cases hsh : shapesB xs with
  | false => rfl
  | true =>
    cases decide (ms.length ≤ 12) with
    | false => rfl
    | true =>
      cases hm : ms.all (mdB xs) with
      | false => rfl
      | true =>
        rw [lp62_1 h.x h.s h.l (shapes_ok hsh) hm]
        rfl
end Go.Proofs.YtjodpeldfebhfaaGreat.Ab

/- The plain law: teams, and the law. -/
set_option linter.unusedVariables false
set_option linter.unusedSimpArgs false
namespace Go.Proofs.YtjodpeldfebhfaaGreat.Ab
open Go Go.RowKit

def teamNames (ts : List VGateTeam) : List ByteArray := ts.map (·.Name)
def teamB (ts : List VGateTeam) (s : ByteArray) : Bool := ts.any fun x => decide (x.Name = s)
def overOf (ts : List VGateTeam) (s : ByteArray) : ByteArray := match ts.find? fun x => decide (x.Name = s) with
  | some x => x.Over
  | none => ⟨#[]⟩
def cl (ts : List VGateTeam) : Nat → ByteArray → Bool
  | 0, s => decide (s = ⟨#[]⟩)
  | k + 1, s => cond (decide (s = ⟨#[]⟩)) true (cl ts k (overOf ts s))
theorem g55 {ts : List VGateTeam} (h : ts.length ≤ 1048576) (s : ByteArray) : G55 ts s = some (teamB ts s) := by
  unfold G55 G55n
  refine any_lp (rnd := r55_0 fuel) (st := fun i => (ts, s, (i : Int))) h (fun rec => by simp [r55_0]) (fun rec i hi => ?_)
  have hw := wrap_nat (i := i) (by omega)
  have h1 : (i : Int) < (ts.length : Int) := by omega
  simp only [r55_0]
  rw [get_cast hi, hw]
  simp only [h1, decide_true, cond_true, Int.natCast_nonneg, Option.bind_some]
theorem g76 {ts : List VGateTeam} (h : ts.length ≤ 1048576) (s : ByteArray) : G76 ts s = some (overOf ts s) := by
  have := lp_idx (rnd := r76_0 fuel) (st := fun i => (ts, s, (i : Int))) (val := fun i => some (match (ts.drop i).find? fun x => decide (x.Name = s) with
  | some x => x.Over
  | none => ⟨#[]⟩)) ts.length (fun rec => by simp [r76_0]) (fun rec i hi hr => by
    have hw := wrap_nat (i := i) (by omega)
    have h1 : (i : Int) < (ts.length : Int) := by omega
    simp only [r76_0]
    rw [get_cast hi, hw, List.drop_eq_getElem_cons hi, List.find?_cons]
    simp only [h1, decide_true, cond_true, Int.natCast_nonneg, Option.bind_some]
    cases decide (ts[i].Name = s) with
    | true => rfl
    | false => exact hr) fuel 0 (Nat.zero_le _) (by have := fuel_big; omega)
  unfold G76 G76n LP76_0 overOf
  simpa using this
theorem lp49_1 {ts : List VGateTeam} (h : ts.length ≤ 1048576) {rec0 : A49_0 → Option Bool} {i : Nat} (hi : i < 4194304) : ∀ (k : Nat) (x : Int) (s : ByteArray) (n : Nat), x + k = 5 → 0 ≤ x → k < n →
    lpN (r49_1 fuel rec0) n (ts, (i : Int), s, x) = cond (cl ts k s) (rec0 (ts, ((i + 1 : Nat) : Int))) (some false) := by
  intro k
  induction k with
  | zero =>
    intro x s n hx hx0 hn
    rw [lp_open (by omega)]
    have hw := wrap_nat (i := i) (by omega)
    have h1 : ¬ x ≤ 4 := by omega
    simp only [r49_1, h1, decide_false, cond_false, hw, cl]
    cases decide (s = ⟨#[]⟩) <;> rfl
  | succ k ih =>
    intro x s n hx hx0 hn
    rw [lp_open (by omega)]
    have hw := wrap_nat (i := i) (by omega)
    have h1 : x ≤ 4 := by omega
    have hw2 : IntKind.i64.wrap (x + 1) = x + 1 := wrap_id (by omega) (by omega)
    simp only [r49_1, h1, decide_true, cond_true, hw, hw2, g76 h, Option.bind_some, cl]
    cases decide (s = ⟨#[]⟩) with
    | true => rfl
    | false => exact ih (x + 1) _ (n - 1) (by omega) (by omega) (by omega)
def tbB (ts : List VGateTeam) (j : Nat) : Bool := ascAt (teamNames ts) j && (match ts[j]? with | some x => decide (x.Over = ⟨#[]⟩) || teamB ts x.Over | none => true)
theorem tname_at {ts : List VGateTeam} {i : Nat} (h : i < ts.length) : (teamNames ts).getD i ⟨#[]⟩ = ts[i].Name := by simp [teamNames, List.getD, h]
def tcB (ts : List VGateTeam) (j : Nat) : Bool := match ts[j]? with | some x => cl ts 5 x.Name | none => true
theorem tb_at {ts : List VGateTeam} {i : Nat} (hi : i < ts.length) : tbB ts i = ((nmB ts[i].Name && (decide (i = 0) || slt ((teamNames ts).getD (i - 1) ⟨#[]⟩) ts[i].Name)) && (decide (ts[i].Over = ⟨#[]⟩) || teamB ts ts[i].Over)) := by
  unfold tbB ascAt
  rw [tname_at hi, List.getElem?_eq_getElem hi]
theorem g49 {ts : List VGateTeam} (h : ts.length ≤ 1048576) : G49 ts = some (decide (ts.length ≤ 12) && allN (fun j => tbB ts j && tcB ts j) ts.length 0) := by
  have hl : LP49_0 fuel (ts, 0) = some (allN (fun j => tbB ts j && tcB ts j) ts.length 0) := lp_idx (rnd := r49_0 fuel) (st := fun i => (ts, (i : Int))) (val := fun i => some (allN (fun j => tbB ts j && tcB ts j) ts.length i)) ts.length (fun rec => by simp [r49_0, allN_end]) (fun rec i hi hr => by
    have h1 : (i : Int) < (ts.length : Int) := by omega
    have hcl : LP49_1 fuel rec (ts, (i : Int), ts[i].Name, 0) = cond (cl ts 5 ts[i].Name) (rec (ts, ((i + 1 : Nat) : Int))) (some false) := lp49_1 h (by omega) 5 0 _ fuel (by omega) (by omega) (by have := fuel_big; omega)
    simp only [r49_0, h1, decide_true, cond_true, Int.natCast_nonneg]
    rw [get_cast hi, allN_step hi, tb_at hi]
    rw [show tcB ts i = cl ts 5 ts[i].Name from by unfold tcB; rw [List.getElem?_eq_getElem hi]]
    simp only [Option.bind_some, g50, g55 h, hcl]
    rw [hr]
    cases hb : nmB ts[i].Name with
    | false => rfl
    | true =>
      rcases Nat.eq_zero_or_pos i with h0 | h0
      · subst h0
        cases decide (ts[0].Over = ⟨#[]⟩) <;> cases teamB ts ts[0].Over <;> cases cl ts 5 ts[0].Name <;> rfl
      · have hp := wrap_pred h0 (by omega)
        have h2 : (i : Int) > 0 := by omega
        have h3 : ¬ i = 0 := by omega
        rw [hp, get_cast (show i - 1 < ts.length by omega), tname_at (show i - 1 < ts.length by omega)]
        simp only [h2, h3, decide_true, decide_false, cond_true, Int.natCast_nonneg, Option.bind_some, Bool.not_true, cond_false, Bool.false_or, Bool.true_and]
        cases slt (ts[i - 1]'(by omega)).Name ts[i].Name <;> cases decide (ts[i].Over = ⟨#[]⟩) <;> cases teamB ts ts[i].Over <;> cases cl ts 5 ts[i].Name <;> rfl) fuel 0 (Nat.zero_le _) (by have := fuel_big; omega)
  unfold G49 G49n
  rw [len12, hl]
  cases decide (ts.length ≤ 12) <;> rfl
/-! ### The program's teams -/
theorem pos_team {ts : List VGateTeam} {s : ByteArray} : decide (posL (fun x => decide (x.Name = s)) ts 0 < 0) = !teamB ts s := by
  unfold teamB
  rcases posL_cases (fun x : VGateTeam => decide (x.Name = s)) ts with ⟨e, h⟩ | ⟨i, hi, e, h, _⟩
  · rw [e]
    have : ts.any (fun x => decide (x.Name = s)) = false := by
      rw [List.any_eq_false]
      intro x hx
      rw [h x hx]; simp
    rw [this]; rfl
  · rw [e]
    have : ts.any (fun x => decide (x.Name = s)) = true := List.any_eq_true.2 ⟨ts[i], List.getElem_mem hi, h⟩
    have hn : ¬ (i : Int) < 0 := by omega
    rw [this, decide_eq_false hn]; rfl
structure TOk (ts : List VGateTeam) : Prop where
  l : ts.length ≤ 1048576
  b : ∀ j, j < ts.length → tbB ts j = true
theorem tok_over {ts : List VGateTeam} (h : TOk ts) {x : VGateTeam} (hx : x ∈ ts) (h0 : x.Over ≠ ⟨#[]⟩) : teamB ts x.Over = true := by
  obtain ⟨i, hi, rfl⟩ := List.mem_iff_getElem.1 hx
  have := h.b i hi
  rw [tb_at hi, Bool.and_eq_true, Bool.or_eq_true] at this
  rcases this.2 with e | e
  · exact absurd (of_decide_eq_true e) h0
  · exact e
theorem over_self {ts : List VGateTeam} (h : TOk ts) {x : VGateTeam} (hx : x ∈ ts) : overOf ts x.Name = x.Over := by
  obtain ⟨i, hi, rfl⟩ := List.mem_iff_getElem.1 hx
  have hlen : (teamNames ts).length = ts.length := by simp [teamNames]
  have ha : ∀ j, 0 < j → j < (teamNames ts).length → slt ((teamNames ts).getD (j - 1) ⟨#[]⟩) ((teamNames ts).getD j ⟨#[]⟩) = true := fun j h0 hj => by
    have := h.b j (by omega)
    unfold tbB at this
    rw [Bool.and_eq_true] at this
    exact ascAt_lt h0 this.1
  have : ts.find? (fun x => decide (x.Name = ts[i].Name)) = some ts[i] := by
    rw [List.find?_eq_some_iff_getElem]
    refine ⟨by simp, i, hi, rfl, fun j hj => ?_⟩
    simp only [Bool.not_eq_true', decide_eq_false_iff_not]
    intro e
    have := asc_inj ha (i := j) (j := i) (by omega) (by omega) (by rw [tname_at (show j < ts.length by omega), tname_at hi]; exact e)
    omega
  unfold overOf
  rw [this]
theorem lp63_2 {ts : List VGateTeam} (h : TOk ts) {rec1 : A63_1 → Option Bool} {i : Nat} {L : Int} (hi : i < 4194304) : ∀ (k : Nat) (x : Int) (s : ByteArray) (n : Nat), x + k = 4 → 0 ≤ x → k < n → (s ≠ ⟨#[]⟩ → teamB ts s = true) →
    lpN (r63_2 fuel rec1) n (ts, x, s, ts, L, (i : Int)) = cond (cl ts k s) (rec1 (ts, ts, L, ((i + 1 : Nat) : Int))) (some false) := by
  intro k
  induction k with
  | zero =>
    intro x s n hx hx0 hn hs
    rw [lp_open (by omega)]
    have hw := wrap_nat (i := i) (by omega)
    have hw2 : IntKind.i64.wrap (x + 1) = x + 1 := wrap_id (by omega) (by omega)
    have h1 : x + 1 > 4 := by omega
    simp only [r63_2, hw, hw2, h1, decide_true, cl]
    cases decide (s = ⟨#[]⟩) <;> rfl
  | succ k ih =>
    intro x s n hx hx0 hn hs
    rw [lp_open (by omega)]
    have hw := wrap_nat (i := i) (by omega)
    have hw2 : IntKind.i64.wrap (x + 1) = x + 1 := wrap_id (by omega) (by omega)
    have h1 : ¬ x + 1 > 4 := by omega
    by_cases he : s = ⟨#[]⟩
    · simp only [r63_2, he, decide_true, cl, hw, cond_true, cond_false, Bool.not_true]
    · simp only [r63_2, hw, hw2, h1, he, decide_false, cl, cond_false, Bool.not_false, cond_true, g83 h.l, Option.bind_some]
      rcases pos_find (fun x : VGateTeam => decide (x.Name = s)) ts with ⟨e, hf⟩ | ⟨j, hj, e, hf⟩
      · have hb := hs he
        unfold teamB at hb
        obtain ⟨t, ht, hp⟩ := List.any_eq_true.1 hb
        exact absurd hp (List.find?_eq_none.1 hf t ht)
      · rw [e]
        simp only [Int.natCast_nonneg, decide_true, cond_true]
        rw [get_cast hj]
        have ho : overOf ts s = ts[j].Over := by unfold overOf; rw [hf]
        simp only [Option.bind_some, ho]
        exact ih (x + 1) _ (n - 1) (by omega) (by omega) (by omega) fun h0 => tok_over h (List.getElem_mem hj) h0
theorem cl_name {ts : List VGateTeam} (h : TOk ts) {i : Nat} (hi : i < ts.length) : cl ts 5 ts[i].Name = cl ts 4 ts[i].Over := by
  have hb := h.b i hi
  rw [tb_at hi, Bool.and_eq_true, Bool.and_eq_true] at hb
  have hn := nm_ne hb.1.1
  show cond (decide (ts[i].Name = ⟨#[]⟩)) true (cl ts 4 (overOf ts ts[i].Name)) = _
  rw [decide_eq_false hn, over_self h (List.getElem_mem hi)]
  rfl
theorem lp63_1 {ts : List VGateTeam} (h : TOk ts) : LP63_1 fuel (ts, ts, (ts.length : Int), 0) = some (allN (tcB ts) ts.length 0) :=
  lp_idx (rnd := r63_1 fuel) (st := fun i => (ts, ts, (ts.length : Int), (i : Int))) (val := fun i => some (allN (tcB ts) ts.length i)) ts.length (fun rec => by simp [r63_1, allN_end]) (fun rec i hi hr => by
    have hl := h.l
    have h1 : (i : Int) < (ts.length : Int) := by omega
    have hcl : LP63_2 fuel rec (ts, 0, ts[i].Over, ts, (ts.length : Int), (i : Int)) = cond (cl ts 4 ts[i].Over) (rec (ts, ts, (ts.length : Int), ((i + 1 : Nat) : Int))) (some false) := lp63_2 h (by omega) 4 0 _ fuel (by omega) (by omega) (by have := fuel_big; omega) fun h0 => tok_over h (List.getElem_mem hi) h0
    simp only [r63_1, h1, decide_true, cond_true, Int.natCast_nonneg]
    rw [get_cast hi, allN_step hi]
    rw [show tcB ts i = cl ts 5 ts[i].Name from by unfold tcB; rw [List.getElem?_eq_getElem hi], cl_name h hi]
    simp only [Option.bind_some, hcl]
    rw [hr]
    cases cl ts 4 ts[i].Over <;> rfl) fuel 0 (Nat.zero_le _) (by have := fuel_big; have := h.l; omega)
theorem g63 {ts : List VGateTeam} (h : ts.length ≤ 1048576) : G63 ts = some (decide (ts.length ≤ 12) && allN (fun j => tbB ts j && tcB ts j) ts.length 0) := by
  have hl : LP63_0 fuel (ts, ts, (ts.length : Int), 0) = cond (allN (tbB ts) ts.length 0) (LP63_1 fuel (ts, ts, (ts.length : Int), 0)) (some false) := lp_idx (rnd := r63_0 fuel) (st := fun i => (ts, ts, (ts.length : Int), (i : Int))) (val := fun i => cond (allN (tbB ts) ts.length i) (LP63_1 fuel (ts, ts, (ts.length : Int), 0)) (some false)) ts.length (fun rec => by simp [r63_0, allN_end]) (fun rec i hi hr => by
    have h1 : (i : Int) < (ts.length : Int) := by omega
    have hw := wrap_nat (i := i) (by omega)
    simp only [r63_0, h1, decide_true, cond_true, Int.natCast_nonneg, hw]
    rw [get_cast hi, allN_step hi, tb_at hi]
    simp only [Option.bind_some, g31, g83 h, pos_team]
    rw [hr]
    cases hb : nmB ts[i].Name with
    | false => rfl
    | true =>
      rcases Nat.eq_zero_or_pos i with h0 | h0
      · subst h0
        cases decide (ts[0].Over = ⟨#[]⟩) <;> cases teamB ts ts[0].Over <;> rfl
      · have hp := wrap_pred h0 (by omega)
        have h2 : (i : Int) > 0 := by omega
        have h3 : ¬ i = 0 := by omega
        rw [hp, get_cast (show i - 1 < ts.length by omega), tname_at (show i - 1 < ts.length by omega)]
        simp only [h2, h3, decide_true, decide_false, cond_true, Int.natCast_nonneg, Option.bind_some, Bool.not_true, cond_false, Bool.false_or, Bool.true_and]
        cases slt (ts[i - 1]'(by omega)).Name ts[i].Name <;> cases decide (ts[i].Over = ⟨#[]⟩) <;> cases teamB ts ts[i].Over <;> rfl) fuel 0 (Nat.zero_le _) (by have := fuel_big; omega)
  unfold G63 G63n
  rw [len12, hl]
  cases decide (ts.length ≤ 12) with
  | false => rfl
  | true =>
    simp only [Bool.not_true, cond_false, Bool.true_and]
    cases hb : allN (tbB ts) ts.length 0 with
    | false =>
      have : allN (fun j => tbB ts j && tcB ts j) ts.length 0 = false := by
        rw [Bool.eq_false_iff, ne_eq, allN_iff]
        intro hc
        rw [Bool.eq_false_iff, ne_eq, allN_iff] at hb
        exact hb fun j hj => (Bool.and_eq_true _ _ ▸ hc j hj : tbB ts j = true ∧ tcB ts j = true).1
      rw [this]
      rfl
    | true =>
      have hT : TOk ts := ⟨h, allN_iff.1 hb⟩
      rw [lp63_1 hT]
      simp only [cond_true]
      congr 1
      rw [Bool.eq_iff_iff, allN_iff, allN_iff]
      constructor
      · intro hc j hj
        rw [hT.b j hj, hc j hj]; rfl
      · intro hc j hj
        have := hc j hj
        rw [Bool.and_eq_true] at this
        exact this.2
/-! ### The law -/
theorem to_GateLaw' {x : VGateLaw} (h1 : s_GateShapeS x.Shapes ≤ 1048576) (h2 : s_GateMendS x.Mends ≤ 1048576) (h3 : s_GateTeamS x.Teams ≤ 1048576) : G8 x = some x := by
  unfold G8 G8n
  simp only [to_GateShapeS h1, to_GateMendS h2, to_GateTeamS h3, Option.bind_some]
end Go.Proofs.YtjodpeldfebhfaaGreat.Ab

/- The plain law: laws, rules, asks. -/
set_option linter.unusedVariables false
set_option linter.unusedSimpArgs false
set_option maxRecDepth 10000
namespace Go.Proofs.YtjodpeldfebhfaaGreat.Ab
open Go Go.RowKit

structure LwSm (l : VGateLaw) : Prop where
  m : LSm l.Shapes l.Mends
  t : l.Teams.length ≤ 1048576
def lawB (l : VGateLaw) : Bool := mendsB l.Shapes l.Mends && (decide (l.Teams.length ≤ 12) && allN (fun j => tbB l.Teams j && tcB l.Teams j) l.Teams.length 0)
theorem cond_and (c x : Bool) : cond c (some x) (some false) = some (c && x) := by cases c <;> rfl
theorem cond_nand (c x : Bool) : cond (!c) (some false) (some x) = some (c && x) := by cases c <;> rfl
theorem cond_nand' (c x : Bool) : cond c (some false) (some x) = some (!c && x) := by cases c <;> rfl
theorem g23 {l : VGateLaw} (h : LwSm l) : G23 l = some (lawB l) := by
  unfold G23 G23n lawB
  simp only [g48 h.m, g49 h.t, Option.bind_some, cond_and]
theorem g30 {l : VGateLaw} (h : LwSm l) : G30 l = some (lawB l) := by
  unfold G30 G30n lawB
  simp only [g62 h.m, g63 h.t, Option.bind_some, cond_and]
/-! ### Rules -/
theorem len0 (n : Nat) : ((n : Int) == 0) = decide (n = 0) := by
  cases n with
  | zero => rfl
  | succ n => simp; omega
def vrAt (vs : List Int) (j : Nat) : Bool := (decide (1 ≤ vs.getD j 0) && decide (vs.getD j 0 ≤ 5)) && (decide (j = 0) || decide (vs.getD (j - 1) 0 < vs.getD j 0))
def vrB (vs : List Int) : Bool := allN (vrAt vs) vs.length 0
theorem lp57_1 {s : ByteArray} (hs : s.size ≤ 281474976710656) : lpN (r57_1 s fuel) fuel 0 = some (allB s 0) :=
  lp_idx (st := fun i => (i : Int)) (val := fun i => some (allB s i)) s.size (fun rec => by simp [r57_1, allB, allN_end]) (fun rec i hi hr => by
    rw [← wrap_nat (by omega)] at hr
    have h1 : (i : Int) < (s.size : Int) := by omega
    simp only [r57_1, h1, decide_true, cond_true, Int.natCast_nonneg, g77, Option.bind_some]
    rw [show allB s i = _ from allN_step hi]
    cases hb : bOk (sbt s (i : Int)) with
    | true => simpa [allB] using hr
    | false => rfl) fuel 0 (Nat.zero_le _) (by have := fuel_big; omega)
theorem lp57_0 {vs : List Int} {s : ByteArray} (hv : vs.length ≤ 1048576) (hs : s.size ≤ 281474976710656) : lpN (r57_0 vs s fuel) fuel 0 = some (vrB vs && allB s 0) :=
  lp_idx (rnd := r57_0 vs s fuel) (st := fun i => (i : Int)) (val := fun i => some (allN (vrAt vs) vs.length i && allB s 0)) vs.length (fun rec => by
      simp only [r57_0, Int.lt_irrefl, decide_false, cond_false, allN_end, Bool.true_and]; exact lp57_1 hs) (fun rec i hi hr => by
      have h1 : (i : Int) < (vs.length : Int) := by omega
      have hw := wrap_nat (i := i) (by omega)
      simp only [r57_0]
      rw [hw, get_cast hi, allN_step hi]
      simp only [h1, decide_true, cond_true, Int.natCast_nonneg, Option.bind_some, g51]
      have hv0 : vs.getD i 0 = vs[i] := by simp [List.getD, hi]
      have hva : vrAt vs i = ((decide (1 ≤ vs.getD i 0) && decide (vs.getD i 0 ≤ 5)) && (decide (i = 0) || decide (vs.getD (i - 1) 0 < vs.getD i 0))) := rfl
      rw [hva, hv0]
      cases hb : (decide (1 ≤ vs[i]) && decide (vs[i] ≤ 5)) with
      | false => simp
      | true =>
        rcases Nat.eq_zero_or_pos i with h0 | h0
        · subst h0; simpa using hr
        · have hgt : (i : Int) > 0 := by omega
          have hp := wrap_pred (i := i) h0 (by omega)
          have hi' : i - 1 < vs.length := by omega
          have hv1 : vs.getD (i - 1) 0 = vs[i - 1] := by simp [List.getD, hi']
          have hne : decide (i = 0) = false := by simp; omega
          rw [hp, get_cast hi', hv1, hne]
          simp only [hgt, decide_true, cond_true, Int.natCast_nonneg, Option.bind_some, Bool.not_true, cond_false, Bool.false_or, Bool.true_and]
          by_cases hlt : vs[i - 1] < vs[i]
          · have h2 : ¬ vs[i - 1] ≥ vs[i] := by omega
            simp only [h2, hlt, decide_true, decide_false, cond_false, Bool.true_and]; exact hr
          · have h2 : vs[i - 1] ≥ vs[i] := by omega
            simp only [h2, hlt, decide_true, decide_false, cond_true, Bool.false_and]) fuel 0 (Nat.zero_le _) (by have := fuel_big; omega)
theorem lp125 {vs : List Int} (hv : vs.length ≤ 1048576) : lpN (r125_0 vs (vs.length : Int) vs fuel) fuel 0 = some (vrB vs) :=
  lp_idx (rnd := r125_0 vs (vs.length : Int) vs fuel) (st := fun i => (i : Int)) (val := fun i => some (allN (vrAt vs) vs.length i)) vs.length (fun rec => by
      simp only [r125_0, Int.lt_irrefl, decide_false, cond_false, allN_end]) (fun rec i hi hr => by
      have h1 : (i : Int) < (vs.length : Int) := by omega
      have hw := wrap_nat (i := i) (by omega)
      simp only [r125_0]
      rw [hw, get_cast hi, allN_step hi]
      simp only [h1, decide_true, cond_true, Int.natCast_nonneg, Option.bind_some]
      have hv0 : vs.getD i 0 = vs[i] := by simp [List.getD, hi]
      have hva : vrAt vs i = ((decide (1 ≤ vs.getD i 0) && decide (vs.getD i 0 ≤ 5)) && (decide (i = 0) || decide (vs.getD (i - 1) 0 < vs.getD i 0))) := rfl
      rw [hva, hv0]
      by_cases ha : 1 ≤ vs[i]
      · by_cases hb : vs[i] ≤ 5
        · have h2 : ¬ vs[i] < 1 := by omega
          have h3 : ¬ vs[i] > 5 := by omega
          simp only [ha, hb, h2, h3, decide_true, decide_false, cond_false, Bool.true_and]
          rcases Nat.eq_zero_or_pos i with h0 | h0
          · subst h0; simpa using hr
          · have hgt : (i : Int) > 0 := by omega
            have hp := wrap_pred (i := i) h0 (by omega)
            have hi' : i - 1 < vs.length := by omega
            have hv1 : vs.getD (i - 1) 0 = vs[i - 1] := by simp [List.getD, hi']
            have hne : decide (i = 0) = false := by simp; omega
            rw [hp, get_cast hi', hv1, hne]
            simp only [hgt, decide_true, cond_true, Int.natCast_nonneg, Option.bind_some, cond_false, Bool.false_or]
            by_cases hlt : vs[i - 1] < vs[i]
            · have h2 : ¬ vs[i - 1] ≥ vs[i] := by omega
              simp only [h2, hlt, decide_true, decide_false, cond_false, Bool.true_and]; exact hr
            · have h2 : vs[i - 1] ≥ vs[i] := by omega
              simp only [h2, hlt, decide_true, decide_false, cond_true, Bool.false_and]
        · have h3 : vs[i] > 5 := by omega
          have h2 : ¬ vs[i] < 1 := by omega
          simp only [ha, hb, h2, h3, decide_true, decide_false, cond_true, cond_false, Bool.false_and, Bool.and_false]
      · have h2 : vs[i] < 1 := by omega
        simp only [ha, h2, decide_true, decide_false, cond_true, Bool.false_and]) fuel 0 (Nat.zero_le _) (by have := fuel_big; omega)
def ruleB (r : VGateRule) : Bool := !decide (r.Verbs.length = 0) && ((decide (r.Kind = ⟨#[]⟩) || nmB r.Kind) && ((decide (r.Team = ⟨#[]⟩) || nmB r.Team) && (decide (r.Prefix.size ≤ 16) && (vrB r.Verbs && allB r.Prefix 0))))
theorem g57 {r : VGateRule} (h : r.Verbs.length ≤ 1048576) : G57 r = some (ruleB r) := by
  unfold G57 G57n ruleB
  rw [len0]
  simp only [g50, Option.bind_some]
  by_cases hs : r.Prefix.size ≤ 16
  · have h2 : ¬ (r.Prefix.size : Int) > 16 := by omega
    simp only [lp57_0 h (s := r.Prefix) (by omega), h2, hs, decide_true, decide_false, cond_false]
    cases decide (r.Verbs.length = 0) <;> cases decide (r.Kind = ⟨#[]⟩) <;> cases nmB r.Kind <;> cases decide (r.Team = ⟨#[]⟩) <;> cases nmB r.Team <;> rfl
  · have h2 : (r.Prefix.size : Int) > 16 := by omega
    simp only [h2, hs, decide_true, decide_false, cond_true, Bool.false_and, Bool.and_false]
    cases decide (r.Verbs.length = 0) <;> rfl
theorem g64 {s : ByteArray} (h : s.size ≤ 281474976710656) : G64 s = some (allB s 0) := lp64 h
theorem g125 {r : VGateRule} (h : r.Verbs.length ≤ 1048576) : G125 r = some (ruleB r) := by
  unfold G125 G125n ruleB
  rw [len0]
  simp only [g31, Option.bind_some]
  by_cases hs : r.Prefix.size ≤ 16
  · have h2 : ¬ (r.Prefix.size : Int) > 16 := by omega
    simp only [lp125 h, g64 (s := r.Prefix) (by omega), h2, hs, decide_true, decide_false, cond_false, Option.bind_some]
    cases decide (r.Verbs.length = 0) <;> cases decide (r.Kind = ⟨#[]⟩) <;> cases nmB r.Kind <;> cases decide (r.Team = ⟨#[]⟩) <;> cases nmB r.Team <;> cases allB r.Prefix 0 <;> cases vrB r.Verbs <;> rfl
  · have h2 : (r.Prefix.size : Int) > 16 := by omega
    simp only [h2, hs, decide_true, decide_false, cond_true, Bool.false_and, Bool.and_false]
    cases decide (r.Verbs.length = 0) <;> cases decide (r.Kind = ⟨#[]⟩) <;> cases nmB r.Kind <;> cases decide (r.Team = ⟨#[]⟩) <;> cases nmB r.Team <;> rfl
/-! ### Lists alike -/
theorem eqL_lp {α : Type} [DecidableEq α] {a b : List α} (hl : a.length = b.length) (h : a.length ≤ 1048576) {rnd : (Int → Option Bool) → Int → Option Bool} (hend : ∀ rec, rnd rec (a.length : Int) = some true)
    (hstep : ∀ rec i (hi : i < a.length) (hj : i < b.length), rnd rec (i : Int) = cond (decide (a[i] = b[i])) (rec ((i + 1 : Nat) : Int)) (some false)) : lpN rnd fuel 0 = some (decide (a = b)) := by
  have key := lp_idx (rnd := rnd) (st := fun i => (i : Int)) (val := fun i => some (decide (a.drop i = b.drop i))) a.length (fun rec => by rw [hend]; simp [hl]) (fun rec i hi hr => by
    have hj : i < b.length := by omega
    rw [hstep rec i hi hj, List.drop_eq_getElem_cons hi, List.drop_eq_getElem_cons hj]
    by_cases he : a[i] = b[i]
    · simp only [he, decide_true, cond_true, List.cons.injEq, true_and]
      exact hr
    · rw [decide_eq_false he, cond_false]
      congr 1; symm
      rw [decide_eq_false_iff_not]
      intro h; exact he (List.cons.inj h).1) fuel 0 (Nat.zero_le _) (by have := fuel_big; omega)
  simpa using key
theorem ne_len {α : Type} [DecidableEq α] {a b : List α} (h : a.length ≠ b.length) : decide (a = b) = false := by
  rw [decide_eq_false_iff_not]; intro e; exact h (by rw [e])
theorem g33 {a b : List ByteArray} (h : a.length ≤ 1048576) : G33 a b = some (decide (a = b)) := by
  unfold G33 G33n
  by_cases hl : a.length = b.length
  · rw [show ((a.length : Int) != (b.length : Int)) = false by rw [ne_cast, hl]; simp]
    rw [cond_false]
    refine eqL_lp (rnd := r33_0 a b (a.length : Int) fuel) hl h (fun rec => by simp only [r33_0, Int.lt_irrefl, decide_false, cond_false]) fun rec i hi hj => ?_
    have h1 : (i : Int) < (a.length : Int) := by omega
    have hw := wrap_nat (i := i) (by omega)
    simp only [r33_0]
    rw [hw, get_cast hi, get_cast hj]
    simp only [h1, decide_true, cond_true, Int.natCast_nonneg, Option.bind_some]
    cases decide (a[i] = b[i]) <;> rfl
  · rw [show ((a.length : Int) != (b.length : Int)) = true by rw [ne_cast]; simp [hl], ne_len hl]
    rfl
theorem g34 {a b : VGateRule} (h : a.Verbs.length ≤ 1048576) : G34 a b = some (decide (a.Verbs = b.Verbs) && (decide (a.Kind = b.Kind) && (decide (a.Team = b.Team) && decide (a.Prefix = b.Prefix)))) := by
  unfold G34 G34n
  by_cases hl : a.Verbs.length = b.Verbs.length
  · rw [show ((a.Verbs.length : Int) != (b.Verbs.length : Int)) = false by rw [ne_cast, hl]; simp]
    have : lpN (r34_0 (a.Verbs.length : Int) a.Verbs b.Verbs fuel) fuel 0 = some (decide (a.Verbs = b.Verbs)) := by
      refine eqL_lp hl h (fun rec => by simp only [r34_0, Int.lt_irrefl, decide_false, cond_false]) fun rec i hi hj => ?_
      have h1 : (i : Int) < (a.Verbs.length : Int) := by omega
      have hw := wrap_nat (i := i) (by omega)
      simp only [r34_0]
      rw [hw, get_cast hi, get_cast hj]
      simp only [h1, decide_true, cond_true, Int.natCast_nonneg, Option.bind_some]
      by_cases he : a.Verbs[i] = b.Verbs[i]
      · simp [he]
      · have : (a.Verbs[i] != b.Verbs[i]) = true := by simpa using he
        rw [this, decide_eq_false he]; rfl
    rw [this]
    cases decide (a.Verbs = b.Verbs) <;> cases decide (a.Kind = b.Kind) <;> cases decide (a.Team = b.Team) <;> cases decide (a.Prefix = b.Prefix) <;> rfl
  · rw [show ((a.Verbs.length : Int) != (b.Verbs.length : Int)) = true by rw [ne_cast]; simp [hl], ne_len hl]
    rfl
theorem nil_eq {α : Type} [DecidableEq α] (a : List α) : decide ([] = a) = decide (a.length = 0) := by cases a <;> simp
theorem g131 {l : VGateLaw} {a : VGateAsk} (h : LwSm l) : G131 l a = some (decide (posL (fun x => decide (x.Kind = a.Kind)) l.Shapes 0 ≥ 0) && nmB a.Name) := by
  unfold G131 G131n
  simp only [g80 h.m.x, g31, Option.bind_some, cond_and]
end Go.Proofs.YtjodpeldfebhfaaGreat.Ab

/- The plain law: an ask is ok, the reference's and the program's. -/
set_option linter.unusedVariables false
set_option linter.unusedSimpArgs false
set_option maxRecDepth 10000
namespace Go.Proofs.YtjodpeldfebhfaaGreat.Ab
open Go Go.RowKit

theorem e0 (s : ByteArray) : decide (⟨#[]⟩ = s) = decide (s = ⟨#[]⟩) := by rw [decide_eq_decide]; exact eq_comm
theorem z0 (x : Int) : ((0 : Int) == x) = (x == 0) := by rw [Bool.eq_iff_iff, beq_iff_eq, beq_iff_eq]; exact eq_comm
def kdB (l : VGateLaw) (k : ByteArray) : Bool := (l.Shapes.find? fun x => decide (x.Kind = k)).isSome
def valB (l : VGateLaw) (k : ByteArray) (n : Nat) : Bool := match l.Shapes.find? fun x => decide (x.Kind = k) with
  | some x => (n : Int) == (x.Fields.length : Int)
  | none => false
theorem pos_kd {l : VGateLaw} {k : ByteArray} : decide (posL (fun x => decide (x.Kind = k)) l.Shapes 0 ≥ 0) = kdB l k := by
  unfold kdB
  rcases pos_find (fun x : VGateShape => decide (x.Kind = k)) l.Shapes with ⟨e, h⟩ | ⟨i, hi, e, h⟩
  · rw [e, h]; rfl
  · rw [e, h]; simp
theorem pos_kd' {l : VGateLaw} {k : ByteArray} : decide (posL (fun x => decide (x.Kind = k)) l.Shapes 0 < 0) = !kdB l k := by
  rw [← pos_kd]
  rcases pos_find (fun x : VGateShape => decide (x.Kind = k)) l.Shapes with ⟨e, h⟩ | ⟨i, hi, e, h⟩
  · rw [e]; rfl
  · rw [e]
    have h1 : ¬ (i : Int) < 0 := by omega
    have h2 : (i : Int) ≥ 0 := by omega
    simp [h1, h2]
theorem pos_tm {ts : List VGateTeam} {s : ByteArray} : decide (posL (fun x => decide (x.Name = s)) ts 0 ≥ 0) = teamB ts s := by
  have := pos_team (ts := ts) (s := s)
  cases h : teamB ts s with
  | true => rw [h] at this; simp at this; simp; omega
  | false => rw [h] at this; simp at this; simp; omega
/-- What stands behind the look for a kind, the kind there. -/
theorem val_get {l : VGateLaw} {k : ByteArray} (hk : kdB l k = true) (n : Nat) (f : Bool → Option Bool) :
    cond (decide (0 ≤ posL (fun x => decide (x.Kind = k)) l.Shapes 0)) (Option.bind l.Shapes[(posL (fun x => decide (x.Kind = k)) l.Shapes 0).toNat]? fun e => f ((n : Int) == (e.Fields.length : Int))) none = f (valB l k n) := by
  unfold valB
  unfold kdB at hk
  rcases pos_find (fun x : VGateShape => decide (x.Kind = k)) l.Shapes with ⟨e, h⟩ | ⟨i, hi, e, h⟩
  · rw [h] at hk; cases hk
  · rw [e, h, get_cast hi]
    simp only [Int.natCast_nonneg, decide_true, cond_true, Option.bind_some]
theorem val_no {l : VGateLaw} {k : ByteArray} (hk : kdB l k = false) (n : Nat) : valB l k n = false := by
  unfold kdB at hk; unfold valB
  cases h : l.Shapes.find? (fun x => decide (x.Kind = k)) with
  | none => rfl
  | some x => rw [h] at hk; cases hk
theorem g132 {l : VGateLaw} {a : VGateAsk} (h : LwSm l) : G132 l a = some (valB l a.Kind a.Values.length) := by
  unfold G132 G132n
  rw [g80 h.m.x]
  simp only [Option.bind_some]
  cases hk : kdB l a.Kind with
  | true => rw [val_get hk a.Values.length some, pos_kd, hk]; rfl
  | false => rw [pos_kd, hk, val_no hk]; rfl
structure AkSm (a : VGateAsk) : Prop where
  v : a.Values.length ≤ 1048576
  h : a.Holds.length ≤ 1048576
  r : a.Rule_Verbs.length ≤ 1048576
def restB (a : VGateAsk) : Bool := (a.Seen == 0) && (decide (a.Hold = ⟨#[]⟩) && (decide (a.To = ⟨#[]⟩) && (decide (a.Rule_Verbs.length = 0) && (decide (a.Rule_Kind = ⟨#[]⟩) && (decide (a.Rule_Team = ⟨#[]⟩) && (decide (a.Rule_Prefix = ⟨#[]⟩) && (a.Number == 0)))))))
theorem g52 (a : VGateAsk) : G52 a = some (decide (a.Kind = ⟨#[]⟩) && (decide (a.Name = ⟨#[]⟩) && (decide (a.Team = ⟨#[]⟩) && (decide (a.Values.length = 0) && (decide (a.Holds.length = 0) && restB a))))) := by
  unfold G52 G52n restB
  simp only [len0, cond_and]
theorem val_cond {l : VGateLaw} {k : ByteArray} (hk : kdB l k = true) (n : Nat) (x : Option Bool) :
    cond (decide (0 ≤ posL (fun x => decide (x.Kind = k)) l.Shapes 0)) (Option.bind l.Shapes[(posL (fun x => decide (x.Kind = k)) l.Shapes 0).toNat]? fun e => cond ((n : Int) == (e.Fields.length : Int)) x (some false)) none = cond (valB l k n) x (some false) :=
  val_get hk n fun b => cond b x (some false)
theorem val_and {l : VGateLaw} {k : ByteArray} (hk : kdB l k = true) (n : Nat) (x : Bool) :
    cond (decide (0 ≤ posL (fun x => decide (x.Kind = k)) l.Shapes 0)) (Option.bind l.Shapes[(posL (fun x => decide (x.Kind = k)) l.Shapes 0).toNat]? fun e => some (((n : Int) == (e.Fields.length : Int)) && x)) none = some (valB l k n && x) :=
  val_get hk n fun b => some (b && x)
def askB (l : VGateLaw) (a : VGateAsk) : Bool :=
  nmB a.Who && (
  if a.Verb = 1 then restB a && (kdB l a.Kind && (nmB a.Name && (valB l a.Kind a.Values.length && (teamB l.Teams a.Team && (decide ((a.Holds.length : Int) ≤ 3) && ascB a.Holds)))))
  else if a.Verb = 2 then restB { a with Seen := 0 } && (decide (a.Team = ⟨#[]⟩) && (decide (a.Holds.length = 0) && (kdB l a.Kind && (nmB a.Name && (valB l a.Kind a.Values.length && decide (a.Seen ≥ 0))))))
  else if a.Verb = 3 then restB { a with Seen := 0 } && (decide (a.Team = ⟨#[]⟩) && (decide (a.Values.length = 0) && (decide (a.Holds.length = 0) && (kdB l a.Kind && (nmB a.Name && decide (a.Seen ≥ 0))))))
  else if a.Verb = 4 then restB { a with Hold := ⟨#[]⟩ } && (decide (a.Team = ⟨#[]⟩) && (decide (a.Values.length = 0) && (decide (a.Holds.length = 0) && (kdB l a.Kind && (nmB a.Name && nmB a.Hold)))))
  else if a.Verb = 5 then restB { a with To := ⟨#[]⟩, Rule_Verbs := [], Rule_Kind := ⟨#[]⟩, Rule_Team := ⟨#[]⟩, Rule_Prefix := ⟨#[]⟩ } && (decide (a.Kind = ⟨#[]⟩) && (decide (a.Name = ⟨#[]⟩) && (decide (a.Team = ⟨#[]⟩) && (decide (a.Values.length = 0) && (decide (a.Holds.length = 0) && (nmB a.To && ruleB ⟨a.Rule_Verbs, a.Rule_Kind, a.Rule_Team, a.Rule_Prefix⟩))))))
  else if a.Verb = 6 then restB { a with Number := 0 } && (decide (a.Kind = ⟨#[]⟩) && (decide (a.Name = ⟨#[]⟩) && (decide (a.Team = ⟨#[]⟩) && (decide (a.Values.length = 0) && (decide (a.Holds.length = 0) && decide (a.Number ≥ 1))))))
  else false)
theorem lit_le {a b : Int} (h : decide (a ≤ b) = true) : (a ≤ b) = True := by simpa using h
set_option maxHeartbeats 1000000 in
theorem g24 {l : VGateLaw} {a : VGateAsk} (hl : LwSm l) (ha : AkSm a) : G24 l a = some (askB l a) := by
  obtain ⟨who, v, kind, name, team, values, holds, seen, hold, to, rv, rk, rt, rp, num⟩ := a
  obtain ⟨h1, h2, h3⟩ := ha
  simp only at h1 h2 h3
  unfold G24 G24n askB
  simp only [g50, g51, Option.bind_some]
  cases nmB who with
  | false => rfl
  | true =>
    simp only [Bool.not_true, cond_false, Bool.true_and]
    by_cases hr : 1 ≤ v ∧ v ≤ 6
    · have hv : v = 1 ∨ v = 2 ∨ v = 3 ∨ v = 4 ∨ v = 5 ∨ v = 6 := by omega
      simp only [hr.1, hr.2, decide_true, Bool.and_self, Bool.not_true, cond_false, g54 hl.m.x, g55 hl.t, g56 h2, g57 (r := ⟨rv, rk, rt, rp⟩) h3, g52, Option.bind_some, pos_kd']
      clear hr
      rcases hv with rfl | rfl | rfl | rfl | rfl | rfl
      all_goals
        cases hk : kdB l kind with
        | true => simp [restB, val_and hk, cond_and, cond_nand, cond_nand', len0]; try simp only [Bool.and_comm, Bool.and_left_comm, Bool.and_assoc]
        | false => simp [restB, val_no hk, cond_and, cond_nand, cond_nand', len0]; try simp only [Bool.and_comm, Bool.and_left_comm, Bool.and_assoc]
    · have : (decide (1 ≤ v) && decide (v ≤ 6)) = false := by
        rw [Bool.and_eq_false_iff, decide_eq_false_iff_not, decide_eq_false_iff_not]; omega
      have n1 : v ≠ 1 := by omega
      have n2 : v ≠ 2 := by omega
      have n3 : v ≠ 3 := by omega
      have n4 : v ≠ 4 := by omega
      have n5 : v ≠ 5 := by omega
      have n6 : v ≠ 6 := by omega
      simp only [this, Bool.not_false, cond_true, n1, n2, n3, n4, n5, n6, if_false]
theorem g7 {l : VGateLaw} {a : VGateAsk} (hl : LwSm l) (ha : AkSm a) : G7 l a = some (lawB l && askB l a) := by
  unfold G7 G7n
  simp only [g23 hl, g24 hl ha, Option.bind_some, cond_and]
set_option maxHeartbeats 1000000 in
theorem g10 {l : VGateLaw} {a : VGateAsk} (hl : LwSm l) (ha : AkSm a) : G10 l a = some (lawB l && askB l a) := by
  obtain ⟨who, v, kind, name, team, values, holds, seen, hold, to, rv, rk, rt, rp, num⟩ := a
  obtain ⟨h1, h2, h3⟩ := ha
  simp only at h1 h2 h3
  unfold G10 G10n askB
  simp only [g30 hl, g31, Option.bind_some]
  cases lawB l with
  | false => rfl
  | true =>
    cases nmB who with
    | false => rfl
    | true =>
      simp only [Bool.not_true, cond_false, Bool.true_and]
      by_cases hr : 1 ≤ v ∧ v ≤ 6
      · have hv : v = 1 ∨ v = 2 ∨ v = 3 ∨ v = 4 ∨ v = 5 ∨ v = 6 := by omega
        have k1 : ¬ v < 1 := by omega
        have k2 : ¬ v > 6 := by omega
        have z1 : ([] : List ByteArray).length ≤ 1048576 := Nat.zero_le _
        have z2 : (⟨[], ⟨#[]⟩, ⟨#[]⟩, ⟨#[]⟩⟩ : VGateRule).Verbs.length ≤ 1048576 := Nat.zero_le _
        simp only [k1, k2, decide_false, cond_false, G32, G32n, g131 hl, g132 hl, g83 hl.t, g94 h2, g33 h1, g33 h2, g33 z1, g34 z2, g34 (a := ⟨rv, rk, rt, rp⟩) h3, g125 (r := ⟨rv, rk, rt, rp⟩) h3, Option.bind_some, pos_kd, pos_tm, nil_eq, e0, z0]
        clear hr k1 k2
        rcases hv with rfl | rfl | rfl | rfl | rfl | rfl
        all_goals
          cases hk : kdB l kind with
          | true => simp [restB, cond_and, cond_nand, cond_nand', len0]; try simp only [Bool.and_comm, Bool.and_left_comm, Bool.and_assoc]
          | false => simp [restB, val_no hk, cond_and, cond_nand, cond_nand', len0]; try simp only [Bool.and_comm, Bool.and_left_comm, Bool.and_assoc]
      · have n1 : v ≠ 1 := by omega
        have n2 : v ≠ 2 := by omega
        have n3 : v ≠ 3 := by omega
        have n4 : v ≠ 4 := by omega
        have n5 : v ≠ 5 := by omega
        have n6 : v ≠ 6 := by omega
        by_cases k1 : v < 1
        · simp only [k1, decide_true, cond_true, n1, n2, n3, n4, n5, n6, if_false]
        · have k2 : v > 6 := by omega
          simp only [k1, k2, decide_true, decide_false, cond_true, cond_false, n1, n2, n3, n4, n5, n6, if_false]
theorem lwsm_of {l : VGateLaw} (h : s_GateLaw l ≤ 1048576) : LwSm l := by
  unfold s_GateLaw at h
  have l1 := s_GateShapeS_len l.Shapes
  have l2 := s_GateMendS_len l.Mends
  have l3 := s_GateTeamS_len l.Teams
  exact ⟨⟨by omega, fun x hx => ssm_of (by have := s_GateShapeS_mem hx; omega), by omega, fun m hm => by
    have := s_GateMendS_mem hm
    unfold s_GateMend at this
    omega⟩, by omega⟩
theorem aksm_of {a : VGateAsk} (h : s_GateAsk a ≤ 1048576) : AkSm a := by
  unfold s_GateAsk s_GateRule at h
  have l1 := s_StringS_len a.Values
  have l2 := s_StringS_len a.Holds
  have l3 := s_IntS_len a.Rule_Verbs
  exact ⟨by omega, by omega, by simp only at h; omega⟩
theorem main3 (a0 : VGateLaw) (a1 : VGateAsk) (t0 : s_GateLaw a0 ≤ 1048576) (t1 : s_GateAsk a1 ≤ 1048576) : ∃ R, G7 a0 a1 = some R ∧ G10 a0 a1 = some R ∧ True :=
  ⟨_, g7 (lwsm_of t0) (aksm_of t1), g10 (lwsm_of t0) (aksm_of t1), trivial⟩
end Go.Proofs.YtjodpeldfebhfaaGreat.Ab

/- The plain law: structures that are marked and held. Printed out of the types. -/
set_option linter.unusedVariables false
set_option linter.unusedSimpArgs false
set_option maxRecDepth 10000
namespace Go.Proofs.YtjodpeldfebhfaaGreat.Ab
open Go Go.RowKit

def w_GateLaw (x : VGateLaw) : Nat := 1 + w_GateShapeS x.Shapes + w_GateMendS x.Mends + w_GateTeamS x.Teams
theorem ws_GateLaw (x : VGateLaw) : w_GateLaw x ≤ 64 * (1 + s_GateLaw x) := by
  have := w_sum ws_GateShape x.Shapes
  have := w_sum ws_GateMend x.Mends
  have := w_sum ws_GateTeam x.Teams
  simp only [w_GateLaw, s_GateLaw, w_GateMendS, s_GateMendS, w_GateShapeS, s_GateShapeS, w_GateTeamS, s_GateTeamS]; omega
def wl_GateLaw (x : VGateLaw) : Nat := w_GateShapeS x.Shapes + w_GateMendS x.Mends + w_GateTeamS x.Teams
theorem wl_le_GateLaw (x : VGateLaw) : wl_GateLaw x ≤ w_GateLaw x := by unfold wl_GateLaw w_GateLaw; omega
theorem eq_GateLaw {x : VGateLaw} (h : w_GateLaw x ≤ 1152921504606846976) : G11 x x = some true := by
  unfold w_GateLaw at h
  simp only [G11, G11n, G66, G66n, G67, G67n, G71, G71n, eq_GateShapeS (xs := x.Shapes) (by omega), eq_GateMendS (xs := x.Mends) (by omega), eq_GateTeamS (xs := x.Teams) (by omega), bne_self_eq_false, cond_false, decide_true, Bool.not_true, Option.bind_some, beq_self_eq_true]
def w_GateRule (x : VGateRule) : Nat := 3 + w_IntS x.Verbs
theorem ws_GateRule (x : VGateRule) : w_GateRule x ≤ 64 * (1 + s_GateRule x) := by
  have := w_sum ws_Int x.Verbs
  simp only [w_GateRule, s_GateRule, w_IntS, s_IntS]; omega
def wl_GateRule (x : VGateRule) : Nat := w_IntS x.Verbs
theorem wl_le_GateRule (x : VGateRule) : wl_GateRule x ≤ w_GateRule x := by unfold wl_GateRule w_GateRule; omega
theorem eq_GateRule {x : VGateRule} (h : w_GateRule x ≤ 1152921504606846976) : G39 x x = some true := by
  unfold w_GateRule at h
  simp only [G39, G39n, G66, G66n, G67, G67n, G71, G71n, eq_IntS (xs := x.Verbs) (by omega), bne_self_eq_false, cond_false, decide_true, Bool.not_true, Option.bind_some, beq_self_eq_true]
def w_GateAsk (x : VGateAsk) : Nat := 12 + w_StringS x.Values + w_StringS x.Holds + w_IntS x.Rule_Verbs
theorem ws_GateAsk (x : VGateAsk) : w_GateAsk x ≤ 64 * (1 + s_GateAsk x) := by
  have := w_sum ws_String x.Values
  have := w_sum ws_String x.Holds
  have := w_sum ws_Int x.Rule_Verbs
  simp only [w_GateAsk, s_GateAsk, w_IntS, s_IntS, w_StringS, s_StringS, s_GateRule]; omega
def wl_GateAsk (x : VGateAsk) : Nat := w_StringS x.Values + w_StringS x.Holds + w_IntS x.Rule_Verbs
theorem wl_le_GateAsk (x : VGateAsk) : wl_GateAsk x ≤ w_GateAsk x := by unfold wl_GateAsk w_GateAsk; omega
theorem eq_GateAsk {x : VGateAsk} (h : w_GateAsk x ≤ 1152921504606846976) : G12 x x = some true := by
  unfold w_GateAsk at h
  simp only [G12, G12n, G66, G66n, G67, G67n, G71, G71n, eq_GateRule (x := (⟨x.Rule_Verbs, x.Rule_Kind, x.Rule_Team, x.Rule_Prefix⟩ : VGateRule)) (by simp only [w_GateRule]; omega), eq_StringS (xs := x.Values) (by omega), eq_StringS (xs := x.Holds) (by omega), eq_IntS (xs := x.Rule_Verbs) (by omega), bne_self_eq_false, cond_false, decide_true, Bool.not_true, Option.bind_some, beq_self_eq_true]
end Go.Proofs.YtjodpeldfebhfaaGreat.Ab

/- The plain law: a slip is ok, the reference's and the program's. -/
set_option linter.unusedVariables false
set_option linter.unusedSimpArgs false
set_option maxRecDepth 10000
namespace Go.Proofs.YtjodpeldfebhfaaGreat.Ab
open Go Go.RowKit

def wntB (w : VGateWant) : Bool := nmB w.Kind && (nmB w.Name && !decide (w.Version < 0))
theorem lp41 {ws : List VGateWant} (h : ws.length ≤ 1048576) : lpN (r41_0 ws fuel) fuel 0 = some (ws.all wntB) :=
  all_lp (p := wntB) (xs := ws) (st := fun i => (i : Int)) h (fun rec => by simp only [r41_0, Int.lt_irrefl, decide_false, cond_false]) fun rec i hi => by
    have h1 : (i : Int) < (ws.length : Int) := by omega
    have hw := wrap_nat (i := i) (by omega)
    simp only [r41_0]
    rw [hw, get_cast hi]
    simp only [h1, decide_true, cond_true, Int.natCast_nonneg, Option.bind_some, g50]
    unfold wntB
    cases nmB ws[i].Kind <;> cases nmB ws[i].Name <;> cases decide (ws[i].Version < 0) <;> rfl
theorem lp16 {ws : List VGateWant} (h : ws.length ≤ 1048576) : lpN (r16_0 ws (ws.length : Int) fuel) fuel 0 = some (ws.all wntB) :=
  all_lp (p := wntB) (xs := ws) (st := fun i => (i : Int)) h (fun rec => by simp only [r16_0, Int.lt_irrefl, decide_false, cond_false]) fun rec i hi => by
    have h1 : (i : Int) < (ws.length : Int) := by omega
    have hw := wrap_nat (i := i) (by omega)
    simp only [r16_0]
    rw [hw, get_cast hi]
    simp only [h1, decide_true, cond_true, Int.natCast_nonneg, Option.bind_some, g31]
    unfold wntB
    cases nmB ws[i].Kind <;> cases nmB ws[i].Name <;> cases decide (ws[i].Version < 0) <;> rfl
def askOf (s : VGateSlip) : VGateAsk := ⟨s.Ask_Who, s.Ask_Verb, s.Ask_Kind, s.Ask_Name, s.Ask_Team, s.Ask_Values, s.Ask_Holds, s.Ask_Seen, s.Ask_Hold, s.Ask_To, s.Ask_Rule_Verbs, s.Ask_Rule_Kind, s.Ask_Rule_Team, s.Ask_Rule_Prefix, s.Ask_Number⟩
def slipB (l : VGateLaw) (s : VGateSlip) : Bool := nmB s.Door && (askB l (askOf s) && (!decide (s.Given < 0) && (!decide ((s.Wants.length : Int) > 8) && s.Wants.all wntB)))
theorem g14 {l : VGateLaw} {s : VGateSlip} (hl : LwSm l) (ha : AkSm (askOf s)) (hw : s.Wants.length ≤ 1048576) : G14 l s = some (lawB l && slipB l s) := by
  unfold G14 G14n G41 G41n slipB
  simp only [g23 hl, g50, g24 (a := ⟨s.Ask_Who, s.Ask_Verb, s.Ask_Kind, s.Ask_Name, s.Ask_Team, s.Ask_Values, s.Ask_Holds, s.Ask_Seen, s.Ask_Hold, s.Ask_To, s.Ask_Rule_Verbs, s.Ask_Rule_Kind, s.Ask_Rule_Team, s.Ask_Rule_Prefix, s.Ask_Number⟩) hl ha, lp41 hw, Option.bind_some, cond_nand, cond_nand', cond_and, Bool.not_not]
  rfl
theorem g16 {l : VGateLaw} {s : VGateSlip} (hl : LwSm l) (ha : AkSm (askOf s)) (hw : s.Wants.length ≤ 1048576) : G16 l s = some (lawB l && slipB l s) := by
  unfold G16 G16n slipB
  simp only [g31, g10 (a := ⟨s.Ask_Who, s.Ask_Verb, s.Ask_Kind, s.Ask_Name, s.Ask_Team, s.Ask_Values, s.Ask_Holds, s.Ask_Seen, s.Ask_Hold, s.Ask_To, s.Ask_Rule_Verbs, s.Ask_Rule_Kind, s.Ask_Rule_Team, s.Ask_Rule_Prefix, s.Ask_Number⟩) hl ha, lp16 hw, Option.bind_some, cond_nand, cond_nand', cond_and, Bool.not_not]
  congr 1
  show (nmB s.Door && (lawB l && askB l (askOf s) && _)) = _
  cases nmB s.Door <;> cases lawB l <;> rfl
theorem main4 (a0 : VGateLaw) (a1 : VGateSlip) (t0 : s_GateLaw a0 ≤ 1048576) (t1 : s_GateSlip a1 ≤ 1048576) : ∃ R, G14 a0 a1 = some R ∧ G16 a0 a1 = some R ∧ True := by
  unfold s_GateSlip at t1
  have lw := s_GateWantS_len a1.Wants
  have ha : AkSm (askOf a1) := aksm_of (by unfold askOf; omega)
  exact ⟨_, g14 (lwsm_of t0) ha (by omega), g16 (lwsm_of t0) ha (by omega), trivial⟩
end Go.Proofs.YtjodpeldfebhfaaGreat.Ab

/- The plain law: structures that are marked and held. Printed out of the types. -/
set_option linter.unusedVariables false
set_option linter.unusedSimpArgs false
set_option maxRecDepth 10000
namespace Go.Proofs.YtjodpeldfebhfaaGreat.Ab
open Go Go.RowKit

def w_GateSlip (x : VGateSlip) : Nat := 14 + w_StringS x.Ask_Values + w_StringS x.Ask_Holds + w_IntS x.Ask_Rule_Verbs + w_GateWantS x.Wants
theorem ws_GateSlip (x : VGateSlip) : w_GateSlip x ≤ 64 * (1 + s_GateSlip x) := by
  have := w_sum ws_String x.Ask_Values
  have := w_sum ws_String x.Ask_Holds
  have := w_sum ws_Int x.Ask_Rule_Verbs
  have := w_sum ws_GateWant x.Wants
  simp only [w_GateSlip, s_GateSlip, w_GateWantS, s_GateWantS, w_IntS, s_IntS, w_StringS, s_StringS, s_GateAsk, s_GateRule]; omega
def wl_GateSlip (x : VGateSlip) : Nat := w_StringS x.Ask_Values + w_StringS x.Ask_Holds + w_IntS x.Ask_Rule_Verbs + w_GateWantS x.Wants
theorem wl_le_GateSlip (x : VGateSlip) : wl_GateSlip x ≤ w_GateSlip x := by unfold wl_GateSlip w_GateSlip; omega
theorem eq_GateSlip {x : VGateSlip} (h : w_GateSlip x ≤ 1152921504606846976) : G17 x x = some true := by
  unfold w_GateSlip at h
  simp only [G17, G17n, G66, G66n, G67, G67n, G71, G71n, eq_GateAsk (x := (⟨x.Ask_Who, x.Ask_Verb, x.Ask_Kind, x.Ask_Name, x.Ask_Team, x.Ask_Values, x.Ask_Holds, x.Ask_Seen, x.Ask_Hold, x.Ask_To, x.Ask_Rule_Verbs, x.Ask_Rule_Kind, x.Ask_Rule_Team, x.Ask_Rule_Prefix, x.Ask_Number⟩ : VGateAsk)) (by simp only [w_GateAsk]; omega), eq_StringS (xs := x.Ask_Values) (by omega), eq_StringS (xs := x.Ask_Holds) (by omega), eq_IntS (xs := x.Ask_Rule_Verbs) (by omega), eq_GateWantS (xs := x.Wants) (by omega), bne_self_eq_false, cond_false, decide_true, Bool.not_true, Option.bind_some, beq_self_eq_true]
end Go.Proofs.YtjodpeldfebhfaaGreat.Ab

/- The plain law: the function of FnExactGateSlipOk is true. Printed. -/
set_option linter.unusedVariables false
set_option linter.unusedSimpArgs false
set_option maxRecDepth 10000
namespace Go.Proofs.YtjodpeldfebhfaaGreat.Ab
open Go Go.RowKit

theorem sm_str {s : ByteArray} (h : Sm KK (.str s)) : s.size ≤ 9223372036854775807 := by
  cases h; exact max_len ‹_›
theorem pure4 (a0 : VGateLaw) (a1 : VGateSlip) (h0_0 : Sm KK (.row .e90 a0.Shapes)) (h0_1 : Sm KK (.row .e93 a0.Mends)) (h0_2 : Sm KK (.row .e96 a0.Teams)) (h1_0 : Sm KK (.str a1.Door)) (h1_1 : Sm KK (.str a1.Ask_Who)) (h1_2 : Sm KK (.int .i64 a1.Ask_Verb)) (h1_3 : Sm KK (.str a1.Ask_Kind)) (h1_4 : Sm KK (.str a1.Ask_Name)) (h1_5 : Sm KK (.str a1.Ask_Team)) (h1_6 : Sm KK (.row .e9 a1.Ask_Values)) (h1_7 : Sm KK (.row .e9 a1.Ask_Holds)) (h1_8 : Sm KK (.int .i64 a1.Ask_Seen)) (h1_9 : Sm KK (.str a1.Ask_Hold)) (h1_10 : Sm KK (.str a1.Ask_To)) (h1_11 : Sm KK (.row .e3 a1.Ask_Rule_Verbs)) (h1_12 : Sm KK (.str a1.Ask_Rule_Kind)) (h1_13 : Sm KK (.str a1.Ask_Rule_Team)) (h1_14 : Sm KK (.str a1.Ask_Rule_Prefix)) (h1_15 : Sm KK (.int .i64 a1.Ask_Number)) (h1_16 : Sm KK (.int .i64 a1.Given)) (h1_17 : Sm KK (.row .e127 a1.Wants)) : G4 a0 a1 = some true := by
  unfold G4 G4n
  obtain ⟨r1, e1, q1 | ⟨p1, q1⟩⟩ := sz_GateLaw (x := a0) ⟨sm_GateShapeS_of h0_0, sm_GateMendS_of h0_1, sm_GateTeamS_of h0_2, trivial⟩ (a := 1048576) (by omega) (by omega)
  · simp only [e1, q1, Option.bind_some, decide_true, decide_false, cond_true, cond_false]
  have n1 : ¬ r1 < 0 := by omega
  obtain ⟨r2, e2, q2 | ⟨p2, q2⟩⟩ := sz_GateSlip (x := a1) ⟨sm_str h1_0, ⟨sm_str h1_1, sm_str h1_3, sm_str h1_4, sm_str h1_5, sm_StringS_of h1_6, sm_StringS_of h1_7, sm_str h1_9, sm_str h1_10, ⟨sm_IntS_of h1_11, sm_str h1_12, sm_str h1_13, sm_str h1_14, trivial⟩, trivial⟩, sm_GateWantS_of h1_17, trivial⟩ (a := r1) p1 (by omega)
  · simp only [e1, n1, e2, q2, Option.bind_some, decide_true, decide_false, cond_true, cond_false]
  have n2 : ¬ r2 < 0 := by omega
  have t0 : s_GateLaw a0 ≤ 1048576 := by omega
  have t1 : s_GateSlip a1 ≤ 1048576 := by omega
  obtain ⟨R0, sp, im, -⟩ := main4 a0 a1 t0 t1
  have w0 := ws_GateLaw a0
  have w1 := ws_GateSlip a1
  simp only [e1, n1, e2, n2, sp, im, to_GateLaw t0, eq_GateLaw (x := a0) (by omega), to_GateSlip t1, eq_GateSlip (x := a1) (by omega), Option.bind_some, decide_false, decide_true, cond_false, cond_true, Bool.not_true, Bool.not_false, bne_self_eq_false, beq_self_eq_true, eq_self_iff_true]
end Go.Proofs.YtjodpeldfebhfaaGreat.Ab

