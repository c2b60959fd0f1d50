/- The plain law, part 1: names, rules, sizes, copies. -/
import Derived.Test.YtgpopgfidphheaaGc
set_option linter.unusedVariables false
set_option linter.unusedSimpArgs false
namespace Go.Proofs.Ytgpopgfidphheaa.Ab
open Go Go.RowKit

theorem fuel_big : 1152921504606846976 ≤ fuel := by unfold fuel; omega
theorem alt_self {R : Type} (a : Option R) : alt a a = a := by
  unfold alt
  cases a <;> simp
theorem wrap_nat {i : Nat} (h : i < 4611686018427387904) : IntKind.i64.wrap ((i : Int) + 1) = ((i + 1 : Nat) : Int) := by
  rw [wrap_id (by omega) (by omega)]; rfl
theorem lp_succ {A R : Type} (rnd : (A → Option R) → A → Option R) (n : Nat) (x : A) : lpN rnd (n + 1) x = rnd (lpN rnd n) x := rfl
/-- A loop over places, its state told place by place. -/
theorem lp_idx {A R : Type} {rnd : (A → Option R) → A → Option R} (st : Nat → A) (val : Nat → Option R) (len : Nat) (hend : ∀ rec, rnd rec (st len) = val len) (hstep : ∀ rec i, i < len → rec (st (i + 1)) = val (i + 1) → rnd rec (st i) = val i) :
    ∀ n i, i ≤ len → len - i < n → lpN rnd n (st i) = val i := by
  intro n
  induction n with
  | zero => intro i _ h; omega
  | succ n ih =>
    intro i hi hn
    rw [lp_succ]
    rcases Nat.lt_or_ge i len with h | h
    · exact hstep _ i h (ih (i + 1) (by omega) (by omega))
    · have e : i = len := by omega
      subst e
      exact hend _
theorem get_cast {α : Type} {xs : List α} {i : Nat} (h : i < xs.length) : xs[((i : Int)).toNat]? = some xs[i] := by simp [h]

/-! ### Names -/
def bOk (c : Int) : Bool := (decide (97 ≤ c) && decide (c ≤ 122)) || (decide (48 ≤ c) && decide (c ≤ 57)) || c == 45
theorem g71 (c : Int) : G71 c = some (bOk c) := by
  unfold G71 G71n bOk
  by_cases h1 : 97 ≤ c <;> by_cases h2 : c ≤ 122 <;> by_cases h3 : 48 ≤ c <;> by_cases h4 : c ≤ 57 <;> simp [h1, h2, h3, h4]
theorem g98 (c : Int) : G98 c = some (bOk c) := g71 c
def allB (s : ByteArray) (i : Nat) : Bool := (List.range' i (s.size - i)).all fun j => bOk (sbt s (j : Int))
theorem allB_step {s : ByteArray} {i : Nat} (h : i < s.size) : allB s i = (bOk (sbt s (i : Int)) && allB s (i + 1)) := by
  unfold allB
  rw [show s.size - i = (s.size - (i + 1)) + 1 by omega, List.range'_succ]
  rfl
theorem allB_end (s : ByteArray) : allB s s.size = true := by simp [allB]
theorem lp38 {s : ByteArray} (hs : s.size ≤ 281474976710656) {n : Nat} (hn : s.size < n) : lpN (r38_0 fuel) n (s, 0) = some (allB s 0) :=
  lp_idx (st := fun i => (s, (i : Int))) (val := fun i => some (allB s i)) s.size (fun rec => by simp [r38_0, allB_end]) (fun rec i hi hr => by
    rw [← wrap_nat (by omega)] at hr
    have h1 : (i : Int) < (s.size : Int) := by omega
    simp only [r38_0, h1, decide_true, cond_true, Int.natCast_nonneg, g71, Option.bind_some, allB_step hi]
    cases hb : bOk (sbt s (i : Int)) with
    | true => simpa using hr
    | false => rfl) n 0 (Nat.zero_le _) (by omega)
theorem lp92 {s : ByteArray} (hs : s.size ≤ 281474976710656) {n : Nat} (hn : s.size < n) : lpN (r92_0 fuel) n (s, (s.size : Int), 0) = some (allB s 0) :=
  lp_idx (st := fun i => (s, (s.size : Int), (i : Int))) (val := fun i => some (allB s i)) s.size (fun rec => by simp [r92_0, allB_end]) (fun rec i hi hr => by
    rw [← wrap_nat (by omega)] at hr
    have h1 : (i : Int) < (s.size : Int) := by omega
    simp only [r92_0, h1, decide_true, cond_true, Int.natCast_nonneg, g98, Option.bind_some, allB_step hi]
    cases hb : bOk (sbt s (i : Int)) with
    | true => simpa using hr
    | false => rfl) n 0 (Nat.zero_le _) (by omega)
theorem lp75 {s : ByteArray} (hs : s.size ≤ 281474976710656) {n : Nat} (hn : s.size < n) : lpN (r75_0 fuel) n (s, (s.size : Int), 0) = some (allB s 0) :=
  lp_idx (st := fun i => (s, (s.size : Int), (i : Int))) (val := fun i => some (allB s i)) s.size (fun rec => by simp [r75_0, allB_end]) (fun rec i hi hr => by
    rw [← wrap_nat (by omega)] at hr
    have h1 : (i : Int) < (s.size : Int) := by omega
    simp only [r75_0, h1, decide_true, cond_true, Int.natCast_nonneg, allB_step hi]
    generalize sbt s (i : Int) = c
    have e1 : decide (97 ≤ c) = !decide (c < 97) := by by_cases h : c < 97 <;> simp [h] <;> omega
    have e2 : decide (c ≤ 122) = !decide (c > 122) := by by_cases h : c > 122 <;> simp [h] <;> omega
    have e3 : decide (48 ≤ c) = !decide (c < 48) := by by_cases h : c < 48 <;> simp [h] <;> omega
    have e4 : decide (c ≤ 57) = !decide (c > 57) := by by_cases h : c > 57 <;> simp [h] <;> omega
    have e5 : (c != 45) = !(c == 45) := rfl
    unfold bOk
    rw [e1, e2, e3, e4, e5]
    generalize decide (c < 97) = b1
    generalize decide (c > 122) = b2
    generalize decide (c < 48) = b3
    generalize decide (c > 57) = b4
    generalize (c == 45) = b5
    cases b1 <;> cases b2 <;> cases b3 <;> cases b4 <;> cases b5 <;> simp [hr]) n 0 (Nat.zero_le _) (by omega)
def nmB (s : ByteArray) : Bool := decide (1 ≤ s.size) && (decide (s.size ≤ 16) && allB s 0)
theorem g16 (a b c : Int) : G16 a b c = some (decide (b ≤ a) && decide (a ≤ c)) := by
  unfold G16 G16n
  by_cases h : b ≤ a <;> simp [h]
theorem g38 (s : ByteArray) : G38 s = some (nmB s) := by
  unfold G38 G38n nmB
  rw [g16]
  by_cases h1 : 1 ≤ s.size
  · by_cases h2 : s.size ≤ 16
    · have e1 : (1 : Int) ≤ (s.size : Int) := by omega
      have e2 : (s.size : Int) ≤ 16 := by omega
      simp only [e1, e2, h1, h2, decide_true, Bool.and_self, Option.bind_some, Bool.not_true, cond_false, Bool.true_and]
      exact lp38 (by omega) (by have := fuel_big; omega)
    · have e2 : ¬ (s.size : Int) ≤ 16 := by omega
      simp [e2, h2]
  · have e1 : ¬ (1 : Int) ≤ (s.size : Int) := by omega
    simp [e1, h1]
theorem g73 (s : ByteArray) : G73 s = some (nmB s) := by
  unfold G73 G73n nmB
  by_cases h1 : 1 ≤ s.size
  · by_cases h2 : s.size ≤ 16
    · have e1 : (s.size : Int) ≥ 1 := by omega
      have e2 : (s.size : Int) ≤ 16 := by omega
      have : G92 s = some (allB s 0) := lp92 (by omega) (by have := fuel_big; omega)
      simp [e1, e2, h1, h2, this]
    · have e2 : ¬ (s.size : Int) ≤ 16 := by omega
      simp [e2, h2]
  · have e1 : ¬ (1 : Int) ≤ (s.size : Int) := by omega
    simp [e1, h1]
theorem g75 {s : ByteArray} (h : s.size ≤ 16) : G75 s = some (allB s 0) := lp75 (by omega) (by have := fuel_big; omega)
theorem g46 (s : ByteArray) : G46 s = some (nmB s) := by
  unfold G46 G46n nmB
  by_cases h1 : 1 ≤ s.size
  · by_cases h2 : s.size ≤ 16
    · have e1 : (s.size : Int) ≥ 1 := by omega
      have e2 : (s.size : Int) ≤ 16 := by omega
      simp [e1, e2, h1, h2, g75 h2]
    · have e2 : ¬ (s.size : Int) ≤ 16 := by omega
      simp [e2, h2]
  · have e1 : ¬ (1 : Int) ≤ (s.size : Int) := by omega
    simp [e1, h1]
end Go.Proofs.Ytgpopgfidphheaa.Ab
