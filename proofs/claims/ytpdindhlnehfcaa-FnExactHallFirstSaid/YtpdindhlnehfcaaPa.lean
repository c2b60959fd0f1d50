/- The plain law, part 1: names, rules, sizes, copies. -/
import Derived.Test.YtpdindhlnehfcaaGb
set_option linter.unusedVariables false
set_option linter.unusedSimpArgs false
namespace Go.Proofs.Ytpdindhlnehfcaa.Ab
open Go Go.RowKit

theorem fuel_big : 1152921504606846976 ≤ fuel := by unfold fuel; omega
theorem alt_self {R : Type} (a : Option R) : alt a a = a := by
  unfold alt
  cases a <;> simp
theorem wrap_nat {i : Nat} (h : i < 4611686018427387904) : IntKind.i64.wrap ((i : Int) + 1) = ((i + 1 : Nat) : Int) := by
  rw [wrap_id (by omega) (by omega)]; rfl
theorem lp_succ {A R : Type} (rnd : (A → Option R) → A → Option R) (n : Nat) (x : A) : lpN rnd (n + 1) x = rnd (lpN rnd n) x := rfl
/-- A loop over places, its state told place by place. -/
theorem lp_idx {A R : Type} {rnd : (A → Option R) → A → Option R} (st : Nat → A) (val : Nat → Option R) (len : Nat) (hend : ∀ rec, rnd rec (st len) = val len) (hstep : ∀ rec i, i < len → rec (st (i + 1)) = val (i + 1) → rnd rec (st i) = val i) :
    ∀ n i, i ≤ len → len - i < n → lpN rnd n (st i) = val i := by
  intro n
  induction n with
  | zero => intro i _ h; omega
  | succ n ih =>
    intro i hi hn
    rw [lp_succ]
    rcases Nat.lt_or_ge i len with h | h
    · exact hstep _ i h (ih (i + 1) (by omega) (by omega))
    · have e : i = len := by omega
      subst e
      exact hend _
theorem get_cast {α : Type} {xs : List α} {i : Nat} (h : i < xs.length) : xs[((i : Int)).toNat]? = some xs[i] := by simp [h]

/-! ### Names -/
def bOk (c : Int) : Bool := (decide (97 ≤ c) && decide (c ≤ 122)) || (decide (48 ≤ c) && decide (c ≤ 57)) || c == 45
theorem g72 (c : Int) : G72 c = some (bOk c) := by
  unfold G72 G72n bOk
  by_cases h1 : 97 ≤ c <;> by_cases h2 : c ≤ 122 <;> by_cases h3 : 48 ≤ c <;> by_cases h4 : c ≤ 57 <;> simp [h1, h2, h3, h4]
theorem g92 (c : Int) : G92 c = some (bOk c) := g72 c
def allB (s : ByteArray) (i : Nat) : Bool := (List.range' i (s.size - i)).all fun j => bOk (sbt s (j : Int))
theorem allB_step {s : ByteArray} {i : Nat} (h : i < s.size) : allB s i = (bOk (sbt s (i : Int)) && allB s (i + 1)) := by
  unfold allB
  rw [show s.size - i = (s.size - (i + 1)) + 1 by omega, List.range'_succ]
  rfl
theorem allB_end (s : ByteArray) : allB s s.size = true := by simp [allB]
theorem lp34 {s : ByteArray} (hs : s.size ≤ 281474976710656) {n : Nat} (hn : s.size < n) : lpN (r34_0 fuel) n (s, 0) = some (allB s 0) :=
  lp_idx (st := fun i => (s, (i : Int))) (val := fun i => some (allB s i)) s.size (fun rec => by simp [r34_0, allB_end]) (fun rec i hi hr => by
    rw [← wrap_nat (by omega)] at hr
    have h1 : (i : Int) < (s.size : Int) := by omega
    simp only [r34_0, h1, decide_true, cond_true, Int.natCast_nonneg, g72, Option.bind_some, allB_step hi]
    cases hb : bOk (sbt s (i : Int)) with
    | true => simpa using hr
    | false => rfl) n 0 (Nat.zero_le _) (by omega)
theorem lp89 {s : ByteArray} (hs : s.size ≤ 281474976710656) {n : Nat} (hn : s.size < n) : lpN (r89_0 fuel) n (s, (s.size : Int), 0) = some (allB s 0) :=
  lp_idx (st := fun i => (s, (s.size : Int), (i : Int))) (val := fun i => some (allB s i)) s.size (fun rec => by simp [r89_0, allB_end]) (fun rec i hi hr => by
    rw [← wrap_nat (by omega)] at hr
    have h1 : (i : Int) < (s.size : Int) := by omega
    simp only [r89_0, h1, decide_true, cond_true, Int.natCast_nonneg, g92, Option.bind_some, allB_step hi]
    cases hb : bOk (sbt s (i : Int)) with
    | true => simpa using hr
    | false => rfl) n 0 (Nat.zero_le _) (by omega)
theorem lp76 {s : ByteArray} (hs : s.size ≤ 281474976710656) {n : Nat} (hn : s.size < n) : lpN (r76_0 fuel) n (s, (s.size : Int), 0) = some (allB s 0) :=
  lp_idx (st := fun i => (s, (s.size : Int), (i : Int))) (val := fun i => some (allB s i)) s.size (fun rec => by simp [r76_0, allB_end]) (fun rec i hi hr => by
    rw [← wrap_nat (by omega)] at hr
    have h1 : (i : Int) < (s.size : Int) := by omega
    simp only [r76_0, h1, decide_true, cond_true, Int.natCast_nonneg, allB_step hi]
    generalize sbt s (i : Int) = c
    have e1 : decide (97 ≤ c) = !decide (c < 97) := by by_cases h : c < 97 <;> simp [h] <;> omega
    have e2 : decide (c ≤ 122) = !decide (c > 122) := by by_cases h : c > 122 <;> simp [h] <;> omega
    have e3 : decide (48 ≤ c) = !decide (c < 48) := by by_cases h : c < 48 <;> simp [h] <;> omega
    have e4 : decide (c ≤ 57) = !decide (c > 57) := by by_cases h : c > 57 <;> simp [h] <;> omega
    have e5 : (c != 45) = !(c == 45) := rfl
    unfold bOk
    rw [e1, e2, e3, e4, e5]
    generalize decide (c < 97) = b1
    generalize decide (c > 122) = b2
    generalize decide (c < 48) = b3
    generalize decide (c > 57) = b4
    generalize (c == 45) = b5
    cases b1 <;> cases b2 <;> cases b3 <;> cases b4 <;> cases b5 <;> simp [hr]) n 0 (Nat.zero_le _) (by omega)
def nmB (s : ByteArray) : Bool := decide (1 ≤ s.size) && (decide (s.size ≤ 16) && allB s 0)
theorem g71 (a b c : Int) : G71 a b c = some (decide (b ≤ a) && decide (a ≤ c)) := by
  unfold G71 G71n
  by_cases h : b ≤ a <;> simp [h]
theorem g34 (s : ByteArray) : G34 s = some (nmB s) := by
  unfold G34 G34n nmB
  rw [g71]
  by_cases h1 : 1 ≤ s.size
  · by_cases h2 : s.size ≤ 16
    · have e1 : (1 : Int) ≤ (s.size : Int) := by omega
      have e2 : (s.size : Int) ≤ 16 := by omega
      simp only [e1, e2, h1, h2, decide_true, Bool.and_self, Option.bind_some, Bool.not_true, cond_false, Bool.true_and]
      exact lp34 (by omega) (by have := fuel_big; omega)
    · have e2 : ¬ (s.size : Int) ≤ 16 := by omega
      simp [e2, h2]
  · have e1 : ¬ (1 : Int) ≤ (s.size : Int) := by omega
    simp [e1, h1]
theorem g74 (s : ByteArray) : G74 s = some (nmB s) := by
  unfold G74 G74n nmB
  by_cases h1 : 1 ≤ s.size
  · by_cases h2 : s.size ≤ 16
    · have e1 : (s.size : Int) ≥ 1 := by omega
      have e2 : (s.size : Int) ≤ 16 := by omega
      have : G89 s = some (allB s 0) := lp89 (by omega) (by have := fuel_big; omega)
      simp [e1, e2, h1, h2, this]
    · have e2 : ¬ (s.size : Int) ≤ 16 := by omega
      simp [e2, h2]
  · have e1 : ¬ (1 : Int) ≤ (s.size : Int) := by omega
    simp [e1, h1]
theorem g76 {s : ByteArray} (h : s.size ≤ 16) : G76 s = some (allB s 0) := lp76 (by omega) (by have := fuel_big; omega)
theorem g41 (s : ByteArray) : G41 s = some (nmB s) := by
  unfold G41 G41n nmB
  by_cases h1 : 1 ≤ s.size
  · by_cases h2 : s.size ≤ 16
    · have e1 : (s.size : Int) ≥ 1 := by omega
      have e2 : (s.size : Int) ≤ 16 := by omega
      simp [e1, e2, h1, h2, g76 h2]
    · have e2 : ¬ (s.size : Int) ≤ 16 := by omega
      simp [e2, h2]
  · have e1 : ¬ (1 : Int) ≤ (s.size : Int) := by omega
    simp [e1, h1]
end Go.Proofs.Ytpdindhlnehfcaa.Ab
