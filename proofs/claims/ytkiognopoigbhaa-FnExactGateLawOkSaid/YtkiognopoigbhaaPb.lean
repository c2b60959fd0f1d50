/- The plain law: what fits into a field. -/
import Derived.Test.YtkiognopoigbhaaPa
set_option linter.unusedVariables false
set_option linter.unusedSimpArgs false
namespace Go.Proofs.Ytkiognopoigbhaa.Ab
open Go Go.RowKit

theorem sbt_rng (s : ByteArray) (i : Int) : 0 ≤ sbt s i ∧ sbt s i ≤ 255 := by
  unfold sbt
  split
  · rename_i b h
    have := b.toNat_lt
    omega
  · omega
/-! ### Numbers -/
def pw : Nat → Int
  | 0 => 1
  | i + 1 => 10 * pw i
theorem pw_le : ∀ i < 7, pw i ≤ 1000000 := by decide
def numL (s : ByteArray) : Nat → Nat → Int → Option Int
  | 0, _, acc => some acc
  | k + 1, i, acc => cond (decide (sbt s (i : Int) < 48)) none (cond (decide (sbt s (i : Int) > 57)) none (numL s k (i + 1) (acc * 10 + (sbt s (i : Int) - 48))))
theorem numL_pos {s : ByteArray} : ∀ {k i : Nat} {acc v : Int}, 0 ≤ acc → numL s k i acc = some v → 0 ≤ v
  | 0, _, _, _, h, e => by simp only [numL, Option.some.injEq] at e; omega
  | k + 1, i, acc, v, h, e => by
    simp only [numL] at e
    by_cases h1 : sbt s (i : Int) < 48
    · simp [h1] at e
    · by_cases h2 : sbt s (i : Int) > 57
      · simp [h1, h2] at e
      · simp only [h1, h2, decide_false, cond_false] at e
        exact numL_pos (by omega) e
theorem lp123 {s : ByteArray} (hs : s.size ≤ 7) : ∀ (k i : Nat) (acc : Int) (n : Nat), i + k = s.size → 0 ≤ acc → acc < pw i → k < n → lpN (r123_0 fuel) n (s, acc, (i : Int)) = some ((numL s k i acc).getD (-1)) := by
  intro k
  induction k with
  | zero =>
    intro i acc n hi h0 h1 hn
    rw [lp_open (by omega)]
    have : ¬ (i : Int) < (s.size : Int) := by omega
    simp [r123_0, this, numL]
  | succ k ih =>
    intro i acc n hi h0 h1 hn
    rw [lp_open (by omega)]
    have hlt : (i : Int) < (s.size : Int) := by omega
    have hw := wrap_nat (i := i) (by omega)
    have hp := pw_le i (by omega)
    have hr := sbt_rng s (i : Int)
    simp only [r123_0, hlt, decide_true, cond_true, Int.natCast_nonneg, hw, numL]
    by_cases c1 : sbt s (i : Int) < 48
    · simp [c1]
    · by_cases c2 : sbt s (i : Int) > 57
      · simp [c1, c2]
      · have e1 : IntKind.i64.wrap (acc * 10) = acc * 10 := wrap_id (by omega) (by omega)
        have e2 : IntKind.i64.wrap (sbt s (i : Int)) = sbt s (i : Int) := wrap_id (by omega) (by omega)
        have e3 : IntKind.i64.wrap (acc * 10 + sbt s (i : Int)) = acc * 10 + sbt s (i : Int) := wrap_id (by omega) (by omega)
        have e4 : IntKind.i64.wrap (acc * 10 + sbt s (i : Int) - 48) = acc * 10 + (sbt s (i : Int) - 48) := by rw [wrap_id (by omega) (by omega)]; omega
        simp only [c1, c2, decide_false, cond_false, e1, e2, e3, e4]
        exact ih (i + 1) _ (n - 1) (by omega) (by omega) (by simp only [pw]; omega) (by omega)
theorem lp157 {s : ByteArray} (hs : s.size ≤ 7) : ∀ (k i : Nat) (acc : Int) (n : Nat), i + k = s.size → 0 ≤ acc → acc < pw i → k < n → lpN (r157_0 fuel) n (s, acc, (s.size : Int), (i : Int)) = some (match numL s k i acc with | some v => (v, true) | none => (0, false)) := by
  intro k
  induction k with
  | zero =>
    intro i acc n hi h0 h1 hn
    rw [lp_open (by omega)]
    have : ¬ (i : Int) < (s.size : Int) := by omega
    simp [r157_0, this, numL]
  | succ k ih =>
    intro i acc n hi h0 h1 hn
    rw [lp_open (by omega)]
    have hlt : (i : Int) < (s.size : Int) := by omega
    have hw := wrap_nat (i := i) (by omega)
    have hp := pw_le i (by omega)
    have hr := sbt_rng s (i : Int)
    simp only [r157_0, hlt, decide_true, cond_true, Int.natCast_nonneg, hw, numL]
    by_cases c1 : sbt s (i : Int) < 48
    · simp [c1]
    · by_cases c2 : sbt s (i : Int) > 57
      · simp [c1, c2]
      · have e1 : IntKind.i64.wrap (acc * 10) = acc * 10 := wrap_id (by omega) (by omega)
        have e2 : IntKind.u8.wrap (sbt s (i : Int) - 48) = sbt s (i : Int) - 48 := by
          simp [IntKind.wrap, IntKind.bits, IntKind.signed]
          omega
        have e3 : IntKind.i64.wrap (sbt s (i : Int) - 48) = sbt s (i : Int) - 48 := wrap_id (by omega) (by omega)
        have e4 : IntKind.i64.wrap (acc * 10 + (sbt s (i : Int) - 48)) = acc * 10 + (sbt s (i : Int) - 48) := wrap_id (by omega) (by omega)
        simp only [c1, c2, decide_false, cond_false, e1, e2, e3, e4]
        exact ih (i + 1) _ (n - 1) (by omega) (by omega) (by simp only [pw]; omega) (by omega)
def numB (s : ByteArray) : Option Int := cond (decide (1 ≤ s.size) && decide (s.size ≤ 7)) (cond (decide (1 < s.size) && (sbt s 0 == 48)) none (numL s s.size 0 0)) none
theorem numB_pos {s : ByteArray} {v : Int} (h : numB s = some v) : 0 ≤ v := by
  unfold numB at h
  cases hc : (decide (1 ≤ s.size) && decide (s.size ≤ 7)) with
  | false => rw [hc] at h; cases h
  | true =>
    rw [hc] at h
    cases hd : (decide (1 < s.size) && (sbt s 0 == 48)) with
    | true => rw [hd] at h; cases h
    | false => rw [hd] at h; exact numL_pos (Int.le_refl 0) h
theorem g123 (s : ByteArray) : G123 s = some ((numB s).getD (-1)) := by
  unfold G123 G123n numB
  rw [g104]
  by_cases h1 : 1 ≤ s.size
  · by_cases h2 : s.size ≤ 7
    · have e1 : (1 : Int) ≤ (s.size : Int) := by omega
      have e2 : (s.size : Int) ≤ 7 := by omega
      have e0 : (0 : Int) < (s.size : Int) := by omega
      have hl : LP123_0 fuel (s, 0, 0) = some ((numL s s.size 0 0).getD (-1)) := lp123 h2 s.size 0 0 fuel (by omega) (Int.le_refl _) (by decide) (by have := fuel_big; omega)
      simp only [e1, e2, e0, h1, h2, decide_true, Bool.and_self, Option.bind_some, Bool.not_true, cond_false, cond_true, hl, Int.le_refl]
      by_cases h3 : 1 < s.size
      · have e3 : (s.size : Int) > 1 := by omega
        simp only [h3, e3, decide_true, cond_true, Bool.true_and]
        cases sbt s 0 == 48 <;> rfl
      · have e3 : ¬ (s.size : Int) > 1 := by omega
        simp only [h3, e3, decide_false, cond_false, Bool.false_and]
    · have e2 : ¬ (s.size : Int) ≤ 7 := by omega
      simp [e2, h2]
  · have e1 : ¬ (1 : Int) ≤ (s.size : Int) := by omega
    simp [e1, h1]
theorem g157 (s : ByteArray) : G157 s = some (match numB s with | some v => (v, true) | none => (0, false)) := by
  unfold G157 G157n numB
  by_cases h1 : 1 ≤ s.size
  · by_cases h2 : s.size ≤ 7
    · have e1 : ¬ (s.size : Int) < 1 := by omega
      have e2 : ¬ (s.size : Int) > 7 := by omega
      have e0 : (0 : Int) < (s.size : Int) := by omega
      have hl : LP157_0 fuel (s, 0, (s.size : Int), 0) = some (match numL s s.size 0 0 with | some v => (v, true) | none => (0, false)) := lp157 h2 s.size 0 0 fuel (by omega) (Int.le_refl _) (by decide) (by have := fuel_big; omega)
      simp only [e1, e2, e0, h1, h2, decide_true, decide_false, Bool.and_self, Option.bind_some, Bool.not_true, cond_false, cond_true, hl, Int.le_refl]
      by_cases h3 : 1 < s.size
      · have e3 : (s.size : Int) > 1 := by omega
        simp only [h3, e3, decide_true, cond_true, Bool.true_and]
        cases sbt s 0 == 48 <;> rfl
      · have e3 : ¬ (s.size : Int) > 1 := by omega
        simp only [h3, e3, decide_false, cond_false, Bool.false_and]
        cases sbt s 0 == 48 <;> rfl
    · have e1 : ¬ (s.size : Int) < 1 := by omega
      have e2 : (s.size : Int) > 7 := by omega
      simp [e1, e2, h2]
  · have e1 : (s.size : Int) < 1 := by omega
    simp [e1, h1]
/-! ### Texts -/
def prAt (s : ByteArray) (j : Nat) : Bool := decide (33 ≤ sbt s (j : Int)) && decide (sbt s (j : Int) ≤ 126)
def prB (s : ByteArray) : Bool := allN (prAt s) s.size 0
theorem lp162 {s : ByteArray} (hs : s.size ≤ 1048576) : LP162_0 fuel (s, (s.size : Int), 0) = some (prB s) :=
  lp_idx (st := fun i => (s, (s.size : Int), (i : Int))) (val := fun i => some (allN (prAt s) s.size i)) s.size (fun rec => by simp [r162_0, allN_end]) (fun rec i hi hr => by
    have hw := wrap_nat (i := i) (by omega)
    have h1 : (i : Int) < (s.size : Int) := by omega
    simp only [r162_0, h1, decide_true, cond_true, Int.natCast_nonneg, hw]
    rw [allN_step hi]
    unfold prAt
    by_cases c1 : sbt s (i : Int) < 48 - 15
    · have c1' : sbt s (i : Int) < 33 := by omega
      have c2 : ¬ 33 ≤ sbt s (i : Int) := by omega
      simp [c1', c2]
    · have c1' : ¬ sbt s (i : Int) < 33 := by omega
      have c2 : 33 ≤ sbt s (i : Int) := by omega
      by_cases d1 : sbt s (i : Int) > 126
      · have d2 : ¬ sbt s (i : Int) ≤ 126 := by omega
        simp [c1', c2, d1, d2]
      · have d2 : sbt s (i : Int) ≤ 126 := by omega
        simp only [c1', c2, d1, d2, decide_true, decide_false, cond_false, Bool.true_and]
        exact hr) fuel 0 (Nat.zero_le _) (by have := fuel_big; omega)
theorem lp101 {s : ByteArray} (hs : s.size ≤ 1048576) {a2 a3 a4 a5 a6 a7 a8 a9 a10 a11 a12} : LP101_0 fuel (s, 0, a2, a3, a4, a5, a6, a7, a8, a9, a10, a11, a12) = some (prB s && (!decide (s = ⟨#[]⟩) && (decide (a4 ≤ (s.size : Int)) && decide ((s.size : Int) ≤ a5)))) :=
  lp_idx (st := fun i => (s, (i : Int), a2, a3, a4, a5, a6, a7, a8, a9, a10, a11, a12)) (val := fun i => some (allN (prAt s) s.size i && (!decide (s = ⟨#[]⟩) && (decide (a4 ≤ (s.size : Int)) && decide ((s.size : Int) ≤ a5))))) s.size (fun rec => by
    simp only [r101_0, allN_end, Int.lt_irrefl, decide_false, cond_false, g104, Option.bind_some, Bool.true_and]
    cases decide (s = ⟨#[]⟩) <;> rfl) (fun rec i hi hr => by
    have hw := wrap_nat (i := i) (by omega)
    have h1 : (i : Int) < (s.size : Int) := by omega
    have hg := sbt_rng s (i : Int)
    have e2 : IntKind.i64.wrap (sbt s (i : Int)) = sbt s (i : Int) := wrap_id (by omega) (by omega)
    simp only [r101_0, h1, decide_true, cond_true, Int.natCast_nonneg, hw, g104, e2, Option.bind_some]
    rw [allN_step hi, show prAt s i = (decide (33 ≤ sbt s (i : Int)) && decide (sbt s (i : Int) ≤ 126)) from rfl]
    cases (decide (33 ≤ sbt s (i : Int)) && decide (sbt s (i : Int) ≤ 126)) with
    | true => simpa using hr
    | false => rfl) fuel 0 (Nat.zero_le _) (by have := fuel_big; omega)
/-! ### What fits -/
def fitB (f : VGateField) (s : ByteArray) : Bool :=
  cond (f.Kind == 1) (match numB s with | some v => decide (f.Least ≤ v) && decide (v ≤ f.Most) | none => false)
  (cond (f.Kind == 2) (!decide (s = ⟨#[]⟩) && hasB f.Words s)
  (cond (f.Kind == 3) (prB s && (!decide (s = ⟨#[]⟩) && (decide (f.Least ≤ (s.size : Int)) && decide ((s.size : Int) ≤ f.Most))))
  (cond (f.Kind == 4) (nmB s) false)))
theorem g101 {f : VGateField} {s : ByteArray} (hw : f.Words.length ≤ 1048576) (hs : s.size ≤ 1048576) : G101 f s = some (fitB f s) := by
  unfold G101 G101n fitB
  rw [g123, g102 hw, g74, lp101 hs]
  cases f.Kind == 1 with
  | true =>
    simp only [cond_true, Option.bind_some]
    cases hn : numB s with
    | none => simp
    | some v =>
      have := numB_pos hn
      simp [this, g104]
  | false =>
    simp only [cond_false]
    cases f.Kind == 2 with
    | true =>
      simp only [cond_true, Option.bind_some]
      cases decide (s = ⟨#[]⟩) <;> rfl
    | false =>
      simp only [cond_false]
      cases f.Kind == 3 with
      | true => rfl
      | false =>
        simp only [cond_false]
        cases f.Kind == 4 <;> rfl
theorem num_nil : numB ⟨#[]⟩ = none := rfl
theorem dec_beq (a b : Int) : decide (a = b) = (b == a) := by
  by_cases h : a = b
  · subst h; simp
  · have : ¬ b = a := fun e => h e.symm
    simp [h, this]
theorem g98 {f : VGateField} {s : ByteArray} (hw : f.Words.length ≤ 1048576) (hs : s.size ≤ 1048576) : G98 f s = some (fitB f s) := by
  unfold G98 G98n fitB
  simp only [dec_beq]
  have q1 : ∀ x : VnumberField, x.GateField_Least = f.Least → x.GateField_Most = f.Most → G155 x s = some (match numB s with | some v => decide (f.Least ≤ v) && decide (v ≤ f.Most) | none => false) := fun x e1 e2 => by
    unfold G155 G155n
    rw [g157, e1, e2]
    cases numB s with
    | none => rfl
    | some v =>
      simp only [Option.bind_some, cond_true, ge_iff_le]
      cases decide (f.Least ≤ v) <;> rfl
  have q2 : ∀ x : VwordField, x.GateField_Words = f.Words → G159 x s = some (hasB f.Words s) := fun x e => by
    unfold G159 G159n
    rw [e]
    exact lp159 hw s
  have q3 : ∀ x : VtextField, x.GateField_Least = f.Least → x.GateField_Most = f.Most → G162 x s = some (prB s && (decide (f.Least ≤ (s.size : Int)) && decide ((s.size : Int) ≤ f.Most))) := fun x e1 e2 => by
    unfold G162 G162n
    rw [lp162 hs, e1, e2]
    by_cases c1 : (s.size : Int) < f.Least
    · have c2 : ¬ f.Least ≤ (s.size : Int) := by omega
      simp [c1, c2]
    · have c2 : f.Least ≤ (s.size : Int) := by omega
      by_cases d1 : (s.size : Int) > f.Most
      · have d2 : ¬ (s.size : Int) ≤ f.Most := by omega
        simp [c1, c2, d1, d2]
      · have d2 : (s.size : Int) ≤ f.Most := by omega
        simp [c1, c2, d1, d2]
  have q4 : ∀ x : VlinkField, G165 x s = some (nmB s) := fun x => by
    unfold G165 G165n
    rw [g78]; rfl
  have n1 : decide (s = ⟨#[]⟩) = true → numB s = none := fun h => by rw [of_decide_eq_true h]; exact num_nil
  have n4 : decide (s = ⟨#[]⟩) = true → nmB s = false := fun h => by rw [of_decide_eq_true h]; exact nm_nil
  rw [q1 _ rfl rfl, q2 _ rfl, q3 _ rfl rfl, q4]
  cases f.Kind == 1 with
  | true =>
    simp only [cond_true, Option.bind_some]
    cases hd : decide (s = ⟨#[]⟩) with
    | false => rfl
    | true => rw [n1 hd]; rfl
  | false =>
    simp only [cond_false]
    cases f.Kind == 2 with
    | true =>
      simp only [cond_true, Option.bind_some]
      cases decide (s = ⟨#[]⟩) <;> rfl
    | false =>
      simp only [cond_false]
      cases f.Kind == 3 with
      | true =>
        simp only [cond_true, Option.bind_some]
        cases decide (s = ⟨#[]⟩) <;> cases prB s <;> rfl
      | false =>
        simp only [cond_false]
        cases f.Kind == 4 with
        | false => rfl
        | true =>
          simp only [cond_true, Option.bind_some]
          cases hd : decide (s = ⟨#[]⟩) with
          | false => rfl
          | true => rw [n4 hd]; rfl
end Go.Proofs.Ytkiognopoigbhaa.Ab

/- The plain law: fields and shapes. -/
set_option linter.unusedVariables false
set_option linter.unusedSimpArgs false
namespace Go.Proofs.Ytkiognopoigbhaa.Ab
open Go Go.RowKit

theorem allN_iff {p : Nat → Bool} {len : Nat} : allN p len 0 = true ↔ ∀ j, j < len → p j = true := by
  unfold allN
  rw [List.all_eq_true]
  constructor
  · intro h j hj; exact h j (by rw [List.mem_range'_1]; omega)
  · intro h j hj; rw [List.mem_range'_1] at hj; exact h j (by omega)
/-! ### Maps from texts to numbers -/
theorem keys9 (a b : ByteArray) : keysEq (KK.enc .e9 a) (KK.enc .e9 b) = decide (a = b) := rfl
theorem mval_put (z x : ByteArray) (y : Int) (c : Nat) : ∀ m : List (Nat × ByteArray × Int), mval KK .e9 .e3 z (mput KK .e9 .e3 x y c m) = if z = x then y else mval KK .e9 .e3 z m
  | [] => by
    simp only [mput, mval, mget, keys9]
    by_cases h : z = x
    · subst h; simp
    · have : ¬ x = z := fun e => h e.symm
      simp [h, this]
  | e :: r => by
    have ih := mval_put z x y c r
    simp only [mput, keys9]
    by_cases h1 : e.2.1 = x
    · simp only [h1, decide_true, cond_true]
      by_cases h : z = x
      · subst h; simp [mval, mget, keys9]
      · have : ¬ x = z := fun e => h e.symm
        simp [mval, mget, keys9, h, this, h1]
    · simp only [h1, decide_false, cond_false]
      by_cases h2 : e.2.1 = z
      · have : ¬ z = x := fun e' => h1 (h2.trans e')
        simp [mval, mget, keys9, h2, this]
      · have e1 : ∀ m, mval KK .e9 .e3 z (e :: m) = mval KK .e9 .e3 z m := fun m => by simp [mval, mget, keys9, h2]
        rw [e1, e1, ih]
/-! ### Fields -/
def bareB (f : VGateField) : Bool :=
  cond (f.Kind == 1) (decide (f.Words.length = 0) && (decide (f.To = ⟨#[]⟩) && (f.Role == 0)))
  (cond (f.Kind == 2) ((f.Least == 0) && ((f.Most == 0) && (decide (f.To = ⟨#[]⟩) && ((f.Role == 0) && decide (f.Weighs = ⟨#[]⟩)))))
  (cond (f.Kind == 3) (decide (f.Words.length = 0) && (decide (f.To = ⟨#[]⟩) && ((f.Role == 0) && decide (f.Weighs = ⟨#[]⟩))))
  (cond (f.Kind == 4) ((f.Least == 0) && ((f.Most == 0) && (decide (f.Words.length = 0) && decide (f.Weighs = ⟨#[]⟩)))) false)))
def soundB (ks : List ByteArray) (f : VGateField) : Bool :=
  cond (f.Kind == 1) (decide (0 ≤ f.Least) && (decide (f.Least ≤ f.Most) && (decide (f.Most ≤ 1000000) && (decide (f.Weighs = ⟨#[]⟩) || nmB f.Weighs))))
  (cond (f.Kind == 2) (decide (1 ≤ (f.Words.length : Int)) && (decide ((f.Words.length : Int) ≤ 6) && ascB f.Words))
  (cond (f.Kind == 3) (decide (1 ≤ f.Least) && (decide (f.Least ≤ f.Most) && decide (f.Most ≤ 40)))
  (cond (f.Kind == 4) (hasB ks f.To && (decide (1 ≤ f.Role) && (decide (f.Role ≤ 3) && (decide (f.Default = ⟨#[]⟩) && (!(f.Role == 2) || !f.Must))))) false)))
def defB (f : VGateField) : Bool := decide (f.Default = ⟨#[]⟩) || fitB f f.Default
def fldB (ks : List ByteArray) (f : VGateField) : Bool := nmB f.Name && (bareB f && (soundB ks f && defB f))
structure FSm (f : VGateField) : Prop where
  w : f.Words.length ≤ 1048576
  d : f.Default.size ≤ 1048576
theorem g121 (f : VGateField) : G121 f = some (cond (f.Kind == 1 || (f.Kind == 2 || (f.Kind == 3 || f.Kind == 4))) (bareB f) ((f.Least == 0) && ((f.Most == 0) && (decide (f.Weighs = ⟨#[]⟩) && (decide (f.Words.length = 0) && (decide (f.To = ⟨#[]⟩) && (f.Role == 0))))))) := by
  unfold G121 G121n bareB
  have ew : decide ((f.Words.length : Int) > 0) = !decide (f.Words.length = 0) := by
    by_cases h : f.Words.length = 0
    · simp [h]
    · have : (f.Words.length : Int) > 0 := by omega
      rw [decide_eq_true this, decide_eq_false h]; rfl
  have e1 : (f.Least != 0) = !(f.Least == 0) := rfl
  have e2 : (f.Most != 0) = !(f.Most == 0) := rfl
  rw [ew, e1, e2]
  generalize decide (f.Words.length = 0) = b1
  generalize decide (f.To = ⟨#[]⟩) = b2
  generalize (f.Role == 0) = b3
  generalize decide (f.Weighs = ⟨#[]⟩) = b4
  generalize (f.Least == 0) = b5
  generalize (f.Most == 0) = b6
  by_cases h1 : f.Kind = 1
  · simp only [h1]; cases b1 <;> cases b2 <;> cases b3 <;> cases b4 <;> cases b5 <;> cases b6 <;> rfl
  · by_cases h2 : f.Kind = 2
    · simp only [h2]; cases b1 <;> cases b2 <;> cases b3 <;> cases b4 <;> cases b5 <;> cases b6 <;> rfl
    · by_cases h3 : f.Kind = 3
      · simp only [h3]; cases b1 <;> cases b2 <;> cases b3 <;> cases b4 <;> cases b5 <;> cases b6 <;> rfl
      · by_cases h4 : f.Kind = 4
        · simp only [h4]; cases b1 <;> cases b2 <;> cases b3 <;> cases b4 <;> cases b5 <;> cases b6 <;> rfl
        · have k1 : (f.Kind == 1) = false := by simp [h1]
          have k2 : (f.Kind == 2) = false := by simp [h2]
          have k3 : (f.Kind == 3) = false := by simp [h3]
          have k4 : (f.Kind == 4) = false := by simp [h4]
          have n1 : (f.Kind != 1) = true := by simp [h1]
          have n2 : (f.Kind != 2) = true := by simp [h2]
          rw [k1, k3, k4, k2, n1, n2]
          cases b1 <;> cases b2 <;> cases b3 <;> cases b4 <;> cases b5 <;> cases b6 <;> rfl
theorem pos_has {xs : List VGateShape} {k : ByteArray} : decide (posL (fun x => decide (x.Kind = k)) xs 0 ≥ 0) = hasB (xs.map (·.Kind)) k := by
  rcases posL_cases (fun x : VGateShape => decide (x.Kind = k)) xs with ⟨e, h⟩ | ⟨i, hi, e, h, _⟩
  · rw [e]
    cases hb : hasB (xs.map (·.Kind)) k with
    | false => rfl
    | true =>
      obtain ⟨x, hx, rfl⟩ := List.mem_map.1 (has_iff.1 hb)
      have := h x hx
      simp at this
  · rw [e]
    have : hasB (xs.map (·.Kind)) k = true := has_iff.2 (List.mem_map.2 ⟨xs[i], List.getElem_mem hi, by simpa using h⟩)
    rw [this]
    simp
theorem bare_kind {ks : List ByteArray} {f : VGateField} (b : Bool) : (cond (f.Kind == 1 || (f.Kind == 2 || (f.Kind == 3 || f.Kind == 4))) (bareB f) b && soundB ks f) = (bareB f && soundB ks f) := by
  unfold bareB soundB
  cases f.Kind == 1 <;> cases f.Kind == 2 <;> cases f.Kind == 3 <;> cases f.Kind == 4 <;> simp
theorem g99 {xs : List VGateShape} {f : VGateField} (hx : xs.length ≤ 1048576) (hf : FSm f) : G99 xs f = some (fldB (xs.map (·.Kind)) f) := by
  have key : G99 xs f = some (nmB f.Name && (cond (f.Kind == 1 || (f.Kind == 2 || (f.Kind == 3 || f.Kind == 4))) (bareB f) ((f.Least == 0) && ((f.Most == 0) && (decide (f.Weighs = ⟨#[]⟩) && (decide (f.Words.length = 0) && (decide (f.To = ⟨#[]⟩) && (f.Role == 0)))))) && (defB f && soundB (xs.map (·.Kind)) f))) := by
    unfold G99 G99n
    rw [g74, g121, g101 hf.w hf.d, g74, g122 hf.w, g104, g104, g83 hx]
    simp only [Option.bind_some, pos_has]
    unfold soundB defB
    simp only [ge_iff_le]
    generalize (cond (f.Kind == 1 || (f.Kind == 2 || (f.Kind == 3 || f.Kind == 4))) (bareB f) ((f.Least == 0) && ((f.Most == 0) && (decide (f.Weighs = ⟨#[]⟩) && (decide (f.Words.length = 0) && (decide (f.To = ⟨#[]⟩) && (f.Role == 0)))))) ) = bb
    cases nmB f.Name with
    | false => rfl
    | true =>
      cases bb with
      | false => rfl
      | true =>
        have e2 : (f.Role != 2) = !(f.Role == 2) := rfl
        rw [e2]
        generalize fitB f f.Default = b1
        generalize decide (f.Default = ⟨#[]⟩) = b2
        cases f.Kind == 1 with
        | true =>
          generalize nmB f.Weighs = b3
          generalize decide (f.Weighs = ⟨#[]⟩) = b4
          generalize decide (0 ≤ f.Least) = b5
          generalize decide (f.Least ≤ f.Most) = b6
          generalize decide (f.Most ≤ 1000000) = b7
          cases b1 <;> cases b2 <;> cases b3 <;> cases b4 <;> cases b5 <;> cases b6 <;> cases b7 <;> rfl
        | false =>
          cases f.Kind == 2 with
          | true =>
            generalize ascB f.Words = b3
            generalize decide ((1 : Int) ≤ (f.Words.length : Int)) = b4
            generalize decide ((f.Words.length : Int) ≤ 6) = b5
            cases b1 <;> cases b2 <;> cases b3 <;> cases b4 <;> cases b5 <;> rfl
          | false =>
            cases f.Kind == 3 with
            | true =>
              generalize decide (1 ≤ f.Least) = b5
              generalize decide (f.Least ≤ f.Most) = b6
              generalize decide (f.Most ≤ 40) = b7
              cases b1 <;> cases b2 <;> cases b5 <;> cases b6 <;> cases b7 <;> rfl
            | false =>
              cases f.Kind == 4 with
              | false => cases b1 <;> cases b2 <;> rfl
              | true =>
                generalize hasB (xs.map (·.Kind)) f.To = b3
                generalize decide (1 ≤ f.Role) = b4
                generalize decide (f.Role ≤ 3) = b5
                generalize (f.Role == 2) = b6
                generalize f.Must = b7
                cases b1 <;> cases b2 <;> cases b3 <;> cases b4 <;> cases b5 <;> cases b6 <;> cases b7 <;> rfl
  rw [key]
  unfold fldB
  rw [Bool.and_comm (defB f), ← Bool.and_assoc (cond _ _ _), bare_kind, Bool.and_assoc]
/-! ### The program's fields -/
def linkB (b : Bool) (role : Int) (must : Bool) (d : ByteArray) : Bool := b && (decide (1 ≤ role) && (decide (role ≤ 3) && (decide (d = ⟨#[]⟩) && (!(role == 2) || !must))))
theorem take_any {α : Type} {p : α → Bool} {xs : List α} {i : Nat} (hi : i < xs.length) : (xs.take (i + 1)).any p = ((xs.take i).any p || p xs[i]) := by
  rw [← List.take_append_getElem hi, List.any_append]
  simp
theorem lp166 {ks : List ByteArray} (h : ks.length ≤ 1048576) {a4 a5 a6 a7 a8 a9 a10 a11 a12 a13 a14} : LP166_0 fuel (false, ks, (ks.length : Int), 0, a4, a5, a6, a7, a8, a9, a10, a11, a12, a13, a14) = some (linkB (hasB ks a9) a10 a11 a13) := by
  have := lp_idx (rnd := r166_0 fuel) (st := fun i => ((ks.take i).any (fun x => decide (x = a9)), ks, (ks.length : Int), (i : Int), a4, a5, a6, a7, a8, a9, a10, a11, a12, a13, a14)) (val := fun i => some (linkB (hasB ks a9) a10 a11 a13)) ks.length (fun rec => by
    simp only [r166_0, Int.lt_irrefl, decide_false, cond_false, List.take_length, ge_iff_le]
    unfold linkB hasB
    generalize ks.any (fun x => decide (x = a9)) = b1
    generalize decide (1 ≤ a10) = b2
    generalize decide (a10 ≤ 3) = b3
    generalize decide (a13 = ⟨#[]⟩) = b4
    generalize (a10 == 2) = b5
    cases b1 <;> cases b2 <;> cases b3 <;> cases b4 <;> cases b5 <;> cases a11 <;> rfl) (fun rec i hi hr => by
    have hw := wrap_nat (i := i) (by omega)
    have h1 : (i : Int) < (ks.length : Int) := by omega
    rw [take_any hi] at hr
    simp only [r166_0, h1, decide_true, cond_true, Int.natCast_nonneg, hw]
    rw [get_cast hi]
    simp only [Option.bind_some]
    cases hb : (ks.take i).any (fun x => decide (x = a9)) with
    | true => rw [hb] at hr; exact hr
    | false => rw [hb] at hr; exact hr) fuel 0 (Nat.zero_le _) (by have := fuel_big; omega)
  unfold LP166_0
  simpa using this
def dupB (fs : List VGateField) (j : Nat) : Bool := !allN (fun k => !decide ((fs.getD k ⟨⟨#[]⟩, 0, 0, 0, [], ⟨#[]⟩, 0, false, false, ⟨#[]⟩, ⟨#[]⟩⟩).Name = (fs.getD j ⟨⟨#[]⟩, 0, 0, 0, [], ⟨#[]⟩, 0, false, false, ⟨#[]⟩, ⟨#[]⟩⟩).Name)) j 0
def fAt (fs : List VGateField) (j : Nat) : VGateField := fs.getD j ⟨⟨#[]⟩, 0, 0, 0, [], ⟨#[]⟩, 0, false, false, ⟨#[]⟩, ⟨#[]⟩⟩
theorem fAt_eq {fs : List VGateField} {j : Nat} (h : j < fs.length) : fAt fs j = fs[j] := by simp [fAt, List.getD, h]
def fldsB (ks : List ByteArray) (fs : List VGateField) : Bool := allN (fun j => fldB ks (fAt fs j) && !dupB fs j) fs.length 0
theorem dup_iff {fs : List VGateField} {j : Nat} (h : j < fs.length) : dupB fs j = true ↔ ∃ k, ∃ hk : k < j, (fs[k]'(by omega)).Name = fs[j].Name := by
  unfold dupB
  rw [Bool.not_eq_true', Bool.eq_false_iff, ne_eq, allN_iff]
  have hj := fAt_eq h
  unfold fAt at hj
  constructor
  · intro hn
    exact Classical.byContradiction fun hc => hn fun k hk => by
      have hk2 := fAt_eq (show k < fs.length by omega)
      unfold fAt at hk2
      rw [hj, hk2]
      simp only [Bool.not_eq_true', decide_eq_false_iff_not]
      exact fun e => hc ⟨k, hk, e⟩
  · rintro ⟨k, hk, e⟩ hn
    have hk2 := fAt_eq (show k < fs.length by omega)
    unfold fAt at hk2
    have := hn k hk
    rw [hj, hk2] at this
    simp [e] at this
/-- How often a name has been counted: once where it stands among those before. -/
def Cnt (fs : List VGateField) (i : Nat) (m : List (Nat × ByteArray × Int)) : Prop := ∀ z, (mval KK .e9 .e3 z m = 0 ∧ ∀ k (hk : k < fs.length), k < i → fs[k].Name ≠ z) ∨ (mval KK .e9 .e3 z m = 1 ∧ ∃ k, ∃ hk : k < fs.length, k < i ∧ fs[k].Name = z)
theorem lp96 {ks : List ByteArray} {fs : List VGateField} (hk : ks.length ≤ 1048576) (hl : fs.length ≤ 1048576) (hs : ∀ f ∈ fs, FSm f) : ∀ (n i : Nat) (m : List (Nat × ByteArray × Int)) (c : Nat), i ≤ fs.length → fs.length - i < n → Cnt fs i m → lpN (r96_0 fuel) n (ks, fs, (fs.length : Int), (i : Int), m, c) = some (allN (fun j => fldB ks (fAt fs j) && !dupB fs j) fs.length i) := by
  intro n
  induction n with
  | zero => intro i m c _ h; omega
  | succ n ih =>
    intro i m c hi hn hm
    rw [lp_succ]
    rcases Nat.lt_or_ge i fs.length with h | h
    · have hw := wrap_nat (i := i) (by omega)
      have h1 : (i : Int) < (fs.length : Int) := by omega
      have hf := hs fs[i] (List.getElem_mem h)
      simp only [r96_0, h1, decide_true, cond_true, Int.natCast_nonneg, hw]
      rw [get_cast h, allN_step h, fAt_eq h]
      simp only [Option.bind_some, g78, mval_put, if_true, g98 hf.w hf.d]
      unfold fldB
      cases hnm : nmB fs[i].Name with
      | false => rfl
      | true =>
        simp only [Bool.not_true, cond_false, Bool.true_and]
        rcases hm fs[i].Name with ⟨e0, hno⟩ | ⟨e1, k, hk', hki, ek⟩
        · have hd : dupB fs i = false := by
            rw [Bool.eq_false_iff, ne_eq, dup_iff h]
            rintro ⟨k, hk, e⟩
            exact hno k (by omega) hk e
          have ew : IntKind.i64.wrap (mval KK .e9 .e3 fs[i].Name m + 1) = 1 := by rw [e0]; rfl
          have hc : Cnt fs (i + 1) (mput KK .e9 .e3 fs[i].Name 1 c m) := fun z => by
            rw [mval_put]
            by_cases hz : z = fs[i].Name
            · rw [if_pos hz]
              exact Or.inr ⟨rfl, i, h, by omega, hz.symm⟩
            · rw [if_neg hz]
              rcases hm z with ⟨a, b⟩ | ⟨a, k, hk1, hk2, e⟩
              · refine Or.inl ⟨a, fun k hk hki => ?_⟩
                rcases Nat.lt_or_ge k i with h' | h'
                · exact b k hk h'
                · obtain rfl : k = i := by omega
                  exact fun e => hz e.symm
              · exact Or.inr ⟨a, k, hk1, by omega, e⟩
          have hr := ih (i + 1) _ (mclk KK .e9 .e3 fs[i].Name c m) (by omega) (by omega) hc
          rw [ew, hd]
          have n1 : ¬ (1 : Int) > 1 := by decide
          simp only [n1, decide_false, cond_false, dec_beq, Bool.not_false, Bool.and_true]
          rw [hr]
          have q1 : ∀ x : VnumberField, x.GateField_Words = fs[i].Words → x.GateField_To = fs[i].To → x.GateField_Role = fs[i].Role → G154 x = some (decide (fs[i].Words.length = 0) && (decide (fs[i].To = ⟨#[]⟩) && (fs[i].Role == 0))) := fun x a b d => by
            unfold G154 G154n
            rw [a, b, d]
            have : (((fs[i].Words.length : Nat) : Int) == 0) = decide (fs[i].Words.length = 0) := by
              by_cases h : fs[i].Words.length = 0
              · simp [h]
              · simp [h]
            rw [this]
            cases decide (fs[i].Words.length = 0) <;> cases decide (fs[i].To = ⟨#[]⟩) <;> rfl
          have q2 : ∀ x : VwordField, x.GateField_Least = fs[i].Least → x.GateField_Most = fs[i].Most → x.GateField_To = fs[i].To → x.GateField_Role = fs[i].Role → x.GateField_Weighs = fs[i].Weighs → G158 x = some ((fs[i].Least == 0) && ((fs[i].Most == 0) && (decide (fs[i].To = ⟨#[]⟩) && ((fs[i].Role == 0) && decide (fs[i].Weighs = ⟨#[]⟩))))) := fun x a b d e f => by
            unfold G158 G158n
            rw [a, b, d, e, f]
            cases fs[i].Least == 0 <;> cases fs[i].Most == 0 <;> cases decide (fs[i].To = ⟨#[]⟩) <;> cases fs[i].Role == 0 <;> rfl
          have q3 : ∀ x : VtextField, x.GateField_Words = fs[i].Words → x.GateField_To = fs[i].To → x.GateField_Role = fs[i].Role → x.GateField_Weighs = fs[i].Weighs → G161 x = some (decide (fs[i].Words.length = 0) && (decide (fs[i].To = ⟨#[]⟩) && ((fs[i].Role == 0) && decide (fs[i].Weighs = ⟨#[]⟩)))) := fun x a b d e => by
            unfold G161 G161n
            rw [a, b, d, e]
            have : (((fs[i].Words.length : Nat) : Int) == 0) = decide (fs[i].Words.length = 0) := by
              by_cases h : fs[i].Words.length = 0
              · simp [h]
              · simp [h]
            rw [this]
            cases decide (fs[i].Words.length = 0) <;> cases decide (fs[i].To = ⟨#[]⟩) <;> cases fs[i].Role == 0 <;> rfl
          have q4 : ∀ x : VlinkField, x.GateField_Least = fs[i].Least → x.GateField_Most = fs[i].Most → x.GateField_Words = fs[i].Words → x.GateField_Weighs = fs[i].Weighs → G164 x = some ((fs[i].Least == 0) && ((fs[i].Most == 0) && (decide (fs[i].Words.length = 0) && decide (fs[i].Weighs = ⟨#[]⟩)))) := fun x a b d e => by
            unfold G164 G164n
            rw [a, b, d, e]
            have : (((fs[i].Words.length : Nat) : Int) == 0) = decide (fs[i].Words.length = 0) := by
              by_cases h : fs[i].Words.length = 0
              · simp [h]
              · simp [h]
            rw [this]
            cases fs[i].Least == 0 <;> cases fs[i].Most == 0 <;> cases decide (fs[i].Words.length = 0) <;> rfl
          have s1 : ∀ x : VnumberField, x.GateField_Least = fs[i].Least → x.GateField_Most = fs[i].Most → x.GateField_Weighs = fs[i].Weighs → G156 x ks = some (decide (0 ≤ fs[i].Least) && (decide (fs[i].Least ≤ fs[i].Most) && (decide (fs[i].Most ≤ 1000000) && (decide (fs[i].Weighs = ⟨#[]⟩) || nmB fs[i].Weighs)))) := fun x a b d => by
            unfold G156 G156n
            rw [a, b, d, g78]
            simp only [ge_iff_le, Option.bind_some]
            cases decide (0 ≤ fs[i].Least) <;> cases decide (fs[i].Least ≤ fs[i].Most) <;> cases decide (fs[i].Most ≤ 1000000) <;> cases decide (fs[i].Weighs = ⟨#[]⟩) <;> rfl
          have s2 : ∀ x : VwordField, x.GateField_Words = fs[i].Words → G160 x ks = some (decide (1 ≤ (fs[i].Words.length : Int)) && (decide ((fs[i].Words.length : Int) ≤ 6) && ascB fs[i].Words)) := fun x a => by
            unfold G160 G160n
            rw [a, g95 hf.w]
            simp only [ge_iff_le, Option.bind_some]
            cases decide (1 ≤ (fs[i].Words.length : Int)) <;> cases decide ((fs[i].Words.length : Int) ≤ 6) <;> rfl
          have s3 : ∀ x : VtextField, x.GateField_Least = fs[i].Least → x.GateField_Most = fs[i].Most → G163 x ks = some (decide (1 ≤ fs[i].Least) && (decide (fs[i].Least ≤ fs[i].Most) && decide (fs[i].Most ≤ 40))) := fun x a b => by
            unfold G163 G163n
            rw [a, b]
            simp only [ge_iff_le, Option.bind_some]
            cases decide (1 ≤ fs[i].Least) <;> cases decide (fs[i].Least ≤ fs[i].Most) <;> rfl
          have s4 : ∀ x : VlinkField, x.GateField_To = fs[i].To → x.GateField_Role = fs[i].Role → x.GateField_Must = fs[i].Must → x.GateField_Default = fs[i].Default → G166 x ks = some (linkB (hasB ks fs[i].To) fs[i].Role fs[i].Must fs[i].Default) := fun x a b d e => by
            unfold G166 G166n
            rw [lp166 hk, a, b, d, e]
          rw [q1 _ rfl rfl rfl, q2 _ rfl rfl rfl rfl rfl, q3 _ rfl rfl rfl rfl, q4 _ rfl rfl rfl rfl, s1 _ rfl rfl rfl, s2 _ rfl, s3 _ rfl rfl, s4 _ rfl rfl rfl rfl]
          simp only [Option.bind_some]
          unfold bareB soundB defB linkB
          generalize fitB fs[i] fs[i].Default = b1
          generalize decide (fs[i].Default = ⟨#[]⟩) = b2
          generalize allN (fun j => nmB (fAt fs j).Name && (bareB (fAt fs j) && (soundB ks (fAt fs j) && defB (fAt fs j))) && !dupB fs j) fs.length (i + 1) = R at hr ⊢
          cases fs[i].Kind == 1 with
          | true =>
            simp only [cond_true]
            generalize (decide (fs[i].Words.length = 0) && (decide (fs[i].To = ⟨#[]⟩) && (fs[i].Role == 0))) = x1
            generalize (decide (0 ≤ fs[i].Least) && (decide (fs[i].Least ≤ fs[i].Most) && (decide (fs[i].Most ≤ 1000000) && (decide (fs[i].Weighs = ⟨#[]⟩) || nmB fs[i].Weighs)))) = x2
            cases x1 <;> cases x2 <;> cases b1 <;> cases b2 <;> rfl
          | false =>
            simp only [cond_false]
            cases fs[i].Kind == 2 with
            | true =>
              simp only [cond_true]
              generalize ((fs[i].Least == 0) && ((fs[i].Most == 0) && (decide (fs[i].To = ⟨#[]⟩) && ((fs[i].Role == 0) && decide (fs[i].Weighs = ⟨#[]⟩))))) = x1
              generalize (decide (1 ≤ (fs[i].Words.length : Int)) && (decide ((fs[i].Words.length : Int) ≤ 6) && ascB fs[i].Words)) = x2
              cases x1 <;> cases x2 <;> cases b1 <;> cases b2 <;> rfl
            | false =>
              simp only [cond_false]
              cases fs[i].Kind == 3 with
              | true =>
                simp only [cond_true]
                generalize (decide (fs[i].Words.length = 0) && (decide (fs[i].To = ⟨#[]⟩) && ((fs[i].Role == 0) && decide (fs[i].Weighs = ⟨#[]⟩)))) = x1
                generalize (decide (1 ≤ fs[i].Least) && (decide (fs[i].Least ≤ fs[i].Most) && decide (fs[i].Most ≤ 40))) = x2
                cases x1 <;> cases x2 <;> cases b1 <;> cases b2 <;> rfl
              | false =>
                simp only [cond_false]
                cases fs[i].Kind == 4 with
                | false => rfl
                | true =>
                  simp only [cond_true]
                  generalize ((fs[i].Least == 0) && ((fs[i].Most == 0) && (decide (fs[i].Words.length = 0) && decide (fs[i].Weighs = ⟨#[]⟩)))) = x1
                  generalize hasB ks fs[i].To = x2
                  generalize decide (1 ≤ fs[i].Role) = x3
                  generalize decide (fs[i].Role ≤ 3) = x4
                  generalize (fs[i].Role == 2) = x5
                  generalize fs[i].Must = x6
                  cases x1 <;> cases x2 <;> cases b1 <;> cases b2 <;> cases x3 <;> cases x4 <;> cases x5 <;> cases x6 <;> rfl
        · have hd : dupB fs i = true := (dup_iff h).2 ⟨k, hki, ek⟩
          have ew : IntKind.i64.wrap (mval KK .e9 .e3 fs[i].Name m + 1) = 2 := by rw [e1]; rfl
          rw [ew, hd]
          simp
    · have e : i = fs.length := by omega
      subst e
      simp [r96_0, allN_end]
end Go.Proofs.Ytkiognopoigbhaa.Ab

/- The plain law: shapes. -/
set_option linter.unusedVariables false
set_option linter.unusedSimpArgs false
namespace Go.Proofs.Ytkiognopoigbhaa.Ab
open Go Go.RowKit

theorem fsm_of {f : VGateField} (h : s_GateField f ≤ 1048576) : FSm f := by
  unfold s_GateField at h
  have := s_StringS_len f.Words
  exact ⟨by omega, by omega⟩
structure SSm (x : VGateShape) : Prop where
  l : x.Fields.length ≤ 1048576
  f : ∀ f ∈ x.Fields, FSm f
theorem ssm_of {x : VGateShape} (h : s_GateShape x ≤ 1048576) : SSm x := by
  unfold s_GateShape at h
  have := s_GateFieldS_len x.Fields
  exact ⟨by omega, fun f hf => fsm_of (by have := s_GateFieldS_mem hf; omega)⟩
def kindsOf (xs : List VGateShape) : List ByteArray := xs.map (·.Kind)
def shB (ks : List ByteArray) (x : VGateShape) : Bool := decide (x.Fields.length ≤ 6) && fldsB ks x.Fields
def spB (xs : List VGateShape) (j : Nat) : Bool := ascAt (kindsOf xs) j && (match xs[j]? with | some x => shB (kindsOf xs) x | none => true)
theorem kinds_at {xs : List VGateShape} {i : Nat} (h : i < xs.length) : (kindsOf xs).getD i ⟨#[]⟩ = xs[i].Kind := by simp [kindsOf, List.getD, h]
theorem lp71_2 {rec0 : A71_0 → Option Bool} {rec1 : A71_1 → Option Bool} {xs : List VGateShape} {I : Int} {kind : ByteArray} {fs : List VGateField} {j : Nat} (hl : fs.length ≤ 1048576) (hj : j < fs.length) :
    LP71_2 fuel rec0 rec1 (xs, I, (j : Int), 0, kind, fs) = cond (dupB fs j) (some false) (rec1 (xs, I, ((j + 1 : Nat) : Int), kind, fs)) := by
  have := lp_idx (rnd := r71_2 fuel rec0 rec1) (st := fun k => (xs, I, (j : Int), (k : Int), kind, fs)) (val := fun k => cond (allN (fun k => !decide ((fAt fs k).Name = (fAt fs j).Name)) j k) (rec1 (xs, I, ((j + 1 : Nat) : Int), kind, fs)) (some false)) j (fun rec => by
    have hw := wrap_nat (i := j) (by omega)
    simp only [r71_2, Int.lt_irrefl, decide_false, cond_false, allN_end, cond_true, hw]) (fun rec k hk hr => by
    have hw := wrap_nat (i := k) (by omega)
    have h1 : (k : Int) < (j : Int) := by omega
    simp only [r71_2, h1, decide_true, cond_true, Int.natCast_nonneg, hw]
    rw [get_cast (show k < fs.length by omega), get_cast hj, allN_step hk, fAt_eq hj, fAt_eq (show k < fs.length by omega)]
    simp only [Option.bind_some]
    cases hd : decide ((fs[k]'(by omega)).Name = fs[j].Name) with
    | true => rfl
    | false => simpa [fAt_eq hj] using hr) fuel 0 (Nat.zero_le _) (by have := fuel_big; omega)
  unfold LP71_2
  have hd : dupB fs j = !allN (fun k => !decide ((fAt fs k).Name = (fAt fs j).Name)) j 0 := rfl
  rw [show (0 : Int) = ((0 : Nat) : Int) from rfl, this, hd]
  cases allN (fun k => !decide ((fAt fs k).Name = (fAt fs j).Name)) j 0 <;> rfl
theorem lp71_1 {rec0 : A71_0 → Option Bool} {xs : List VGateShape} {i : Nat} {kind : ByteArray} {fs : List VGateField} (hx : xs.length ≤ 1048576) (hi : i < xs.length) (hl : fs.length ≤ 1048576) (hs : ∀ f ∈ fs, FSm f) :
    LP71_1 fuel rec0 (xs, (i : Int), 0, kind, fs) = cond (fldsB (kindsOf xs) fs) (rec0 (xs, ((i + 1 : Nat) : Int))) (some false) := by
  have := lp_idx (rnd := r71_1 fuel rec0) (st := fun j => (xs, (i : Int), (j : Int), kind, fs)) (val := fun j => cond (allN (fun j => fldB (kindsOf xs) (fAt fs j) && !dupB fs j) fs.length j) (rec0 (xs, ((i + 1 : Nat) : Int))) (some false)) fs.length (fun rec => by
    have hw := wrap_nat (i := i) (by omega)
    simp only [r71_1, Int.lt_irrefl, decide_false, cond_false, allN_end, cond_true, hw]) (fun rec j hj hr => by
    have hw := wrap_nat (i := j) (by omega)
    have h1 : (j : Int) < (fs.length : Int) := by omega
    simp only [r71_1, h1, decide_true, cond_true, Int.natCast_nonneg, lp71_2 hl hj]
    rw [get_cast hj, allN_step hj, fAt_eq hj]
    simp only [Option.bind_some, g99 hx (hs _ (List.getElem_mem hj))]
    rw [show xs.map (·.Kind) = kindsOf xs from rfl]
    cases fldB (kindsOf xs) fs[j] with
    | false => rfl
    | true =>
      cases dupB fs j with
      | true => rfl
      | false => simpa using hr) fuel 0 (Nat.zero_le _) (by have := fuel_big; omega)
  unfold LP71_1
  rw [show (0 : Int) = ((0 : Nat) : Int) from rfl, this]
  rfl
theorem len6 {n : Nat} : decide ((n : Int) > 6) = !decide (n ≤ 6) := by
  by_cases h : n ≤ 6
  · have : ¬ (n : Int) > 6 := by omega
    simp [h, this]
  · have : (n : Int) > 6 := by omega
    rw [decide_eq_true this, decide_eq_false h]; rfl
def shapesB (xs : List VGateShape) : Bool := decide (xs.length ≤ 6) && allN (spB xs) xs.length 0
theorem g71 {xs : List VGateShape} (hx : xs.length ≤ 1048576) (hs : ∀ x ∈ xs, SSm x) : G71 xs = some (shapesB xs) := by
  have hl : LP71_0 fuel (xs, 0) = some (allN (spB xs) xs.length 0) := lp_idx (rnd := r71_0 fuel) (st := fun i => (xs, (i : Int))) (val := fun i => some (allN (spB xs) xs.length i)) xs.length (fun rec => by simp [r71_0, allN_end]) (fun rec i hi hr => by
    have hm := hs xs[i] (List.getElem_mem hi)
    have h1 : (i : Int) < (xs.length : Int) := by omega
    have hg : xs[i]? = some xs[i] := List.getElem?_eq_getElem hi
    simp only [r71_0, h1, decide_true, cond_true, Int.natCast_nonneg, lp71_1 hx hi hm.l hm.f]
    rw [get_cast hi, allN_step hi]
    have he : spB xs i = ((nmB xs[i].Kind && (decide (i = 0) || slt ((kindsOf xs).getD (i - 1) ⟨#[]⟩) xs[i].Kind)) && (decide (xs[i].Fields.length ≤ 6) && fldsB (kindsOf xs) xs[i].Fields)) := by
      unfold spB ascAt shB
      rw [kinds_at hi, hg]
    rw [he]
    simp only [Option.bind_some, g74, len6, lp71_1 hx hi hm.l hm.f]
    rw [hr]
    cases hb : nmB xs[i].Kind with
    | false => rfl
    | true =>
      rcases Nat.eq_zero_or_pos i with h0 | h0
      · subst h0
        cases decide (xs[0].Fields.length ≤ 6) <;> cases fldsB (kindsOf xs) xs[0].Fields <;> simp
      · have hp := wrap_pred h0 (by omega)
        have h2 : (i : Int) > 0 := by omega
        have h3 : ¬ i = 0 := by omega
        rw [hp, get_cast (show i - 1 < xs.length by omega), kinds_at (show i - 1 < xs.length by omega)]
        simp only [h2, h3, decide_true, decide_false, cond_true, Int.natCast_nonneg, Option.bind_some, Bool.not_true, cond_false, Bool.false_or, Bool.true_and]
        cases slt (xs[i - 1]'(by omega)).Kind xs[i].Kind <;> cases decide (xs[i].Fields.length ≤ 6) <;> cases fldsB (kindsOf xs) xs[i].Fields <;> rfl) fuel 0 (Nat.zero_le _) (by have := fuel_big; omega)
  unfold G71 G71n shapesB
  rw [len6, hl]
  cases decide (xs.length ≤ 6) <;> rfl
theorem cnt_nil (fs : List VGateField) : Cnt fs 0 [] := fun z => Or.inl ⟨rfl, fun k hk h => by omega⟩
theorem g96 {ks : List ByteArray} {x : VGateShape} (hk : ks.length ≤ 1048576) (hm : SSm x) : G96 x ks = some (shB ks x) := by
  have hl : LP96_0 fuel (ks, x.Fields, (x.Fields.length : Int), 0, ([] : List (Nat × ByteArray × Int)), 0) = some (fldsB ks x.Fields) := lp96 hk hm.l hm.f fuel 0 [] 0 (Nat.zero_le _) (by have := fuel_big; have := hm.l; omega) (cnt_nil _)
  unfold G96 G96n shB
  rw [len6]
  cases decide (x.Fields.length ≤ 6) with
  | false => rfl
  | true => exact hl
theorem asc_shapes {xs : List VGateShape} : allN (spB xs) xs.length 0 = (ascB (kindsOf xs) && xs.all (fun x => shB (kindsOf xs) x)) := by
  rw [Bool.eq_iff_iff, Bool.and_eq_true, List.all_eq_true]
  unfold ascB
  have hlen : (kindsOf xs).length = xs.length := by simp [kindsOf]
  rw [hlen, allN_iff, allN_iff]
  unfold spB
  constructor
  · intro h
    refine ⟨fun j hj => ?_, fun x hx => ?_⟩
    · have := h j hj
      rw [Bool.and_eq_true] at this
      exact this.1
    · obtain ⟨i, hi, rfl⟩ := List.mem_iff_getElem.1 hx
      have := h i hi
      rw [Bool.and_eq_true, List.getElem?_eq_getElem hi] at this
      exact this.2
  · rintro ⟨h1, h2⟩ j hj
    rw [Bool.and_eq_true, List.getElem?_eq_getElem hj]
    exact ⟨h1 j hj, h2 _ (List.getElem_mem hj)⟩
theorem g67 {xs : List VGateShape} (hx : xs.length ≤ 1048576) (hs : ∀ x ∈ xs, SSm x) : G67 xs = some (shapesB xs) := by
  have hk : (kindsOf xs).length ≤ 1048576 := by simp [kindsOf]; omega
  have h2 : LP67_1 fuel (kindsOf xs, xs, (xs.length : Int), 0) = some (xs.all (fun x => shB (kindsOf xs) x)) := by
    refine all_lp (rnd := r67_1 fuel) (st := fun i => (kindsOf xs, xs, (xs.length : Int), (i : Int))) hx (fun rec => by simp [r67_1]) (fun rec i hi => ?_)
    have hw := wrap_nat (i := i) (by omega)
    have h1 : (i : Int) < (xs.length : Int) := by omega
    simp only [r67_1]
    rw [get_cast hi, hw]
    simp only [h1, decide_true, cond_true, Int.natCast_nonneg, Option.bind_some, g96 hk (hs _ (List.getElem_mem hi))]
    cases shB (kindsOf xs) xs[i] <;> rfl
  have hl : LP67_0 fuel (xs, ([] : List ByteArray), xs, (xs.length : Int), 0) = some (allN (spB xs) xs.length 0) := by
    have := lp_idx (rnd := r67_0 fuel) (st := fun i => (xs, kindsOf (xs.take i), xs, (xs.length : Int), (i : Int))) (val := fun i => some (allN (spB xs) xs.length 0)) xs.length (fun rec => by
      simp only [r67_0, Int.lt_irrefl, decide_false, cond_false, List.take_length, g95 hk, Option.bind_some, h2, asc_shapes]
      cases ascB (kindsOf xs) <;> rfl) (fun rec i hi hr => by
      have hw := wrap_nat (i := i) (by omega)
      have h1 : (i : Int) < (xs.length : Int) := by omega
      have hl : (kindsOf (xs.take i)).length = i := by simp [kindsOf]; omega
      have h3 : (i + 1) * 16 ≤ 140737488355328 := by omega
      simp only [r67_0, h1, decide_true, cond_true, Int.natCast_nonneg, hw]
      rw [get_cast hi]
      simp only [Option.bind_some, hl, List.length_singleton, h3, decide_true, cond_true]
      rw [show kindsOf (xs.take i) ++ [xs[i].Kind] = kindsOf (xs.take (i + 1)) from by unfold kindsOf; rw [← List.take_append_getElem hi, List.map_append]; rfl]
      exact hr) fuel 0 (Nat.zero_le _) (by have := fuel_big; omega)
    unfold LP67_0
    simpa [kindsOf] using this
  unfold G67 G67n shapesB
  have h3 : (xs.length : Int) * 16 ≤ 140737488355328 := by omega
  rw [len6, hl]
  simp only [h3, Int.natCast_nonneg, decide_true, cond_true]
  cases decide (xs.length ≤ 6) <;> rfl
end Go.Proofs.Ytkiognopoigbhaa.Ab

/- The plain law: mends. -/
set_option linter.unusedVariables false
set_option linter.unusedSimpArgs false
namespace Go.Proofs.Ytkiognopoigbhaa.Ab
open Go Go.RowKit

theorem pos_find {α : Type} (p : α → Bool) (xs : List α) : (posL p xs 0 = -1 ∧ xs.find? p = none) ∨ ∃ i : Nat, ∃ h : i < xs.length, posL p xs 0 = (i : Int) ∧ xs.find? p = some xs[i] := by
  rcases posL_cases p xs with ⟨e, h⟩ | ⟨i, hi, e, hp, hb⟩
  · exact Or.inl ⟨e, List.find?_eq_none.2 fun x hx => by simp [h x hx]⟩
  · exact Or.inr ⟨i, hi, e, List.find?_eq_some_iff_getElem.2 ⟨hp, i, hi, rfl, fun j hj => by simp [hb j hj]⟩⟩
def fieldOf (fs : List VGateField) (a : ByteArray) : Option VGateField := fs.find? fun x => decide (x.Name = a)
def plB (fs : List VGateField) (a : ByteArray) : Bool := match fieldOf fs a with
  | some x => x.Kind != 4
  | none => false
theorem g100 {fs : List VGateField} (h : fs.length ≤ 1048576) (a : ByteArray) : G100 fs a = some (plB fs a) := by
  unfold G100 G100n plB fieldOf
  rw [g85 h]
  rcases pos_find (fun x : VGateField => decide (x.Name = a)) fs with ⟨e, h⟩ | ⟨i, hi, e, h⟩
  · rw [e, h]; rfl
  · rw [e, h]
    simp only [Option.bind_some, ge_iff_le, Int.natCast_nonneg, decide_true, cond_true]
    rw [get_cast hi]; rfl
theorem g97 {fs : List VGateField} (h : fs.length ≤ 1048576) (a : ByteArray) : G97 a fs = some (plB fs a) := by
  unfold G97 G97n plB fieldOf
  rw [g57 h]
  rcases pos_find (fun x : VGateField => decide (x.Name = a)) fs with ⟨e, h⟩ | ⟨i, hi, e, h⟩
  · rw [e, h]; rfl
  · rw [e, h]
    simp only [Option.bind_some, ge_iff_le, Int.natCast_nonneg, decide_true, cond_true]
    rw [get_cast hi]; rfl
def putB (fs : List VGateField) (m : VGateMend) : Bool := match fieldOf fs m.Field with
  | some x => fitB x m.Put
  | none => false
theorem tl72 {fs : List VGateField} {m : VGateMend} (h : fs.length ≤ 1048576) (hs : ∀ f ∈ fs, FSm f) (hm : m.Put.size ≤ 1048576) (hp : plB fs m.Field = true) :
    (Option.bind (G85 fs m.Field) fun r => cond (decide (0 ≤ r)) (Option.bind fs[r.toNat]? fun x => Option.bind (G101 x m.Put) fun b => some (b)) none) = some (putB fs m) := by
  unfold putB
  unfold plB at hp
  unfold fieldOf at hp ⊢
  rw [g85 h]
  rcases pos_find (fun x : VGateField => decide (x.Name = m.Field)) fs with ⟨e, h⟩ | ⟨i, hi, e, h⟩
  · rw [h] at hp; cases hp
  · rw [e, h]
    simp only [Option.bind_some, ge_iff_le, Int.natCast_nonneg, decide_true, cond_true]
    have hf := hs fs[i] (List.getElem_mem hi)
    rw [get_cast hi]
    simp only [Option.bind_some, g101 hf.w hm]
theorem tl68 {fs : List VGateField} {m : VGateMend} (h : fs.length ≤ 1048576) (hs : ∀ f ∈ fs, FSm f) (hm : m.Put.size ≤ 1048576) (hp : plB fs m.Field = true) :
    (Option.bind (G57 fs m.Field) fun r => cond (decide (0 ≤ r)) (Option.bind fs[r.toNat]? fun x => Option.bind (G98 x m.Put) fun b => some (b)) none) = some (putB fs m) := by
  unfold putB
  unfold plB at hp
  unfold fieldOf at hp ⊢
  rw [g57 h]
  rcases pos_find (fun x : VGateField => decide (x.Name = m.Field)) fs with ⟨e, h⟩ | ⟨i, hi, e, h⟩
  · rw [h] at hp; cases hp
  · rw [e, h]
    simp only [Option.bind_some, ge_iff_le, Int.natCast_nonneg, decide_true, cond_true]
    have hf := hs fs[i] (List.getElem_mem hi)
    rw [get_cast hi]
    simp only [Option.bind_some, g98 hf.w hm]
def mendB (fs : List VGateField) (m : VGateMend) : Bool :=
  plB fs m.Field && ((decide (m.When = ⟨#[]⟩) || plB fs m.When) && ((decide (m.From = ⟨#[]⟩) || plB fs m.From) && (!decide (m.When = m.Field) && (!decide (m.From = m.Field) && ((!decide (m.When = ⟨#[]⟩) || decide (m.Is = ⟨#[]⟩)) && (!(decide (m.Put = ⟨#[]⟩) == decide (m.From = ⟨#[]⟩)) && (decide (m.Put = ⟨#[]⟩) || putB fs m)))))))
theorem g68 {fs : List VGateField} {m : VGateMend} (h : fs.length ≤ 1048576) (hs : ∀ f ∈ fs, FSm f) (hm : m.Put.size ≤ 1048576) : G68 fs m = some (mendB fs m) := by
  unfold G68 G68n mendB
  rw [g97 h, g97 h, g97 h]
  simp only [Option.bind_some]
  cases hp : plB fs m.Field with
  | false => rfl
  | true =>
    simp only [tl68 h hs hm hp]
    generalize plB fs m.When = b1
    generalize plB fs m.From = b2
    generalize decide (m.When = ⟨#[]⟩) = b3
    generalize decide (m.From = ⟨#[]⟩) = b4
    generalize decide (m.When = m.Field) = b5
    generalize decide (m.From = m.Field) = b6
    generalize decide (m.Is = ⟨#[]⟩) = b7
    generalize decide (m.Put = ⟨#[]⟩) = b8
    generalize putB fs m = b9
    cases b3 <;> cases b4 <;> cases b5 <;> cases b6 <;> cases b1 <;> cases b2 <;> first | rfl | (cases b7 <;> cases b8 <;> cases b9 <;> rfl)
def shapeAt (xs : List VGateShape) (k : ByteArray) : Option VGateShape := xs.find? fun x => decide (x.Kind = k)
def mdB (xs : List VGateShape) (m : VGateMend) : Bool := match shapeAt xs m.Kind with
  | some x => mendB x.Fields m
  | none => false
theorem g72 {xs : List VGateShape} {m : VGateMend} (hx : xs.length ≤ 1048576) (hs : ∀ x ∈ xs, SSm x) (hm : m.Put.size ≤ 1048576) : G72 xs m = some (mdB xs m) := by
  unfold G72 G72n mdB shapeAt
  rw [g83 hx]
  rcases pos_find (fun x : VGateShape => decide (x.Kind = m.Kind)) xs with ⟨e, h⟩ | ⟨i, hi, e, h⟩
  · rw [e, h]; rfl
  · rw [e, h]
    have hn : ¬ (i : Int) < 0 := by omega
    have hm2 := hs xs[i] (List.getElem_mem hi)
    simp only [Option.bind_some, hn, decide_false, cond_false, Int.natCast_nonneg, decide_true, cond_true]
    rw [get_cast hi]
    simp only [Option.bind_some]
    rw [g100 hm2.l, g100 hm2.l, g100 hm2.l]
    unfold mendB
    simp only [Option.bind_some]
    cases hp : plB xs[i].Fields m.Field with
    | false => rfl
    | true =>
      simp only [tl72 hm2.l hm2.f hm hp]
      generalize plB xs[i].Fields m.When = b1
      generalize plB xs[i].Fields m.From = b2
      generalize decide (m.When = ⟨#[]⟩) = b3
      generalize decide (m.From = ⟨#[]⟩) = b4
      generalize decide (m.When = m.Field) = b5
      generalize decide (m.From = m.Field) = b6
      generalize decide (m.Is = ⟨#[]⟩) = b7
      generalize decide (m.Put = ⟨#[]⟩) = b8
      generalize putB xs[i].Fields m = b9
      cases b3 <;> cases b4 <;> cases b5 <;> cases b6 <;> cases b1 <;> cases b2 <;> first | rfl | (cases b7 <;> cases b8 <;> cases b9 <;> rfl)
theorem lp39_0 {xs : List VGateShape} {ms : List VGateMend} (hx : xs.length ≤ 1048576) (hs : ∀ x ∈ xs, SSm x) (hl : ms.length ≤ 1048576) (hm : ∀ m ∈ ms, m.Put.size ≤ 1048576) :
    LP39_0 fuel (xs, ms, 0) = cond (ms.all (mdB xs)) (LP39_1 fuel (xs, ms, 0)) (some false) := by
  have := lp_idx (rnd := r39_0 fuel) (st := fun i => (xs, ms, (i : Int))) (val := fun i => cond ((ms.drop i).all (mdB xs)) (LP39_1 fuel (xs, ms, 0)) (some false)) ms.length (fun rec => by
    simp only [r39_0, Int.lt_irrefl, decide_false, cond_false, List.drop_length, List.all_nil, cond_true]) (fun rec i hi hr => by
    have hw := wrap_nat (i := i) (by omega)
    have h1 : (i : Int) < (ms.length : Int) := by omega
    simp only [r39_0, h1, decide_true, cond_true, Int.natCast_nonneg, hw]
    rw [get_cast hi, List.drop_eq_getElem_cons hi, List.all_cons]
    simp only [Option.bind_some, g72 hx hs (hm _ (List.getElem_mem hi))]
    cases mdB xs ms[i] with
    | false => rfl
    | true => simpa using hr) fuel 0 (Nat.zero_le _) (by have := fuel_big; omega)
  unfold LP39_0
  simpa using this
theorem lp31_0 {xs : List VGateShape} {ms : List VGateMend} (hx : xs.length ≤ 1048576) (hs : ∀ x ∈ xs, SSm x) (hl : ms.length ≤ 1048576) (hm : ∀ m ∈ ms, m.Put.size ≤ 1048576) :
    LP31_0 fuel (xs, ms, ms, (ms.length : Int), 0) = cond (ms.all (mdB xs)) (LP31_1 fuel (ms, xs, (xs.length : Int), 0)) (some false) := by
  have := lp_idx (rnd := r31_0 fuel) (st := fun i => (xs, ms, ms, (ms.length : Int), (i : Int))) (val := fun i => cond ((ms.drop i).all (mdB xs)) (LP31_1 fuel (ms, xs, (xs.length : Int), 0)) (some false)) ms.length (fun rec => by
    simp only [r31_0, Int.lt_irrefl, decide_false, cond_false, List.drop_length, List.all_nil, cond_true]) (fun rec i hi hr => by
    have hw := wrap_nat (i := i) (by omega)
    have h1 : (i : Int) < (ms.length : Int) := by omega
    simp only [r31_0, h1, decide_true, cond_true, Int.natCast_nonneg, hw]
    rw [get_cast hi, List.drop_eq_getElem_cons hi, List.all_cons]
    simp only [Option.bind_some, g55 hx]
    rw [show mdB xs ms[i] = (match xs.find? (fun x => decide (x.Kind = ms[i].Kind)) with | some x => mendB x.Fields ms[i] | none => false) from rfl]
    rcases pos_find (fun x : VGateShape => decide (x.Kind = ms[i].Kind)) xs with ⟨e, h⟩ | ⟨k, hk, e, h⟩
    · rw [e, h]; rfl
    · rw [e, h]
      have hn : ¬ (k : Int) < 0 := by omega
      have hm2 := hs xs[k] (List.getElem_mem hk)
      simp only [Option.bind_some, hn, decide_false, cond_false, Int.natCast_nonneg, decide_true, cond_true]
      rw [get_cast hk]
      simp only [Option.bind_some, g68 hm2.l hm2.f (hm _ (List.getElem_mem hi))]
      cases mendB xs[k].Fields ms[i] with
      | false => rfl
      | true => simpa using hr) fuel 0 (Nat.zero_le _) (by have := fuel_big; omega)
  unfold LP31_0
  simpa using this
end Go.Proofs.Ytkiognopoigbhaa.Ab

