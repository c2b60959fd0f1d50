/- The plain law, part 4: the house, the first book. -/
import Derived.Test.YtpdindhlnehfcaaPc
set_option linter.unusedVariables false
set_option linter.unusedSimpArgs false
namespace Go.Proofs.Ytpdindhlnehfcaa.Ab
open Go Go.RowKit

theorem lp_open {A R : Type} {rnd : (A → Option R) → A → Option R} {n : Nat} {x : A} (h : 0 < n) : lpN rnd n x = rnd (lpN rnd (n - 1)) x := by
  obtain ⟨m, rfl⟩ : ∃ k, n = k + 1 := ⟨n - 1, by omega⟩
  rfl
/-- What the size guard grants. -/
structure HBd (h : VHallHouse) : Prop where
  t : h.Teams.length ≤ 1048576
  g : h.Grants.length ≤ 1048576
  v : ∀ x ∈ h.Grants, x.Rule_Verbs.length ≤ 1048576
def dG : VGateGrant := ⟨0, ⟨#[]⟩, ⟨#[]⟩, [], ⟨#[]⟩, ⟨#[]⟩, ⟨#[]⟩⟩
def grB (xs : List VGateGrant) (j : Nat) : Bool := ((xs.getD j dG).Number == ((j + 1 : Nat) : Int)) && (nmB (xs.getD j dG).To && (decide ((xs.getD j dG).By = ⟨#[]⟩) && ruB (xs.getD j dG).Rule_Verbs (xs.getD j dG).Rule_Kind (xs.getD j dG).Rule_Team (xs.getD j dG).Rule_Prefix))
def hhB (h : VHallHouse) : Bool := tmsB h.Teams && (decide (h.Grants.length ≤ 24) && allN (grB h.Grants) h.Grants.length 0)
theorem g15 {h : VHallHouse} (hb : HBd h) : G15 h = some (hhB h) := by
  obtain ⟨T, X⟩ := h
  obtain ⟨hT, hX, hV⟩ := hb
  simp only at hT hX hV
  unfold G15 G15n hhB
  simp only [g33' (show T.length ≤ 281474976710656 by omega), Option.bind_some]
  cases tmsB T with
  | false => rfl
  | true =>
    by_cases hl : X.length ≤ 24
    · have hl' : ¬ (X.length : Int) > 24 := by omega
      simp only [hl, hl', decide_true, decide_false, cond_false, Bool.true_and, Bool.not_true]
      exact lp_idx (rnd := r15_0 fuel) (st := fun i => (T, X, (i : Int))) (val := fun i => some (allN (grB X) X.length i)) X.length (fun rec => by simp [r15_0, allN_end]) (fun rec i hi hr => by
        have hw := wrap_nat (i := i) (by omega)
        have h1 : (i : Int) < (X.length : Int) := by omega
        have hg : X.getD i dG = X[i] := by simp [List.getD, hi]
        have hv : grB X i = (((X[i]).Number == ((i + 1 : Nat) : Int)) && (nmB (X[i]).To && (decide ((X[i]).By = ⟨#[]⟩) && ruB (X[i]).Rule_Verbs (X[i]).Rule_Kind (X[i]).Rule_Team (X[i]).Rule_Prefix))) := by rw [← hg]; rfl
        have h35 := g35 ⟨(X[i]).Rule_Verbs, (X[i]).Rule_Kind, (X[i]).Rule_Team, (X[i]).Rule_Prefix⟩ (by have := hV _ (List.getElem_mem hi); simp only; omega)
        simp only [r15_0]
        rw [allN_step hi, get_cast hi, hv, hw, hr]
        simp only [h1, decide_true, cond_true, Int.natCast_nonneg, Option.bind_some, g34, h35, bne]
        cases ((X[i]).Number == ((i + 1 : Nat) : Int)) <;> cases nmB (X[i]).To <;> cases decide ((X[i]).By = ⟨#[]⟩) <;> cases ruB (X[i]).Rule_Verbs (X[i]).Rule_Kind (X[i]).Rule_Team (X[i]).Rule_Prefix <;> rfl) fuel 0 (Nat.zero_le _) (by have := fuel_big; omega)
    · have hl' : (X.length : Int) > 24 := by omega
      simp [hl, hl']
theorem g19 {h : VHallHouse} (hb : HBd h) : G19 h = some (hhB h) := by
  obtain ⟨T, X⟩ := h
  obtain ⟨hT, hX, hV⟩ := hb
  simp only at hT hX hV
  unfold G19 G19n hhB
  simp only [g40' (show T.length ≤ 281474976710656 by omega), Option.bind_some]
  cases tmsB T with
  | false => rfl
  | true =>
    by_cases hl : X.length ≤ 24
    · have hl' : ¬ (X.length : Int) > 24 := by omega
      simp only [hl, hl', decide_true, decide_false, cond_false, Bool.true_and, Bool.not_true]
      exact lp_idx (rnd := r19_0 fuel) (st := fun i => (X, (X.length : Int), (i : Int))) (val := fun i => some (allN (grB X) X.length i)) X.length (fun rec => by simp [r19_0, allN_end]) (fun rec i hi hr => by
        have hw := wrap_nat (i := i) (by omega)
        have h1 : (i : Int) < (X.length : Int) := by omega
        have hg : X.getD i dG = X[i] := by simp [List.getD, hi]
        have hv : grB X i = (((X[i]).Number == ((i + 1 : Nat) : Int)) && (nmB (X[i]).To && (decide ((X[i]).By = ⟨#[]⟩) && ruB (X[i]).Rule_Verbs (X[i]).Rule_Kind (X[i]).Rule_Team (X[i]).Rule_Prefix))) := by rw [← hg]; rfl
        have h42 := g42 ⟨(X[i]).Rule_Verbs, (X[i]).Rule_Kind, (X[i]).Rule_Team, (X[i]).Rule_Prefix⟩ (by have := hV _ (List.getElem_mem hi); simp only; omega)
        simp only [r19_0]
        rw [allN_step hi, get_cast hi, hv, hw, hr]
        simp only [h1, decide_true, cond_true, Int.natCast_nonneg, Option.bind_some, g41, h42, bne]
        cases ((X[i]).Number == ((i + 1 : Nat) : Int)) <;> cases nmB (X[i]).To <;> cases decide ((X[i]).By = ⟨#[]⟩) <;> cases ruB (X[i]).Rule_Verbs (X[i]).Rule_Kind (X[i]).Rule_Team (X[i]).Rule_Prefix <;> rfl) fuel 0 (Nat.zero_le _) (by have := fuel_big; omega)
    · have hl' : (X.length : Int) > 24 := by omega
      simp [hl, hl']
def frB (h : VHallHouse) : VHallBook := cond (hhB h) ⟨(h.Grants.length : Int), 0, (h.Grants.length : Int), [], h.Grants, [], [], 0, [], [], []⟩ ⟨0, 0, 0, [], [], [], [], 0, [], [], []⟩
theorem g20 {xs : List VGateGrant} (h : xs.length ≤ 1048576) (hv : ∀ x ∈ xs, x.Rule_Verbs.length ≤ 1048576) : G20 xs = some xs := by
  have : gOk xs = true := by
    simp only [gOk, Bool.and_eq_true, decide_eq_true_eq, List.all_eq_true]
    exact ⟨by omega, fun x hx => by have := hv x hx; omega⟩
  unfold G20
  rw [this]
  rfl
theorem g7 {h : VHallHouse} (hb : HBd h) : G7 h = some (frB h) := by
  unfold G7 G7n frB
  simp only [g19 hb, Option.bind_some, alt_self, g20 hb.g hb.v]
  cases hhB h <;> rfl
theorem g37 (r : VGateRule) (h : r.Verbs.length ≤ 1048576) : G37 r = some r := by
  unfold G37 G37n
  have : (0 + r.Verbs.length) * 8 ≤ 140737488355328 := by omega
  simp only [List.length_nil, this, decide_true, cond_true, List.nil_append]
theorem g16 {now tick given : Int} {X : List VGateGrant} (h : X.length ≤ 1048576) (hv : ∀ x ∈ X, x.Rule_Verbs.length ≤ 1048576) : G16 ⟨now, tick, given, [], X, [], []⟩ = some ⟨now, tick, given, [], X, [], []⟩ := by
  have h1 : LP16_1 fuel (now, tick, given, [], X, [], [], 0, 0, 0, [], [], [], [], now, tick, given, [], X.take 0, [], [], ((0 : Nat) : Int)) = some (⟨now, tick, given, [], X, [], []⟩ : VGateBook) :=
    lp_idx (rnd := r16_1 fuel) (st := fun i => (now, tick, given, [], X, [], [], 0, 0, 0, [], [], [], [], now, tick, given, [], X.take i, [], [], (i : Int))) (val := fun i => some (⟨now, tick, given, [], X, [], []⟩ : VGateBook)) X.length (fun rec => by simp [r16_1]) (fun rec i hi hr => by
      have hw := wrap_nat (i := i) (by omega)
      have h1 : (i : Int) < (X.length : Int) := by omega
      have h37 := g37 ⟨(X[i]).Rule_Verbs, (X[i]).Rule_Kind, (X[i]).Rule_Team, (X[i]).Rule_Prefix⟩ (hv _ (List.getElem_mem hi))
      have ht : (X.take i) ++ [X[i]] = X.take (i + 1) := by rw [List.take_append_getElem hi]
      have hlen : ((X.take i).length + [X[i]].length) * 112 ≤ 140737488355328 := by simp; omega
      simp only [r16_1]
      rw [get_cast hi]
      simp only [h1, decide_true, cond_true, Int.natCast_nonneg, Option.bind_some, h37]
      rw [hw]
      have e : (⟨(X[i]).Number, (X[i]).To, (X[i]).By, (X[i]).Rule_Verbs, (X[i]).Rule_Kind, (X[i]).Rule_Team, (X[i]).Rule_Prefix⟩ : VGateGrant) = X[i] := rfl
      rw [e]
      rw [show decide (((X.take i).length + [X[i]].length) * 112 ≤ 140737488355328) = true from decide_eq_true hlen, cond_true, ht]
      exact hr) fuel 0 (Nat.zero_le _) (by have := fuel_big; omega)
  unfold G16 G16n
  rw [show LP16_0 fuel = lpN (r16_0 fuel) fuel from rfl, lp_open (by have := fuel_big; omega)]
  simp only [r16_0, List.length_nil]
  exact h1
theorem g5 {h : VHallHouse} (hb : HBd h) : G5 h = some (frB h) := by
  unfold G5 G5n frB
  simp only [g15 hb, Option.bind_some, g16 hb.g hb.v]
  cases hhB h <;> rfl
end Go.Proofs.Ytpdindhlnehfcaa.Ab
