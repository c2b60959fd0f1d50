/- The plain law, part 4: the house, the first book. -/
import Derived.Test.YtgpopgfidphheaaPc
set_option linter.unusedVariables false
set_option linter.unusedSimpArgs false
namespace Go.Proofs.Ytgpopgfidphheaa.Ab
open Go Go.RowKit

theorem lp_open {A R : Type} {rnd : (A → Option R) → A → Option R} {n : Nat} {x : A} (h : 0 < n) : lpN rnd n x = rnd (lpN rnd (n - 1)) x := by
  obtain ⟨m, rfl⟩ : ∃ k, n = k + 1 := ⟨n - 1, by omega⟩
  rfl
/-- What the size guard grants. -/
structure HBd (h : VHallHouse) : Prop where
  t : h.Teams.length ≤ 1048576
  g : h.Grants.length ≤ 1048576
  v : ∀ x ∈ h.Grants, x.Rule_Verbs.length ≤ 1048576
def dG : VGateGrant := ⟨0, ⟨#[]⟩, ⟨#[]⟩, [], ⟨#[]⟩, ⟨#[]⟩, ⟨#[]⟩⟩
def grB (xs : List VGateGrant) (j : Nat) : Bool := ((xs.getD j dG).Number == ((j + 1 : Nat) : Int)) && (nmB (xs.getD j dG).To && (decide ((xs.getD j dG).By = ⟨#[]⟩) && ruB (xs.getD j dG).Rule_Verbs (xs.getD j dG).Rule_Kind (xs.getD j dG).Rule_Team (xs.getD j dG).Rule_Prefix))
def hhB (h : VHallHouse) : Bool := tmsB h.Teams && (decide (h.Grants.length ≤ 24) && allN (grB h.Grants) h.Grants.length 0)
theorem g15 {h : VHallHouse} (hb : HBd h) : G15 h = some (hhB h) := by
  obtain ⟨T, X⟩ := h
  obtain ⟨hT, hX, hV⟩ := hb
  simp only at hT hX hV
  unfold G15 G15n hhB
  simp only [g37' (show T.length ≤ 281474976710656 by omega), Option.bind_some]
  cases tmsB T with
  | false => rfl
  | true =>
    by_cases hl : X.length ≤ 24
    · have hl' : ¬ (X.length : Int) > 24 := by omega
      simp only [hl, hl', decide_true, decide_false, cond_false, Bool.true_and, Bool.not_true]
      exact lp_idx (rnd := r15_0 fuel) (st := fun i => (T, X, (i : Int))) (val := fun i => some (allN (grB X) X.length i)) X.length (fun rec => by simp [r15_0, allN_end]) (fun rec i hi hr => by
        have hw := wrap_nat (i := i) (by omega)
        have h1 : (i : Int) < (X.length : Int) := by omega
        have hg : X.getD i dG = X[i] := by simp [List.getD, hi]
        have hv : grB X i = (((X[i]).Number == ((i + 1 : Nat) : Int)) && (nmB (X[i]).To && (decide ((X[i]).By = ⟨#[]⟩) && ruB (X[i]).Rule_Verbs (X[i]).Rule_Kind (X[i]).Rule_Team (X[i]).Rule_Prefix))) := by rw [← hg]; rfl
        have h35 := g39 ⟨(X[i]).Rule_Verbs, (X[i]).Rule_Kind, (X[i]).Rule_Team, (X[i]).Rule_Prefix⟩ (by have := hV _ (List.getElem_mem hi); simp only; omega)
        simp only [r15_0]
        rw [allN_step hi, get_cast hi, hv, hw, hr]
        simp only [h1, decide_true, cond_true, Int.natCast_nonneg, Option.bind_some, g38, h35, bne]
        cases ((X[i]).Number == ((i + 1 : Nat) : Int)) <;> cases nmB (X[i]).To <;> cases decide ((X[i]).By = ⟨#[]⟩) <;> cases ruB (X[i]).Rule_Verbs (X[i]).Rule_Kind (X[i]).Rule_Team (X[i]).Rule_Prefix <;> rfl) fuel 0 (Nat.zero_le _) (by have := fuel_big; omega)
    · have hl' : (X.length : Int) > 24 := by omega
      simp [hl, hl']
theorem g21 {h : VHallHouse} (hb : HBd h) : G21 h = some (hhB h) := by
  obtain ⟨T, X⟩ := h
  obtain ⟨hT, hX, hV⟩ := hb
  simp only at hT hX hV
  unfold G21 G21n hhB
  simp only [g45' (show T.length ≤ 281474976710656 by omega), Option.bind_some]
  cases tmsB T with
  | false => rfl
  | true =>
    by_cases hl : X.length ≤ 24
    · have hl' : ¬ (X.length : Int) > 24 := by omega
      simp only [hl, hl', decide_true, decide_false, cond_false, Bool.true_and, Bool.not_true]
      exact lp_idx (rnd := r21_0 fuel) (st := fun i => (X, (X.length : Int), (i : Int))) (val := fun i => some (allN (grB X) X.length i)) X.length (fun rec => by simp [r21_0, allN_end]) (fun rec i hi hr => by
        have hw := wrap_nat (i := i) (by omega)
        have h1 : (i : Int) < (X.length : Int) := by omega
        have hg : X.getD i dG = X[i] := by simp [List.getD, hi]
        have hv : grB X i = (((X[i]).Number == ((i + 1 : Nat) : Int)) && (nmB (X[i]).To && (decide ((X[i]).By = ⟨#[]⟩) && ruB (X[i]).Rule_Verbs (X[i]).Rule_Kind (X[i]).Rule_Team (X[i]).Rule_Prefix))) := by rw [← hg]; rfl
        have h42 := g47 ⟨(X[i]).Rule_Verbs, (X[i]).Rule_Kind, (X[i]).Rule_Team, (X[i]).Rule_Prefix⟩ (by have := hV _ (List.getElem_mem hi); simp only; omega)
        simp only [r21_0]
        rw [allN_step hi, get_cast hi, hv, hw, hr]
        simp only [h1, decide_true, cond_true, Int.natCast_nonneg, Option.bind_some, g46, h42, bne]
        cases ((X[i]).Number == ((i + 1 : Nat) : Int)) <;> cases nmB (X[i]).To <;> cases decide ((X[i]).By = ⟨#[]⟩) <;> cases ruB (X[i]).Rule_Verbs (X[i]).Rule_Kind (X[i]).Rule_Team (X[i]).Rule_Prefix <;> rfl) fuel 0 (Nat.zero_le _) (by have := fuel_big; omega)
    · have hl' : (X.length : Int) > 24 := by omega
      simp [hl, hl']
theorem g49 {xs : List VGateGrant} (h : xs.length ≤ 1048576) (hv : ∀ x ∈ xs, x.Rule_Verbs.length ≤ 1048576) : G49 xs = some xs := by
  have : gOk xs = true := by
    simp only [gOk, Bool.and_eq_true, decide_eq_true_eq, List.all_eq_true]
    exact ⟨by omega, fun x hx => by have := hv x hx; omega⟩
  unfold G49
  rw [this]
  rfl
theorem g40 (r : VGateRule) (h : r.Verbs.length ≤ 1048576) : G40 r = some r := by
  unfold G40 G40n
  have : (0 + r.Verbs.length) * 8 ≤ 140737488355328 := by omega
  simp only [List.length_nil, this, decide_true, cond_true, List.nil_append]
end Go.Proofs.Ytgpopgfidphheaa.Ab
