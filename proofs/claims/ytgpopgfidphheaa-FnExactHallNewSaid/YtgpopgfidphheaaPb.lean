/- The plain law, part 2: rules. -/
import Derived.Test.YtgpopgfidphheaaPa
set_option linter.unusedVariables false
set_option linter.unusedSimpArgs false
namespace Go.Proofs.Ytgpopgfidphheaa.Ab
open Go Go.RowKit

def allN (p : Nat → Bool) (len i : Nat) : Bool := (List.range' i (len - i)).all p
theorem allN_step {p : Nat → Bool} {len i : Nat} (h : i < len) : allN p len i = (p i && allN p len (i + 1)) := by
  unfold allN
  rw [show len - i = (len - (i + 1)) + 1 by omega, List.range'_succ]
  rfl
theorem allN_end (p : Nat → Bool) (len : Nat) : allN p len len = true := by simp [allN]
theorem wrap_pred {i : Nat} (h : 0 < i) (h2 : i < 4611686018427387904) : IntKind.i64.wrap ((i : Int) - 1) = ((i - 1 : Nat) : Int) := by
  rw [wrap_id (by omega) (by omega)]; omega
def vOne (V : List Int) (j : Nat) : Bool := (decide (1 ≤ V.getD j 0) && decide (V.getD j 0 ≤ 5)) && (decide (j = 0) || decide (V.getD (j - 1) 0 < V.getD j 0))
def ruB (V : List Int) (K T P : ByteArray) : Bool := (!decide (V.length = 0) && decide (P.size ≤ 16)) && ((decide (K = ⟨#[]⟩) || nmB K) && ((decide (T = ⟨#[]⟩) || nmB T) && (allN (vOne V) V.length 0 && allB P 0)))
theorem lp39_1 {V : List Int} {K T P : ByteArray} (hs : P.size ≤ 16) : LP39_1 fuel (V, K, T, P, 0) = some (allB P 0) :=
  lp_idx (st := fun i => (V, K, T, P, (i : Int))) (val := fun i => some (allB P i)) P.size (fun rec => by simp [r39_1, allB_end]) (fun rec i hi hr => by
    rw [← wrap_nat (by omega)] at hr
    have h1 : (i : Int) < (P.size : Int) := by omega
    simp only [r39_1, h1, decide_true, cond_true, Int.natCast_nonneg, g71, Option.bind_some, allB_step hi]
    cases hb : bOk (sbt P (i : Int)) with
    | true => simpa using hr
    | false => rfl) fuel 0 (Nat.zero_le _) (by have := fuel_big; omega)
theorem lp39_0 {V : List Int} {K T P : ByteArray} (hV : V.length ≤ 281474976710656) (hs : P.size ≤ 16) : LP39_0 fuel (V, K, T, P, 0) = some (allN (vOne V) V.length 0 && allB P 0) :=
  lp_idx (st := fun i => (V, K, T, P, (i : Int))) (val := fun i => some (allN (vOne V) V.length i && allB P 0)) V.length (fun rec => by simp [r39_0, lp39_1 hs, allN_end]) (fun rec i hi hr => by
    rw [← wrap_nat (by omega)] at hr
    have h1 : (i : Int) < (V.length : Int) := by omega
    have hg : V.getD i 0 = V[i] := by simp [List.getD, hi]
    simp only [r39_0, h1, decide_true, cond_true, Int.natCast_nonneg, get_cast hi, g16, Option.bind_some, allN_step hi]
    have hv : vOne V i = ((decide (1 ≤ V.getD i 0) && decide (V.getD i 0 ≤ 5)) && (decide (i = 0) || decide (V.getD (i - 1) 0 < V.getD i 0))) := rfl
    rw [hv, hg]
    by_cases c1 : 1 ≤ V[i]
    · by_cases c2 : V[i] ≤ 5
      · rcases Nat.eq_zero_or_pos i with rfl | hp
        · simp only [c1, c2]; simpa using hr
        · have hl : i - 1 < V.length := by omega
          have hg' : V.getD (i - 1) 0 = V[i - 1] := by simp [List.getD, hl]
          have h0 : (i : Int) > 0 := by omega
          have h0' : ¬ i = 0 := by omega
          rw [wrap_pred hp (by omega), hg']
          simp only [c1, c2, h0, h0', get_cast hl, Option.bind_some, decide_true, decide_false, cond_true, Bool.and_self, Bool.not_true, cond_false, Int.natCast_nonneg, Bool.true_and, Bool.false_or]
          by_cases c3 : V[i - 1] < V[i]
          · have c4 : ¬ V[i - 1] ≥ V[i] := by omega
            simpa [c3, c4] using hr
          · have c4 : V[i - 1] ≥ V[i] := by omega
            simp [c3, c4]
      · simp [c2]
    · simp [c1]) fuel 0 (Nat.zero_le _) (by have := fuel_big; omega)
theorem g39 (r : VGateRule) (hV : r.Verbs.length ≤ 281474976710656) : G39 r = some (ruB r.Verbs r.Kind r.Team r.Prefix) := by
  obtain ⟨V, K, T, P⟩ := r
  unfold G39 G39n ruB
  simp only at hV
  by_cases hl : V.length = 0
  · simp [hl]
  · have hl' : ((V.length : Int) == 0) = false := by simpa using hl
    by_cases hp : P.size ≤ 16
    · have hp' : ¬ (P.size : Int) > 16 := by omega
      simp only [lp39_0 hV hp, g38, Option.bind_some]
      by_cases hk : K = ⟨#[]⟩
      · by_cases ht : T = ⟨#[]⟩
        · simp [hl, hl', hp, hp', hk, ht]
        · cases hn : nmB T <;> simp [hl, hl', hp, hp', hk, ht, hn]
      · cases hn1 : nmB K
        · simp [hl, hl', hp, hp', hk, hn1]
        · by_cases ht : T = ⟨#[]⟩
          · simp [hl, hl', hp, hp', hk, ht, hn1]
          · cases hn : nmB T <;> simp [hl, hl', hp, hp', hk, ht, hn, hn1]
    · have hp' : (P.size : Int) > 16 := by omega
      simp [hl, hl', hp, hp']
theorem lp47_0 {V : List Int} {K T P : ByteArray} (hV : V.length ≤ 281474976710656) : LP47_0 fuel (V, K, T, P, V, (V.length : Int), 0) = some (allN (vOne V) V.length 0 && ((decide (K = ⟨#[]⟩) || nmB K) && (decide (T = ⟨#[]⟩) || nmB T))) :=
  lp_idx (st := fun i => (V, K, T, P, V, (V.length : Int), (i : Int))) (val := fun i => some (allN (vOne V) V.length i && ((decide (K = ⟨#[]⟩) || nmB K) && (decide (T = ⟨#[]⟩) || nmB T)))) V.length (fun rec => by
      have h1 : ¬ ((V.length : Int) < (V.length : Int)) := by omega
      simp only [r47_0, h1, decide_false, cond_false, allN_end, Bool.true_and, g46, Option.bind_some]
      by_cases hk : K = ⟨#[]⟩
      · by_cases ht : T = ⟨#[]⟩
        · simp [hk, ht]
        · simp [hk, ht]
      · by_cases ht : T = ⟨#[]⟩
        · cases nmB K <;> simp [hk, ht]
        · cases nmB K <;> simp [hk, ht]) (fun rec i hi hr => by
    rw [← wrap_nat (by omega)] at hr
    have h1 : (i : Int) < (V.length : Int) := by omega
    have hg : V.getD i 0 = V[i] := by simp [List.getD, hi]
    simp only [r47_0, h1, decide_true, cond_true, Int.natCast_nonneg, get_cast hi, Option.bind_some, allN_step hi]
    have hv : vOne V i = ((decide (1 ≤ V.getD i 0) && decide (V.getD i 0 ≤ 5)) && (decide (i = 0) || decide (V.getD (i - 1) 0 < V.getD i 0))) := rfl
    rw [hv, hg]
    by_cases c1 : 1 ≤ V[i]
    · have c1' : ¬ V[i] < 1 := by omega
      by_cases c2 : V[i] ≤ 5
      · have c2' : ¬ V[i] > 5 := by omega
        rcases Nat.eq_zero_or_pos i with rfl | hp
        · simp only [c1, c2, c1', c2']; simpa using hr
        · have hl : i - 1 < V.length := by omega
          have hg' : V.getD (i - 1) 0 = V[i - 1] := by simp [List.getD, hl]
          have h0 : (i : Int) > 0 := by omega
          have h0' : ¬ i = 0 := by omega
          rw [wrap_pred hp (by omega), hg']
          simp only [c1, c2, c1', c2', h0, h0', get_cast hl, Option.bind_some, decide_true, decide_false, cond_true, Bool.and_self, Bool.not_true, cond_false, Int.natCast_nonneg, Bool.true_and, Bool.false_or]
          by_cases c3 : V[i - 1] < V[i]
          · have c4 : ¬ V[i - 1] ≥ V[i] := by omega
            simpa [c3, c4] using hr
          · have c4 : V[i - 1] ≥ V[i] := by omega
            simp [c3, c4]
      · have c2' : V[i] > 5 := by omega
        simp [c2, c2', c1']
    · have c1' : V[i] < 1 := by omega
      simp [c1, c1']) fuel 0 (Nat.zero_le _) (by have := fuel_big; omega)
theorem g47 (r : VGateRule) (hV : r.Verbs.length ≤ 281474976710656) : G47 r = some (ruB r.Verbs r.Kind r.Team r.Prefix) := by
  obtain ⟨V, K, T, P⟩ := r
  unfold G47 G47n ruB
  simp only at hV
  by_cases hl : V.length = 0
  · simp [hl]
  · have hl' : ((V.length : Int) == 0) = false := by simpa using hl
    by_cases hp : P.size ≤ 16
    · have hp' : ¬ (P.size : Int) > 16 := by omega
      simp only [lp47_0 hV, g75 hp, Option.bind_some]
      cases h1 : allB P 0
      · simp [hl, hl', hp, hp']
      · simp only [hl', hp', decide_false, cond_false, Bool.not_true, hp, decide_true, Bool.and_true]
        simp [hl]
        cases allN (vOne V) V.length 0 <;> simp
    · have hp' : (P.size : Int) > 16 := by omega
      simp [hl, hl', hp, hp']
end Go.Proofs.Ytgpopgfidphheaa.Ab
