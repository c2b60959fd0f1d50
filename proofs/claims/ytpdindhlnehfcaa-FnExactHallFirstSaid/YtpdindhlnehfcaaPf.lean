/- The plain law, part 6: marks. -/
import Derived.Test.YtpdindhlnehfcaaPe
set_option linter.unusedVariables false
set_option linter.unusedSimpArgs false
namespace Go.Proofs.Ytpdindhlnehfcaa.Ab
open Go Go.RowKit

theorem lp53 : ∀ (m : Nat) (x : Int) (s : ByteArray) (n : Nat), 0 ≤ x → x < (10 : Int) ^ m → x ≤ 2305843009213693952 → s.size + m ≤ 1000 → m < n → ∃ t, lpN (r53_0 fuel) n (x, s) = some t := by
  intro m
  induction m with
  | zero =>
    intro x s n h0 h1 hx hs hn
    rw [lp_open (by omega)]
    have hc : ¬ x > 0 := by omega
    have hz : (⟨#[109]⟩ : ByteArray).size + s.size ≤ 9223372036854775807 := by have : (⟨#[109]⟩ : ByteArray).size = 1 := rfl; omega
    simp only [r53_0, hc, hz, decide_false, decide_true, cond_false, cond_true]
    exact ⟨_, rfl⟩
  | succ m ih =>
    intro x s n h0 h1 hx hs hn
    rw [lp_open (by omega)]
    have hz : (⟨#[109]⟩ : ByteArray).size + s.size ≤ 9223372036854775807 := by have : (⟨#[109]⟩ : ByteArray).size = 1 := rfl; omega
    by_cases hc : x > 0
    · have ht : ¬ ((10 : Int) = 0) := by decide
      have hd : x.tdiv 10 = x / 10 := Int.tdiv_eq_ediv_of_nonneg h0
      have hp : (10 : Int) ^ (m + 1) = 10 ^ m * 10 := Int.pow_succ _ _
      have hw : IntKind.i64.wrap (x.tdiv 10) = x / 10 := by rw [hd, wrap_id (by omega) (by omega)]
      have hone : ∀ b : Int, (strOf KK .e5 ([b] : List (C .e5))).size = 1 := fun b => rfl
      have hz' : ∀ b : Int, (strOf KK .e5 ([b] : List (C .e5))).size + s.size ≤ 9223372036854775807 := fun b => by rw [hone]; omega
      simp only [r53_0, hc, hz', ht, decide_false, decide_true, cond_false, cond_true, hw]
      refine ih (x / 10) _ (n - 1) (by omega) (by omega) (by omega) ?_ (by omega)
      rw [ByteArray.size_append, hone]; omega
    · simp only [r53_0, hc, hz, decide_false, decide_true, cond_false, cond_true]
      exact ⟨_, rfl⟩
noncomputable def mt (k : Int) : ByteArray := (G53 k).getD ⟨#[]⟩
theorem g53 {k : Int} (h : 0 ≤ k) (h2 : k ≤ 2305843009213693952) : G53 k = some (mt k) := by
  have : ∃ t, G53 k = some t := by
    unfold G53 G53n
    by_cases hc : k ≤ 0
    · exact ⟨⟨#[109, 48]⟩, by simp only [hc, decide_true, cond_true]⟩
    · simp only [hc, decide_false, cond_false]
      exact lp53 19 k _ fuel h (by have : (10 : Int) ^ 19 = 10000000000000000000 := rfl; omega) h2 (by decide) (by have := fuel_big; omega)
  obtain ⟨t, e⟩ := this
  unfold mt
  rw [e]
  rfl
theorem lp54 {len : Nat} {k : Int} (hk : 0 ≤ k) (hl : len ≤ 1048576) (h2 : k ≤ 1152921504606846976) : ∀ n i (zs : List Int), i ≤ len → len - i < n → zs.length = len → (∀ j, j < i → zs[j]? = some (k + (j : Int))) → ∃ ys, lpN (r54_0 fuel) n (zs, k + (i : Int), (i : Int)) = some (ys, k + (len : Int)) ∧ ys.length = len ∧ ∀ j, j < len → ys[j]? = some (k + (j : Int)) := by
  intro n
  induction n with
  | zero => intro i zs _ h; omega
  | succ n ih =>
    intro i zs hi hn hz hj
    rw [lp_succ]
    rcases Nat.lt_or_ge i len with h | h
    · have h1 : (i : Int) < (zs.length : Int) := by omega
      have hw := wrap_nat (i := i) (by omega)
      have hw2 : IntKind.i64.wrap (k + (i : Int) + 1) = k + ((i + 1 : Nat) : Int) := by rw [wrap_id (by omega) (by omega)]; omega
      have hi' : i < zs.length := by omega
      simp only [r54_0]
      rw [get_cast hi', hw, hw2]
      simp only [h1, decide_true, cond_true, Int.natCast_nonneg, Option.bind_some, Int.toNat_natCast]
      refine ih (i + 1) _ h (by omega) (by simpa using hz) fun j hj' => ?_
      rcases Nat.lt_or_ge j i with h' | h'
      · rw [List.getElem?_set_ne (by omega)]; exact hj j h'
      · obtain rfl : j = i := by omega
        rw [List.getElem?_set_self hi']
    · obtain rfl : i = len := by omega
      have h1 : ¬ ((i : Int) < (zs.length : Int)) := by omega
      simp only [r54_0, h1, decide_false, cond_false]
      exact ⟨zs, rfl, hz, hj⟩
theorem g54 {xs : List Int} {k : Int} (hl : xs.length ≤ 1048576) (hk : 0 ≤ k) (h2 : k ≤ 1152921504606846976) : ∃ ys, G54 xs k = some (ys, k + (xs.length : Int)) ∧ G86 ys k = some (k + (xs.length : Int)) ∧ ys.length = xs.length := by
  have e0 : k + ((0 : Nat) : Int) = k := by omega
  obtain ⟨ys, e, hy, hj⟩ := lp54 hk hl h2 fuel 0 xs (Nat.zero_le _) (by have := fuel_big; omega) rfl (fun j hj => by omega)
  rw [e0] at e
  refine ⟨ys, e, ?_, hy⟩
  have := lp_idx (rnd := r86_0 fuel) (st := fun i => (ys, k + (i : Int), (i : Int))) (val := fun i => some (k + (ys.length : Int))) ys.length (fun rec => by simp [r86_0]) (fun rec i hi hr => by
    have hw := wrap_nat (i := i) (by omega)
    have hw2 : IntKind.i64.wrap (k + (i : Int) + 1) = k + ((i + 1 : Nat) : Int) := by rw [wrap_id (by omega) (by omega)]; omega
    have h1 : (i : Int) < (ys.length : Int) := by omega
    simp only [r86_0]
    rw [hw, hw2, Int.toNat_natCast, hj i (by omega)]
    simp only [h1, decide_true, cond_true, Int.natCast_nonneg, Option.bind_some, bne_self_eq_false, cond_false]
    exact hr) fuel 0 (Nat.zero_le _) (by have := fuel_big; omega)
  rw [← hy]
  rw [e0] at this
  exact this
theorem g25 {xs : List VGateTeam} {k : Int} (hl : xs.length ≤ 1048576) (hk : 0 ≤ k) (h2 : k ≤ 1048576) : ∃ r, G25 xs k = some r ∧ 0 ≤ r.2 ∧ r.2 ≤ k + 2 * (xs.length : Int) := by
  have key : ∀ n i (k : Int) (zs : List VGateTeam), zs.length ≤ 1048576 → i ≤ zs.length → zs.length - i < n → 0 ≤ k → k ≤ 4194304 + 2 * (i : Int) → ∃ r, lpN (r25_0 fuel) n (zs, k, (i : Int)) = some r ∧ 0 ≤ r.2 ∧ r.2 ≤ k + 2 * ((zs.length - i : Nat) : Int) := by
    intro n
    induction n with
    | zero => intro i k zs _ _ h; omega
    | succ n ih =>
      intro i k zs hl hi hn h0 hk
      rw [lp_succ]
      rcases Nat.lt_or_ge i zs.length with h | h
      · have h1 : (i : Int) < (zs.length : Int) := by omega
        have hw := wrap_nat (i := i) (by omega)
        have hw1 : IntKind.i64.wrap (k + 1) = k + 1 := wrap_id (by omega) (by omega)
        have hw2 : IntKind.i64.wrap (k + 1 + 1) = k + 1 + 1 := wrap_id (by omega) (by omega)
        simp only [r25_0]
        rw [get_cast h, hw]
        simp only [hw1, hw2, h1, decide_true, cond_true, Int.natCast_nonneg, Option.bind_some, Int.toNat_natCast, List.length_set, List.set_set, List.getElem?_set_self h, List.getElem?_eq_getElem h, g53 (k := k) h0 (by omega), g53 (k := k + 1) (by omega) (by omega)]
        obtain ⟨r, e, r1, r2⟩ := ih (i + 1) (k + 1 + 1) (zs.set i ⟨mt k, mt (k + 1)⟩) (by simpa using hl) (by rw [List.length_set]; omega) (by rw [List.length_set]; omega) (by omega) (by omega)
        refine ⟨r, e, r1, ?_⟩
        rw [List.length_set] at r2
        omega
      · have h1 : ¬ ((i : Int) < (zs.length : Int)) := by omega
        simp only [r25_0, h1, decide_false, cond_false]
        exact ⟨_, rfl, h0, by simp only; omega⟩
  exact key fuel 0 k xs hl (Nat.zero_le _) (by have := fuel_big; omega) hk (by omega)

/-- One marked grant. -/
def GM (y : VGateGrant) (k k1 : Int) : Prop := ∃ vs q, y = ⟨k, mt (k + 1), mt (k + 1 + 1), vs, mt q, mt (q + 1), mt (q + 1 + 1)⟩ ∧ G86 vs (k + 1 + 1 + 1) = some q ∧ 0 ≤ k ∧ k ≤ 1152921504606846976 ∧ 0 ≤ q ∧ q ≤ 1152921504606846976 ∧ k1 = q + 1 + 1 + 1
inductive HC (ys : List VGateGrant) : Nat → Int → Int → Prop
  | done (k) : HC ys ys.length k k
  | step {i k k1 k'} (hi : i < ys.length) (h : GM ys[i] k k1) (r : HC ys (i + 1) k1 k') : HC ys i k k'
theorem lp62 {ys : List VGateGrant} (hl : ys.length ≤ 1048576) {i : Nat} {k k' : Int} (h : HC ys i k k') : ∀ n, ys.length - i < n → lpN (r62_0 fuel) n (ys, k, (i : Int)) = some k' := by
  induction h with
  | done k =>
    intro n hn
    rw [lp_open (by omega)]
    have h1 : ¬ ((ys.length : Int) < (ys.length : Int)) := by omega
    simp only [r62_0, h1, decide_false, cond_false]
  | @step i k k1 k' hi hm _ ih =>
    intro n hn
    rw [lp_open (by omega)]
    obtain ⟨vs, q, e, e86, a1, a2, a3, a4, rfl⟩ := hm
    have h1 : (i : Int) < (ys.length : Int) := by omega
    have hw := wrap_nat (i := i) (by omega)
    have w1 : IntKind.i64.wrap (k + 1) = k + 1 := wrap_id (by omega) (by omega)
    have w2 : IntKind.i64.wrap (k + 1 + 1) = k + 1 + 1 := wrap_id (by omega) (by omega)
    have w3 : IntKind.i64.wrap (k + 1 + 1 + 1) = k + 1 + 1 + 1 := wrap_id (by omega) (by omega)
    have w4 : IntKind.i64.wrap (q + 1) = q + 1 := wrap_id (by omega) (by omega)
    have w5 : IntKind.i64.wrap (q + 1 + 1) = q + 1 + 1 := wrap_id (by omega) (by omega)
    have w6 : IntKind.i64.wrap (q + 1 + 1 + 1) = q + 1 + 1 + 1 := wrap_id (by omega) (by omega)
    have hq : ¬ q < 0 := by omega
    simp only [r62_0]
    rw [hw]
    simp only [get_cast hi, e, w1, w2, w3, w4, w5, w6, h1, hq, decide_true, decide_false, cond_true, cond_false, Int.natCast_nonneg, Option.bind_some, bne_self_eq_false, Bool.not_true, e86,
      g53 (k := k + 1) (by omega) (by omega), g53 (k := k + 1 + 1) (by omega) (by omega), g53 (k := q) (by omega) (by omega), g53 (k := q + 1) (by omega) (by omega), g53 (k := q + 1 + 1) (by omega) (by omega)]
    exact ih _ (by omega)
theorem lp26 : ∀ n i (k : Int) (zs : List VGateGrant), zs.length ≤ 1048576 → (∀ x ∈ zs, x.Rule_Verbs.length ≤ 1048576) → i ≤ zs.length → zs.length - i < n → 0 ≤ k → k ≤ 4194304 + 2097152 * (i : Int) → ∃ ys k', lpN (r26_0 fuel) n (zs, k, (i : Int)) = some (ys, k') ∧ ys.length = zs.length ∧ (∀ j, j < i → ys[j]? = zs[j]?) ∧ HC ys i k k' ∧ k ≤ k' := by
  intro n
  induction n with
  | zero => intro i k zs _ _ _ h; omega
  | succ n ih =>
    intro i k zs hl hv hi hn h0 hk
    rw [lp_succ]
    rcases Nat.lt_or_ge i zs.length with h | h
    · have h1 : (i : Int) < (zs.length : Int) := by omega
      have hw := wrap_nat (i := i) (by omega)
      have w1 : IntKind.i64.wrap (k + 1) = k + 1 := wrap_id (by omega) (by omega)
      have w2 : IntKind.i64.wrap (k + 1 + 1) = k + 1 + 1 := wrap_id (by omega) (by omega)
      have w3 : IntKind.i64.wrap (k + 1 + 1 + 1) = k + 1 + 1 + 1 := wrap_id (by omega) (by omega)
      have hlv := hv _ (List.getElem_mem h)
      obtain ⟨vs, e54, e86, hvl⟩ := g54 (xs := zs[i].Rule_Verbs) (k := k + 1 + 1 + 1) hlv (by omega) (by omega)
      generalize hq : k + 1 + 1 + 1 + (zs[i].Rule_Verbs.length : Int) = q at e54 e86
      have w4 : IntKind.i64.wrap (q + 1) = q + 1 := wrap_id (by omega) (by omega)
      have w5 : IntKind.i64.wrap (q + 1 + 1) = q + 1 + 1 := wrap_id (by omega) (by omega)
      have w6 : IntKind.i64.wrap (q + 1 + 1 + 1) = q + 1 + 1 + 1 := wrap_id (by omega) (by omega)
      simp only [r26_0]
      rw [hw]
      simp only [get_cast h, w1, w2, w3, h1, decide_true, cond_true, Int.natCast_nonneg, Option.bind_some, Int.toNat_natCast, List.length_set, List.set_set, List.getElem?_set_self h, List.getElem?_eq_getElem h,
        g53 (k := k + 1) (by omega) (by omega), g53 (k := k + 1 + 1) (by omega) (by omega), e54, w4, w5, w6, g53 (k := q) (by omega) (by omega), g53 (k := q + 1) (by omega) (by omega), g53 (k := q + 1 + 1) (by omega) (by omega)]
      have hvs : vs.length ≤ 1048576 := by omega
      obtain ⟨ys, k', e, e1, e2, e3, e4⟩ := ih (i + 1) (q + 1 + 1 + 1) (zs.set i ⟨k, mt (k + 1), mt (k + 1 + 1), vs, mt q, mt (q + 1), mt (q + 1 + 1)⟩) (by simpa using hl) (fun x hx => by
        rcases List.mem_or_eq_of_mem_set hx with hx | rfl
        · exact hv x hx
        · exact hvs) (by rw [List.length_set]; omega) (by rw [List.length_set]; omega) (by omega) (by omega)
      rw [List.length_set] at e1
      refine ⟨ys, k', e, e1, fun j hj => ?_, ?_, by omega⟩
      · rw [e2 j (by omega), List.getElem?_set_ne (by omega)]
      · have hy := e2 i (by omega)
        rw [List.getElem?_set_self h] at hy
        have hi' : i < ys.length := by omega
        rw [List.getElem?_eq_getElem hi'] at hy
        exact HC.step hi' ⟨vs, q, Option.some.inj hy, e86, by omega, by omega, by omega, by omega, rfl⟩ e3
    · have h1 : ¬ ((i : Int) < (zs.length : Int)) := by omega
      obtain rfl : i = zs.length := by omega
      simp only [r26_0, h1, decide_false, cond_false]
      exact ⟨_, _, rfl, rfl, fun _ _ => rfl, HC.done _, Int.le_refl _⟩
theorem g26 {xs : List VGateGrant} {k : Int} (hl : xs.length ≤ 1048576) (hv : ∀ x ∈ xs, x.Rule_Verbs.length ≤ 1048576) (h0 : 0 ≤ k) (hk : k ≤ 4194304) : ∃ ys k', G26 xs k = some (ys, k') ∧ G62 ys k = some k' ∧ k ≤ k' := by
  obtain ⟨ys, k', e, e1, _, e3, e4⟩ := lp26 fuel 0 k xs hl hv (Nat.zero_le _) (by have := fuel_big; omega) h0 (by omega)
  exact ⟨ys, k', e, lp62 (by omega) e3 fuel (by have := fuel_big; omega), e4⟩
end Go.Proofs.Ytpdindhlnehfcaa.Ab
