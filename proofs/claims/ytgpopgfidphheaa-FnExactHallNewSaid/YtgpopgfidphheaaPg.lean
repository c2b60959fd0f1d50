/- The plain law: what is marked is held; what is compared with itself is alike. Printed out of the types. -/
import Derived.Test.YtgpopgfidphheaaPe
set_option linter.unusedVariables false
set_option linter.unusedSimpArgs false
set_option maxRecDepth 10000
namespace Go.Proofs.Ytgpopgfidphheaa.Ab
open Go Go.RowKit

theorem fuel_big2 : 2305843009213693952 ≤ fuel := by unfold fuel; omega
theorem len_sum {α : Type} {w : α → Nat} (h : ∀ x, 1 ≤ w x) : ∀ xs : List α, xs.length ≤ (xs.map w).sum
  | [] => Nat.le_refl _
  | x :: t => by have := len_sum h t; have := h x; simp only [List.length_cons, List.map_cons, List.sum_cons]; omega
theorem sum_get {α : Type} {w : α → Nat} : ∀ {xs : List α} {i : Nat} (hi : i < xs.length), w xs[i] ≤ (xs.map w).sum
  | [], _, h => by simp at h
  | x :: t, 0, _ => by simp
  | x :: t, i + 1, h => by
    have := sum_get (w := w) (xs := t) (i := i) (by simpa using h)
    simp only [List.getElem_cons_succ, List.map_cons, List.sum_cons]; omega
theorem sum_drop {α : Type} {w : α → Nat} {xs : List α} {i : Nat} (hi : i < xs.length) : ((xs.drop i).map w).sum = w xs[i] + ((xs.drop (i + 1)).map w).sum := by
  rw [List.drop_eq_getElem_cons hi, List.map_cons, List.sum_cons]
inductive HC {α : Type} (gm : α → Int → Int → Prop) (ys : List α) : Nat → Int → Int → Prop
  | done (k) : HC gm ys ys.length k k
  | step {i k k1 k'} (hi : i < ys.length) (h : gm ys[i] k k1) (h0 : 0 ≤ k) (r : HC gm ys (i + 1) k1 k') : HC gm ys i k k'
theorem held_lp {α : Type} {gm : α → Int → Int → Prop} {ys : List α} {rnd : (List α × Int × Int → Option Int) → List α × Int × Int → Option Int}
    (hend : ∀ rec k, rnd rec (ys, k, (ys.length : Int)) = some k)
    (hstep : ∀ rec i (hi : i < ys.length) k k1, gm ys[i] k k1 → 0 ≤ k → rnd rec (ys, k, (i : Int)) = rec (ys, k1, ((i + 1 : Nat) : Int)))
    {i : Nat} {k k' : Int} (h : HC gm ys i k k') : ∀ n, ys.length - i < n → lpN rnd n (ys, k, (i : Int)) = some k' := by
  induction h with
  | done k => intro n hn; rw [lp_open (by omega)]; exact hend _ _
  | @step i k k1 k' hi hm h0 _ ih =>
    intro n hn
    rw [lp_open (by omega), hstep _ i hi k k1 hm h0]
    exact ih _ (by omega)
theorem mark_lp {α : Type} {w : α → Nat} {gm : α → Int → Int → Prop} {rnd : (List α × Int × Int → Option (List α × Int)) → List α × Int × Int → Option (List α × Int)}
    (hend : ∀ rec (zs : List α) k, rnd rec (zs, k, (zs.length : Int)) = some (zs, k))
    (hstep : ∀ (zs : List α) i (hi : i < zs.length) k, zs.length ≤ 1152921504606846976 → 0 ≤ k → k + (w zs[i] : Int) ≤ 1152921504606846976 → ∃ y, (∀ rec, rnd rec (zs, k, (i : Int)) = rec (zs.set i y, k + (w zs[i] : Int), ((i + 1 : Nat) : Int))) ∧ gm y k (k + (w zs[i] : Int))) :
    ∀ n i (zs : List α) k, zs.length ≤ 1152921504606846976 → i ≤ zs.length → zs.length - i < n → 0 ≤ k → k + ((((zs.drop i).map w).sum : Nat) : Int) ≤ 1152921504606846976 → ∃ ys, lpN rnd n (zs, k, (i : Int)) = some (ys, k + ((((zs.drop i).map w).sum : Nat) : Int)) ∧ ys.length = zs.length ∧ (∀ j, j < i → ys[j]? = zs[j]?) ∧ HC gm ys i k (k + ((((zs.drop i).map w).sum : Nat) : Int)) := by
  intro n
  induction n with
  | zero => intro i zs k _ _ h; omega
  | succ n ih =>
    intro i zs k hl hi hn h0 hk
    rw [lp_succ]
    rcases Nat.lt_or_ge i zs.length with h | h
    · rw [sum_drop h] at hk ⊢
      obtain ⟨y, e, g⟩ := hstep zs i h k hl h0 (by omega)
      rw [e]
      have hd : (zs.set i y).drop (i + 1) = zs.drop (i + 1) := by rw [List.drop_set_of_lt (by omega)]
      obtain ⟨ys, e, e1, e2, e3⟩ := ih (i + 1) (zs.set i y) (k + (w zs[i] : Int)) (by rw [List.length_set]; omega) (by rw [List.length_set]; omega) (by rw [List.length_set]; omega) (by omega) (by rw [hd]; omega)
      rw [hd] at e e3
      rw [List.length_set] at e1
      have ek : k + (w zs[i] : Int) + ((((zs.drop (i + 1)).map w).sum : Nat) : Int) = k + ((w zs[i] + ((zs.drop (i + 1)).map w).sum : Nat) : Int) := by omega
      rw [ek] at e e3
      refine ⟨ys, e, e1, fun j hj => ?_, ?_⟩
      · rw [e2 j (by omega), List.getElem?_set_ne (by omega)]
      · have hy := e2 i (by omega)
        rw [List.getElem?_set_self h] at hy
        have hi' : i < ys.length := by omega
        rw [List.getElem?_eq_getElem hi'] at hy
        refine HC.step hi' ?_ h0 e3
        rw [Option.some.inj hy]
        exact g
    · obtain rfl : i = zs.length := by omega
      rw [hend]
      have e0 : k + ((((zs.drop zs.length).map w).sum : Nat) : Int) = k := by simp
      rw [e0]
      exact ⟨zs, rfl, rfl, fun _ _ => rfl, HC.done _⟩
theorem mark_both {α : Type} {w : α → Nat} {gm : α → Int → Int → Prop} {rm : (List α × Int × Int → Option (List α × Int)) → List α × Int × Int → Option (List α × Int)} {rh : (List α × Int × Int → Option Int) → List α × Int × Int → Option Int}
    (hw : ∀ x, 1 ≤ w x)
    (hend : ∀ rec (zs : List α) k, rm rec (zs, k, (zs.length : Int)) = some (zs, k))
    (hstep : ∀ (zs : List α) i (hi : i < zs.length) k, zs.length ≤ 1152921504606846976 → 0 ≤ k → k + (w zs[i] : Int) ≤ 1152921504606846976 → ∃ y, (∀ rec, rm rec (zs, k, (i : Int)) = rec (zs.set i y, k + (w zs[i] : Int), ((i + 1 : Nat) : Int))) ∧ gm y k (k + (w zs[i] : Int)))
    (hend2 : ∀ rec (ys : List α) k, rh rec (ys, k, (ys.length : Int)) = some k)
    (hstep2 : ∀ rec (ys : List α) i (hi : i < ys.length) k k1, ys.length ≤ 1152921504606846976 → gm ys[i] k k1 → 0 ≤ k → rh rec (ys, k, (i : Int)) = rec (ys, k1, ((i + 1 : Nat) : Int)))
    {xs : List α} {k : Int} (h0 : 0 ≤ k) (hk : k + (((xs.map w).sum : Nat) : Int) ≤ 1152921504606846976) :
    ∃ ys, lpN rm fuel (xs, k, 0) = some (ys, k + (((xs.map w).sum : Nat) : Int)) ∧ lpN rh fuel (ys, k, 0) = some (k + (((xs.map w).sum : Nat) : Int)) := by
  have hl := len_sum hw xs
  obtain ⟨ys, e, e1, _, e3⟩ := mark_lp hend hstep fuel 0 xs k (by omega) (Nat.zero_le _) (by have := fuel_big2; omega) h0 (by simpa using hk)
  refine ⟨ys, e, ?_⟩
  exact held_lp (fun rec k => hend2 rec ys k) (fun rec i hi k k1 g h0 => hstep2 rec ys i hi k k1 (by omega) g h0) e3 fuel (by have := fuel_big2; omega)
theorem eq_lp {α : Type} {xs : List α} {rnd : (List α × List α × Int → Option Bool) → List α × List α × Int → Option Bool}
    (hl : xs.length ≤ 1152921504606846976)
    (hend : ∀ rec, rnd rec (xs, xs, (xs.length : Int)) = some true)
    (hstep : ∀ rec i (hi : i < xs.length), rnd rec (xs, xs, (i : Int)) = rec (xs, xs, ((i + 1 : Nat) : Int))) : lpN rnd fuel (xs, xs, 0) = some true :=
  lp_idx (st := fun i => (xs, xs, (i : Int))) (val := fun _ => some true) xs.length hend (fun rec i hi hr => by rw [hstep rec i hi]; exact hr) fuel 0 (Nat.zero_le _) (by have := fuel_big2; omega)

theorem mt_lp : ∀ (m : Nat) (x : Int) (s : ByteArray) (n : Nat), 0 ≤ x → x < (10 : Int) ^ m → x ≤ 2305843009213693952 → s.size + m ≤ 1000 → m < n → ∃ t, lpN (r58_0 fuel) n (x, s) = some t := by
  intro m
  induction m with
  | zero =>
    intro x s n h0 h1 hx hs hn
    rw [lp_open (by omega)]
    have hc : ¬ x > 0 := by omega
    have hz : (⟨#[109]⟩ : ByteArray).size + s.size ≤ 9223372036854775807 := by have : (⟨#[109]⟩ : ByteArray).size = 1 := rfl; omega
    simp only [r58_0, hc, hz, decide_false, decide_true, cond_false, cond_true]
    exact ⟨_, rfl⟩
  | succ m ih =>
    intro x s n h0 h1 hx hs hn
    rw [lp_open (by omega)]
    have hz : (⟨#[109]⟩ : ByteArray).size + s.size ≤ 9223372036854775807 := by have : (⟨#[109]⟩ : ByteArray).size = 1 := rfl; omega
    by_cases hc : x > 0
    · have ht : ¬ ((10 : Int) = 0) := by decide
      have hd : x.tdiv 10 = x / 10 := Int.tdiv_eq_ediv_of_nonneg h0
      have hp : (10 : Int) ^ (m + 1) = 10 ^ m * 10 := Int.pow_succ _ _
      have hw : IntKind.i64.wrap (x.tdiv 10) = x / 10 := by rw [hd, wrap_id (by omega) (by omega)]
      have hone : ∀ b : Int, (strOf KK .e5 ([b] : List (C .e5))).size = 1 := fun b => rfl
      have hz' : ∀ b : Int, (strOf KK .e5 ([b] : List (C .e5))).size + s.size ≤ 9223372036854775807 := fun b => by rw [hone]; omega
      simp only [r58_0, hc, hz', ht, decide_false, decide_true, cond_false, cond_true, hw]
      refine ih (x / 10) _ (n - 1) (by omega) (by omega) (by omega) ?_ (by omega)
      rw [ByteArray.size_append, hone]; omega
    · simp only [r58_0, hc, hz, decide_false, decide_true, cond_false, cond_true]
      exact ⟨_, rfl⟩
noncomputable def mt (k : Int) : ByteArray := (G58 k).getD ⟨#[]⟩
theorem g58_mt {k : Int} (h : 0 ≤ k) (h2 : k ≤ 2305843009213693952) : G58 k = some (mt k) := by
  have : ∃ t, G58 k = some t := by
    unfold G58 G58n
    by_cases hc : k ≤ 0
    · exact ⟨⟨#[109, 48]⟩, by simp only [hc, decide_true, cond_true]⟩
    · simp only [hc, decide_false, cond_false]
      exact mt_lp 19 k _ fuel h (by have : (10 : Int) ^ 19 = 10000000000000000000 := rfl; omega) h2 (by decide) (by have := fuel_big; omega)
  obtain ⟨t, e⟩ := this
  unfold mt
  rw [e]
  rfl

def w_HallAsked (x : VHallAsked) : Nat := 6
def w_HallAskedS (xs : List VHallAsked) : Nat := (xs.map w_HallAsked).sum
theorem w_HallAsked_pos (x : VHallAsked) : 1 ≤ w_HallAsked x := by unfold w_HallAsked; omega
theorem w_HallAskedS_len (xs : List VHallAsked) : xs.length ≤ w_HallAskedS xs := len_sum w_HallAsked_pos xs
theorem eq_HallAsked {x : VHallAsked} (h : w_HallAsked x ≤ 1152921504606846976) : G55 x x = some true := by
  unfold w_HallAsked at h
  simp only [G8, G8n, G9, G9n, G24, G24n, G55, G55n, G56, G56n, G57, G57n, G78, G78n, G79, G79n, G80, G80n, G81, G81n, G82, G82n, G93, G93n, G99, G99n, G100, G100n, bne_self_eq_false, cond_false, decide_true, Bool.not_true, Option.bind_some, beq_self_eq_true]
theorem eq_HallAskedS {xs : List VHallAsked} (h : w_HallAskedS xs ≤ 1152921504606846976) : G25 xs xs = some true := by
  have hl := w_HallAskedS_len xs
  unfold G25 G25n
  simp only [bne_self_eq_false, cond_false]
  refine eq_lp (rnd := r25_0 fuel) (by omega) (fun rec => by simp [r25_0]) (fun rec i hi => ?_)
  have hw := wrap_nat (i := i) (by omega)
  have h1 : (i : Int) < (xs.length : Int) := by omega
  have he := eq_HallAsked (x := xs[i]) (by have := sum_get (w := w_HallAsked) hi; unfold w_HallAskedS at h; omega)
  simp only [r25_0]
  rw [get_cast hi, hw]
  simp only [h1, decide_true, cond_true, Int.natCast_nonneg, Option.bind_some, bne_self_eq_false, Bool.not_true, cond_false, he]
def gm_HallAsked (y : VHallAsked) (k k1 : Int) : Prop := y = (⟨mt (k), k + 1, k + 1 + 1, k + 1 + 1 + 1, k + 1 + 1 + 1 + 1, k + 1 + 1 + 1 + 1 + 1⟩ : VHallAsked) ∧ k1 = k + 1 + 1 + 1 + 1 + 1 + 1 ∧ k1 ≤ 1152921504606846976
set_option maxHeartbeats 2000000 in
theorem mark_HallAskedS {xs : List VHallAsked} {k : Int} (h0 : 0 ≤ k) (h : k + (w_HallAskedS xs : Int) ≤ 1152921504606846976) : ∃ ys : List VHallAsked, G31 xs k = some (ys, k + (w_HallAskedS xs : Int)) ∧ G34 ys k = some (k + (w_HallAskedS xs : Int)) := by
  refine mark_both (α := VHallAsked) (w := w_HallAsked) (gm := gm_HallAsked) (rm := r31_0 fuel) (rh := r34_0 fuel) w_HallAsked_pos (fun rec zs k => by simp [r31_0]) (fun zs i hi k hl h0 hk => ?_) (fun rec ys k => by simp [r34_0]) (fun rec ys i hi k k1 hl g h0 => ?_) h0 h
  · have hw := wrap_nat (i := i) (by omega)
    have h1 : (i : Int) < (zs.length : Int) := by omega
    have h30 : ¬ ((3 : Int) = 0) := by decide
    have h30n : ¬ ((3 : Nat) = 0) := by decide
    unfold w_HallAsked at hk ⊢
    have w0 : IntKind.i64.wrap (k + 1) = k + 1 := wrap_id (by omega) (by omega)
    have w1 : IntKind.i64.wrap (k + 1 + 1) = k + 1 + 1 := wrap_id (by omega) (by omega)
    have w2 : IntKind.i64.wrap (k + 1 + 1 + 1) = k + 1 + 1 + 1 := wrap_id (by omega) (by omega)
    have w3 : IntKind.i64.wrap (k + 1 + 1 + 1 + 1) = k + 1 + 1 + 1 + 1 := wrap_id (by omega) (by omega)
    have w4 : IntKind.i64.wrap (k + 1 + 1 + 1 + 1 + 1) = k + 1 + 1 + 1 + 1 + 1 := wrap_id (by omega) (by omega)
    have w5 : IntKind.i64.wrap (k + 1 + 1 + 1 + 1 + 1 + 1) = k + 1 + 1 + 1 + 1 + 1 + 1 := wrap_id (by omega) (by omega)
    have he : k + ((6 : Nat) : Int) = k + 1 + 1 + 1 + 1 + 1 + 1 := by omega
    rw [he]
    refine ⟨(⟨mt (k), k + 1, k + 1 + 1, k + 1 + 1 + 1, k + 1 + 1 + 1 + 1, k + 1 + 1 + 1 + 1 + 1⟩ : VHallAsked), fun rec => ?_, ⟨rfl, rfl, by omega⟩⟩
    simp only [r31_0]
    rw [hw]
    simp only [get_cast hi, List.getElem?_eq_getElem hi, h30, h30n, decide_false, h1, w0, w1, w2, w3, w4, w5, g58_mt (k := k) (by omega) (by omega), decide_true, cond_true, cond_false, Int.natCast_nonneg, Option.bind_some, Int.toNat_natCast, List.length_set, List.set_set, List.getElem?_set_self hi]
  · obtain ⟨e, rfl, hb⟩ := g
    have hw := wrap_nat (i := i) (by omega)
    have h1 : (i : Int) < (ys.length : Int) := by omega
    have h30 : ¬ ((3 : Int) = 0) := by decide
    have h30n : ¬ ((3 : Nat) = 0) := by decide
    have w0 : IntKind.i64.wrap (k + 1) = k + 1 := wrap_id (by omega) (by omega)
    have w1 : IntKind.i64.wrap (k + 1 + 1) = k + 1 + 1 := wrap_id (by omega) (by omega)
    have w2 : IntKind.i64.wrap (k + 1 + 1 + 1) = k + 1 + 1 + 1 := wrap_id (by omega) (by omega)
    have w3 : IntKind.i64.wrap (k + 1 + 1 + 1 + 1) = k + 1 + 1 + 1 + 1 := wrap_id (by omega) (by omega)
    have w4 : IntKind.i64.wrap (k + 1 + 1 + 1 + 1 + 1) = k + 1 + 1 + 1 + 1 + 1 := wrap_id (by omega) (by omega)
    have w5 : IntKind.i64.wrap (k + 1 + 1 + 1 + 1 + 1 + 1) = k + 1 + 1 + 1 + 1 + 1 + 1 := wrap_id (by omega) (by omega)
    simp only [r34_0]
    rw [hw]
    simp only [get_cast hi, e, h30, h30n, decide_false, h1, w0, w1, w2, w3, w4, w5, g58_mt (k := k) (by omega) (by omega), decide_true, decide_false, cond_true, cond_false, Int.natCast_nonneg, Option.bind_some, bne_self_eq_false, beq_self_eq_true, Bool.not_true]
def w_GateTeam (x : VGateTeam) : Nat := 2
def w_GateTeamS (xs : List VGateTeam) : Nat := (xs.map w_GateTeam).sum
theorem w_GateTeam_pos (x : VGateTeam) : 1 ≤ w_GateTeam x := by unfold w_GateTeam; omega
theorem w_GateTeamS_len (xs : List VGateTeam) : xs.length ≤ w_GateTeamS xs := len_sum w_GateTeam_pos xs
theorem eq_GateTeam {x : VGateTeam} (h : w_GateTeam x ≤ 1152921504606846976) : G56 x x = some true := by
  unfold w_GateTeam at h
  simp only [G8, G8n, G9, G9n, G24, G24n, G55, G55n, G56, G56n, G57, G57n, G78, G78n, G79, G79n, G80, G80n, G81, G81n, G82, G82n, G93, G93n, G99, G99n, G100, G100n, bne_self_eq_false, cond_false, decide_true, Bool.not_true, Option.bind_some, beq_self_eq_true]
theorem eq_GateTeamS {xs : List VGateTeam} (h : w_GateTeamS xs ≤ 1152921504606846976) : G26 xs xs = some true := by
  have hl := w_GateTeamS_len xs
  unfold G26 G26n
  simp only [bne_self_eq_false, cond_false]
  refine eq_lp (rnd := r26_0 fuel) (by omega) (fun rec => by simp [r26_0]) (fun rec i hi => ?_)
  have hw := wrap_nat (i := i) (by omega)
  have h1 : (i : Int) < (xs.length : Int) := by omega
  have he := eq_GateTeam (x := xs[i]) (by have := sum_get (w := w_GateTeam) hi; unfold w_GateTeamS at h; omega)
  simp only [r26_0]
  rw [get_cast hi, hw]
  simp only [h1, decide_true, cond_true, Int.natCast_nonneg, Option.bind_some, bne_self_eq_false, Bool.not_true, cond_false, he]
def gm_GateTeam (y : VGateTeam) (k k1 : Int) : Prop := y = (⟨mt (k), mt (k + 1)⟩ : VGateTeam) ∧ k1 = k + 1 + 1 ∧ k1 ≤ 1152921504606846976
set_option maxHeartbeats 2000000 in
theorem mark_GateTeamS {xs : List VGateTeam} {k : Int} (h0 : 0 ≤ k) (h : k + (w_GateTeamS xs : Int) ≤ 1152921504606846976) : ∃ ys : List VGateTeam, G28 xs k = some (ys, k + (w_GateTeamS xs : Int)) ∧ G63 ys k = some (k + (w_GateTeamS xs : Int)) := by
  refine mark_both (α := VGateTeam) (w := w_GateTeam) (gm := gm_GateTeam) (rm := r28_0 fuel) (rh := r63_0 fuel) w_GateTeam_pos (fun rec zs k => by simp [r28_0]) (fun zs i hi k hl h0 hk => ?_) (fun rec ys k => by simp [r63_0]) (fun rec ys i hi k k1 hl g h0 => ?_) h0 h
  · have hw := wrap_nat (i := i) (by omega)
    have h1 : (i : Int) < (zs.length : Int) := by omega
    have h30 : ¬ ((3 : Int) = 0) := by decide
    have h30n : ¬ ((3 : Nat) = 0) := by decide
    unfold w_GateTeam at hk ⊢
    have w0 : IntKind.i64.wrap (k + 1) = k + 1 := wrap_id (by omega) (by omega)
    have w1 : IntKind.i64.wrap (k + 1 + 1) = k + 1 + 1 := wrap_id (by omega) (by omega)
    have he : k + ((2 : Nat) : Int) = k + 1 + 1 := by omega
    rw [he]
    refine ⟨(⟨mt (k), mt (k + 1)⟩ : VGateTeam), fun rec => ?_, ⟨rfl, rfl, by omega⟩⟩
    simp only [r28_0]
    rw [hw]
    simp only [get_cast hi, List.getElem?_eq_getElem hi, h30, h30n, decide_false, h1, w0, w1, g58_mt (k := k) (by omega) (by omega), g58_mt (k := k + 1) (by omega) (by omega), decide_true, cond_true, cond_false, Int.natCast_nonneg, Option.bind_some, Int.toNat_natCast, List.length_set, List.set_set, List.getElem?_set_self hi]
  · obtain ⟨e, rfl, hb⟩ := g
    have hw := wrap_nat (i := i) (by omega)
    have h1 : (i : Int) < (ys.length : Int) := by omega
    have h30 : ¬ ((3 : Int) = 0) := by decide
    have h30n : ¬ ((3 : Nat) = 0) := by decide
    have w0 : IntKind.i64.wrap (k + 1) = k + 1 := wrap_id (by omega) (by omega)
    have w1 : IntKind.i64.wrap (k + 1 + 1) = k + 1 + 1 := wrap_id (by omega) (by omega)
    simp only [r63_0]
    rw [hw]
    simp only [get_cast hi, e, h30, h30n, decide_false, h1, w0, w1, g58_mt (k := k) (by omega) (by omega), g58_mt (k := k + 1) (by omega) (by omega), decide_true, decide_false, cond_true, cond_false, Int.natCast_nonneg, Option.bind_some, bne_self_eq_false, beq_self_eq_true, Bool.not_true]
def w_Int (_ : Int) : Nat := 1
def w_IntS (xs : List Int) : Nat := (xs.map w_Int).sum
theorem w_Int_pos (x : Int) : 1 ≤ w_Int x := by unfold w_Int; omega
theorem w_IntS_len (xs : List Int) : xs.length ≤ w_IntS xs := len_sum w_Int_pos xs
theorem eq_IntS {xs : List Int} (h : w_IntS xs ≤ 1152921504606846976) : G95 xs xs = some true := by
  have hl := w_IntS_len xs
  unfold G95 G95n
  simp only [bne_self_eq_false, cond_false]
  refine eq_lp (rnd := r95_0 fuel) (by omega) (fun rec => by simp [r95_0]) (fun rec i hi => ?_)
  have hw := wrap_nat (i := i) (by omega)
  have h1 : (i : Int) < (xs.length : Int) := by omega
  simp only [r95_0]
  rw [get_cast hi, hw]
  simp only [h1, decide_true, cond_true, Int.natCast_nonneg, Option.bind_some, bne_self_eq_false, Bool.not_true, cond_false]
def gm_Int (y : Int) (k k1 : Int) : Prop := y = k ∧ k1 = k + 1 ∧ k1 ≤ 1152921504606846976
set_option maxHeartbeats 2000000 in
theorem mark_IntS {xs : List Int} {k : Int} (h0 : 0 ≤ k) (h : k + (w_IntS xs : Int) ≤ 1152921504606846976) : ∃ ys : List Int, G59 xs k = some (ys, k + (w_IntS xs : Int)) ∧ G86 ys k = some (k + (w_IntS xs : Int)) := by
  refine mark_both (α := Int) (w := w_Int) (gm := gm_Int) (rm := r59_0 fuel) (rh := r86_0 fuel) w_Int_pos (fun rec zs k => by simp [r59_0]) (fun zs i hi k hl h0 hk => ?_) (fun rec ys k => by simp [r86_0]) (fun rec ys i hi k k1 hl g h0 => ?_) h0 h
  · have hw := wrap_nat (i := i) (by omega)
    have h1 : (i : Int) < (zs.length : Int) := by omega
    have h30 : ¬ ((3 : Int) = 0) := by decide
    have h30n : ¬ ((3 : Nat) = 0) := by decide
    unfold w_Int at hk ⊢
    have w0 : IntKind.i64.wrap (k + 1) = k + 1 := wrap_id (by omega) (by omega)
    have he : k + ((1 : Nat) : Int) = k + 1 := by omega
    rw [he]
    refine ⟨k, fun rec => ?_, ⟨rfl, rfl, by omega⟩⟩
    simp only [r59_0]
    rw [hw]
    simp only [get_cast hi, List.getElem?_eq_getElem hi, h30, h30n, decide_false, h1, w0, decide_true, cond_true, cond_false, Int.natCast_nonneg, Option.bind_some, Int.toNat_natCast, List.length_set, List.set_set, List.getElem?_set_self hi]
  · obtain ⟨e, rfl, hb⟩ := g
    have hw := wrap_nat (i := i) (by omega)
    have h1 : (i : Int) < (ys.length : Int) := by omega
    have h30 : ¬ ((3 : Int) = 0) := by decide
    have h30n : ¬ ((3 : Nat) = 0) := by decide
    have w0 : IntKind.i64.wrap (k + 1) = k + 1 := wrap_id (by omega) (by omega)
    simp only [r86_0]
    rw [hw]
    simp only [get_cast hi, e, h30, h30n, decide_false, h1, w0, decide_true, decide_false, cond_true, cond_false, Int.natCast_nonneg, Option.bind_some, bne_self_eq_false, beq_self_eq_true, Bool.not_true]
def w_GateGrant (x : VGateGrant) : Nat := 6 + w_IntS x.Rule_Verbs
def w_GateGrantS (xs : List VGateGrant) : Nat := (xs.map w_GateGrant).sum
theorem w_GateGrant_pos (x : VGateGrant) : 1 ≤ w_GateGrant x := by unfold w_GateGrant; omega
theorem w_GateGrantS_len (xs : List VGateGrant) : xs.length ≤ w_GateGrantS xs := len_sum w_GateGrant_pos xs
theorem eq_GateGrant {x : VGateGrant} (h : w_GateGrant x ≤ 1152921504606846976) : G57 x x = some true := by
  unfold w_GateGrant at h
  simp only [G8, G8n, G9, G9n, G24, G24n, G55, G55n, G56, G56n, G57, G57n, G78, G78n, G79, G79n, G80, G80n, G81, G81n, G82, G82n, G93, G93n, G99, G99n, G100, G100n, eq_IntS (xs := x.Rule_Verbs) (by omega), bne_self_eq_false, cond_false, decide_true, Bool.not_true, Option.bind_some, beq_self_eq_true]
theorem eq_GateGrantS {xs : List VGateGrant} (h : w_GateGrantS xs ≤ 1152921504606846976) : G27 xs xs = some true := by
  have hl := w_GateGrantS_len xs
  unfold G27 G27n
  simp only [bne_self_eq_false, cond_false]
  refine eq_lp (rnd := r27_0 fuel) (by omega) (fun rec => by simp [r27_0]) (fun rec i hi => ?_)
  have hw := wrap_nat (i := i) (by omega)
  have h1 : (i : Int) < (xs.length : Int) := by omega
  have he := eq_GateGrant (x := xs[i]) (by have := sum_get (w := w_GateGrant) hi; unfold w_GateGrantS at h; omega)
  simp only [r27_0]
  rw [get_cast hi, hw]
  simp only [h1, decide_true, cond_true, Int.natCast_nonneg, Option.bind_some, bne_self_eq_false, Bool.not_true, cond_false, he]
def gm_GateGrant (y : VGateGrant) (k k1 : Int) : Prop := ∃ (l0 : List Int) (n0 : Nat), y = (⟨k, mt (k + 1), mt (k + 1 + 1), l0, mt (k + 1 + 1 + 1 + (n0 : Int)), mt (k + 1 + 1 + 1 + (n0 : Int) + 1), mt (k + 1 + 1 + 1 + (n0 : Int) + 1 + 1)⟩ : VGateGrant) ∧ G86 l0 (k + 1 + 1 + 1) = some (k + 1 + 1 + 1 + (n0 : Int)) ∧ k1 = k + 1 + 1 + 1 + (n0 : Int) + 1 + 1 + 1 ∧ k1 ≤ 1152921504606846976
set_option maxHeartbeats 2000000 in
theorem mark_GateGrantS {xs : List VGateGrant} {k : Int} (h0 : 0 ≤ k) (h : k + (w_GateGrantS xs : Int) ≤ 1152921504606846976) : ∃ ys : List VGateGrant, G29 xs k = some (ys, k + (w_GateGrantS xs : Int)) ∧ G64 ys k = some (k + (w_GateGrantS xs : Int)) := by
  refine mark_both (α := VGateGrant) (w := w_GateGrant) (gm := gm_GateGrant) (rm := r29_0 fuel) (rh := r64_0 fuel) w_GateGrant_pos (fun rec zs k => by simp [r29_0]) (fun zs i hi k hl h0 hk => ?_) (fun rec ys k => by simp [r64_0]) (fun rec ys i hi k k1 hl g h0 => ?_) h0 h
  · have hw := wrap_nat (i := i) (by omega)
    have h1 : (i : Int) < (zs.length : Int) := by omega
    have h30 : ¬ ((3 : Int) = 0) := by decide
    have h30n : ¬ ((3 : Nat) = 0) := by decide
    unfold w_GateGrant at hk ⊢
    generalize en0 : w_IntS (zs[i]).Rule_Verbs = n0 at hk ⊢
    obtain ⟨l0, ml0, hl0⟩ := mark_IntS (xs := (zs[i]).Rule_Verbs) (k := k + 1 + 1 + 1) (by omega) (by rw [en0]; omega)
    rw [en0] at ml0 hl0
    have w0 : IntKind.i64.wrap (k + 1) = k + 1 := wrap_id (by omega) (by omega)
    have w1 : IntKind.i64.wrap (k + 1 + 1) = k + 1 + 1 := wrap_id (by omega) (by omega)
    have w2 : IntKind.i64.wrap (k + 1 + 1 + 1) = k + 1 + 1 + 1 := wrap_id (by omega) (by omega)
    have w3 : IntKind.i64.wrap (k + 1 + 1 + 1 + (n0 : Int) + 1) = k + 1 + 1 + 1 + (n0 : Int) + 1 := wrap_id (by omega) (by omega)
    have w4 : IntKind.i64.wrap (k + 1 + 1 + 1 + (n0 : Int) + 1 + 1) = k + 1 + 1 + 1 + (n0 : Int) + 1 + 1 := wrap_id (by omega) (by omega)
    have w5 : IntKind.i64.wrap (k + 1 + 1 + 1 + (n0 : Int) + 1 + 1 + 1) = k + 1 + 1 + 1 + (n0 : Int) + 1 + 1 + 1 := wrap_id (by omega) (by omega)
    have he : k + ((6 + n0 : Nat) : Int) = k + 1 + 1 + 1 + (n0 : Int) + 1 + 1 + 1 := by omega
    rw [he]
    refine ⟨(⟨k, mt (k + 1), mt (k + 1 + 1), l0, mt (k + 1 + 1 + 1 + (n0 : Int)), mt (k + 1 + 1 + 1 + (n0 : Int) + 1), mt (k + 1 + 1 + 1 + (n0 : Int) + 1 + 1)⟩ : VGateGrant), fun rec => ?_, ⟨l0, n0, rfl, hl0, rfl, by omega⟩⟩
    simp only [r29_0]
    rw [hw]
    simp only [get_cast hi, List.getElem?_eq_getElem hi, h30, h30n, decide_false, h1, w0, w1, w2, w3, w4, w5, ml0, g58_mt (k := k + 1) (by omega) (by omega), g58_mt (k := k + 1 + 1) (by omega) (by omega), g58_mt (k := k + 1 + 1 + 1 + (n0 : Int)) (by omega) (by omega), g58_mt (k := k + 1 + 1 + 1 + (n0 : Int) + 1) (by omega) (by omega), g58_mt (k := k + 1 + 1 + 1 + (n0 : Int) + 1 + 1) (by omega) (by omega), decide_true, cond_true, cond_false, Int.natCast_nonneg, Option.bind_some, Int.toNat_natCast, List.length_set, List.set_set, List.getElem?_set_self hi]
  · obtain ⟨l0, n0, e, hl0, rfl, hb⟩ := g
    have hw := wrap_nat (i := i) (by omega)
    have h1 : (i : Int) < (ys.length : Int) := by omega
    have h30 : ¬ ((3 : Int) = 0) := by decide
    have h30n : ¬ ((3 : Nat) = 0) := by decide
    have w0 : IntKind.i64.wrap (k + 1) = k + 1 := wrap_id (by omega) (by omega)
    have w1 : IntKind.i64.wrap (k + 1 + 1) = k + 1 + 1 := wrap_id (by omega) (by omega)
    have w2 : IntKind.i64.wrap (k + 1 + 1 + 1) = k + 1 + 1 + 1 := wrap_id (by omega) (by omega)
    have w3 : IntKind.i64.wrap (k + 1 + 1 + 1 + (n0 : Int) + 1) = k + 1 + 1 + 1 + (n0 : Int) + 1 := wrap_id (by omega) (by omega)
    have w4 : IntKind.i64.wrap (k + 1 + 1 + 1 + (n0 : Int) + 1 + 1) = k + 1 + 1 + 1 + (n0 : Int) + 1 + 1 := wrap_id (by omega) (by omega)
    have w5 : IntKind.i64.wrap (k + 1 + 1 + 1 + (n0 : Int) + 1 + 1 + 1) = k + 1 + 1 + 1 + (n0 : Int) + 1 + 1 + 1 := wrap_id (by omega) (by omega)
    have q0 : ¬ (k + 1 + 1 + 1 + (n0 : Int) < 0) := by omega
    simp only [r64_0]
    rw [hw]
    simp only [get_cast hi, e, h30, h30n, decide_false, h1, w0, w1, w2, w3, w4, w5, q0, hl0, g58_mt (k := k + 1) (by omega) (by omega), g58_mt (k := k + 1 + 1) (by omega) (by omega), g58_mt (k := k + 1 + 1 + 1 + (n0 : Int)) (by omega) (by omega), g58_mt (k := k + 1 + 1 + 1 + (n0 : Int) + 1) (by omega) (by omega), g58_mt (k := k + 1 + 1 + 1 + (n0 : Int) + 1 + 1) (by omega) (by omega), decide_true, decide_false, cond_true, cond_false, Int.natCast_nonneg, Option.bind_some, bne_self_eq_false, beq_self_eq_true, Bool.not_true]
def w_RecSlot (x : VRecSlot) : Nat := 2
def w_RecSlotS (xs : List VRecSlot) : Nat := (xs.map w_RecSlot).sum
theorem w_RecSlot_pos (x : VRecSlot) : 1 ≤ w_RecSlot x := by unfold w_RecSlot; omega
theorem w_RecSlotS_len (xs : List VRecSlot) : xs.length ≤ w_RecSlotS xs := len_sum w_RecSlot_pos xs
theorem eq_RecSlot {x : VRecSlot} (h : w_RecSlot x ≤ 1152921504606846976) : G99 x x = some true := by
  unfold w_RecSlot at h
  simp only [G8, G8n, G9, G9n, G24, G24n, G55, G55n, G56, G56n, G57, G57n, G78, G78n, G79, G79n, G80, G80n, G81, G81n, G82, G82n, G93, G93n, G99, G99n, G100, G100n, bne_self_eq_false, cond_false, decide_true, Bool.not_true, Option.bind_some, beq_self_eq_true]
theorem eq_RecSlotS {xs : List VRecSlot} (h : w_RecSlotS xs ≤ 1152921504606846976) : G96 xs xs = some true := by
  have hl := w_RecSlotS_len xs
  unfold G96 G96n
  simp only [bne_self_eq_false, cond_false]
  refine eq_lp (rnd := r96_0 fuel) (by omega) (fun rec => by simp [r96_0]) (fun rec i hi => ?_)
  have hw := wrap_nat (i := i) (by omega)
  have h1 : (i : Int) < (xs.length : Int) := by omega
  have he := eq_RecSlot (x := xs[i]) (by have := sum_get (w := w_RecSlot) hi; unfold w_RecSlotS at h; omega)
  simp only [r96_0]
  rw [get_cast hi, hw]
  simp only [h1, decide_true, cond_true, Int.natCast_nonneg, Option.bind_some, bne_self_eq_false, Bool.not_true, cond_false, he]
def gm_RecSlot (y : VRecSlot) (k k1 : Int) : Prop := y = (⟨k, mt (k + 1)⟩ : VRecSlot) ∧ k1 = k + 1 + 1 ∧ k1 ≤ 1152921504606846976
set_option maxHeartbeats 2000000 in
theorem mark_RecSlotS {xs : List VRecSlot} {k : Int} (h0 : 0 ≤ k) (h : k + (w_RecSlotS xs : Int) ≤ 1152921504606846976) : ∃ ys : List VRecSlot, G83 xs k = some (ys, k + (w_RecSlotS xs : Int)) ∧ G87 ys k = some (k + (w_RecSlotS xs : Int)) := by
  refine mark_both (α := VRecSlot) (w := w_RecSlot) (gm := gm_RecSlot) (rm := r83_0 fuel) (rh := r87_0 fuel) w_RecSlot_pos (fun rec zs k => by simp [r83_0]) (fun zs i hi k hl h0 hk => ?_) (fun rec ys k => by simp [r87_0]) (fun rec ys i hi k k1 hl g h0 => ?_) h0 h
  · have hw := wrap_nat (i := i) (by omega)
    have h1 : (i : Int) < (zs.length : Int) := by omega
    have h30 : ¬ ((3 : Int) = 0) := by decide
    have h30n : ¬ ((3 : Nat) = 0) := by decide
    unfold w_RecSlot at hk ⊢
    have w0 : IntKind.i64.wrap (k + 1) = k + 1 := wrap_id (by omega) (by omega)
    have w1 : IntKind.i64.wrap (k + 1 + 1) = k + 1 + 1 := wrap_id (by omega) (by omega)
    have he : k + ((2 : Nat) : Int) = k + 1 + 1 := by omega
    rw [he]
    refine ⟨(⟨k, mt (k + 1)⟩ : VRecSlot), fun rec => ?_, ⟨rfl, rfl, by omega⟩⟩
    simp only [r83_0]
    rw [hw]
    simp only [get_cast hi, List.getElem?_eq_getElem hi, h30, h30n, decide_false, h1, w0, w1, g58_mt (k := k + 1) (by omega) (by omega), decide_true, cond_true, cond_false, Int.natCast_nonneg, Option.bind_some, Int.toNat_natCast, List.length_set, List.set_set, List.getElem?_set_self hi]
  · obtain ⟨e, rfl, hb⟩ := g
    have hw := wrap_nat (i := i) (by omega)
    have h1 : (i : Int) < (ys.length : Int) := by omega
    have h30 : ¬ ((3 : Int) = 0) := by decide
    have h30n : ¬ ((3 : Nat) = 0) := by decide
    have w0 : IntKind.i64.wrap (k + 1) = k + 1 := wrap_id (by omega) (by omega)
    have w1 : IntKind.i64.wrap (k + 1 + 1) = k + 1 + 1 := wrap_id (by omega) (by omega)
    simp only [r87_0]
    rw [hw]
    simp only [get_cast hi, e, h30, h30n, decide_false, h1, w0, w1, g58_mt (k := k + 1) (by omega) (by omega), decide_true, decide_false, cond_true, cond_false, Int.natCast_nonneg, Option.bind_some, bne_self_eq_false, beq_self_eq_true, Bool.not_true]
def w_RecMessage (x : VRecMessage) : Nat := 7 + w_RecSlotS x.Slots
def w_RecMessageS (xs : List VRecMessage) : Nat := (xs.map w_RecMessage).sum
theorem w_RecMessage_pos (x : VRecMessage) : 1 ≤ w_RecMessage x := by unfold w_RecMessage; omega
theorem w_RecMessageS_len (xs : List VRecMessage) : xs.length ≤ w_RecMessageS xs := len_sum w_RecMessage_pos xs
theorem eq_RecMessage {x : VRecMessage} (h : w_RecMessage x ≤ 1152921504606846976) : G79 x x = some true := by
  unfold w_RecMessage at h
  simp only [G8, G8n, G9, G9n, G24, G24n, G55, G55n, G56, G56n, G57, G57n, G78, G78n, G79, G79n, G80, G80n, G81, G81n, G82, G82n, G93, G93n, G99, G99n, G100, G100n, eq_RecSlotS (xs := x.Slots) (by omega), bne_self_eq_false, cond_false, decide_true, Bool.not_true, Option.bind_some, beq_self_eq_true]
theorem eq_RecMessageS {xs : List VRecMessage} (h : w_RecMessageS xs ≤ 1152921504606846976) : G53 xs xs = some true := by
  have hl := w_RecMessageS_len xs
  unfold G53 G53n
  simp only [bne_self_eq_false, cond_false]
  refine eq_lp (rnd := r53_0 fuel) (by omega) (fun rec => by simp [r53_0]) (fun rec i hi => ?_)
  have hw := wrap_nat (i := i) (by omega)
  have h1 : (i : Int) < (xs.length : Int) := by omega
  have he := eq_RecMessage (x := xs[i]) (by have := sum_get (w := w_RecMessage) hi; unfold w_RecMessageS at h; omega)
  simp only [r53_0]
  rw [get_cast hi, hw]
  simp only [h1, decide_true, cond_true, Int.natCast_nonneg, Option.bind_some, bne_self_eq_false, Bool.not_true, cond_false, he]
def gm_RecMessage (y : VRecMessage) (k k1 : Int) : Prop := ∃ (l0 : List VRecSlot) (n0 : Nat), y = (⟨k, k + 1, k + 1 + 1, k + 1 + 1 + 1, k + 1 + 1 + 1 + 1, k + 1 + 1 + 1 + 1 + 1, mt (k + 1 + 1 + 1 + 1 + 1 + 1), l0⟩ : VRecMessage) ∧ G87 l0 (k + 1 + 1 + 1 + 1 + 1 + 1 + 1) = some (k + 1 + 1 + 1 + 1 + 1 + 1 + 1 + (n0 : Int)) ∧ k1 = k + 1 + 1 + 1 + 1 + 1 + 1 + 1 + (n0 : Int) ∧ k1 ≤ 1152921504606846976
set_option maxHeartbeats 2000000 in
theorem mark_RecMessageS {xs : List VRecMessage} {k : Int} (h0 : 0 ≤ k) (h : k + (w_RecMessageS xs : Int) ≤ 1152921504606846976) : ∃ ys : List VRecMessage, G61 xs k = some (ys, k + (w_RecMessageS xs : Int)) ∧ G66 ys k = some (k + (w_RecMessageS xs : Int)) := by
  refine mark_both (α := VRecMessage) (w := w_RecMessage) (gm := gm_RecMessage) (rm := r61_0 fuel) (rh := r66_0 fuel) w_RecMessage_pos (fun rec zs k => by simp [r61_0]) (fun zs i hi k hl h0 hk => ?_) (fun rec ys k => by simp [r66_0]) (fun rec ys i hi k k1 hl g h0 => ?_) h0 h
  · have hw := wrap_nat (i := i) (by omega)
    have h1 : (i : Int) < (zs.length : Int) := by omega
    have h30 : ¬ ((3 : Int) = 0) := by decide
    have h30n : ¬ ((3 : Nat) = 0) := by decide
    unfold w_RecMessage at hk ⊢
    generalize en0 : w_RecSlotS (zs[i]).Slots = n0 at hk ⊢
    obtain ⟨l0, ml0, hl0⟩ := mark_RecSlotS (xs := (zs[i]).Slots) (k := k + 1 + 1 + 1 + 1 + 1 + 1 + 1) (by omega) (by rw [en0]; omega)
    rw [en0] at ml0 hl0
    have w0 : IntKind.i64.wrap (k + 1) = k + 1 := wrap_id (by omega) (by omega)
    have w1 : IntKind.i64.wrap (k + 1 + 1) = k + 1 + 1 := wrap_id (by omega) (by omega)
    have w2 : IntKind.i64.wrap (k + 1 + 1 + 1) = k + 1 + 1 + 1 := wrap_id (by omega) (by omega)
    have w3 : IntKind.i64.wrap (k + 1 + 1 + 1 + 1) = k + 1 + 1 + 1 + 1 := wrap_id (by omega) (by omega)
    have w4 : IntKind.i64.wrap (k + 1 + 1 + 1 + 1 + 1) = k + 1 + 1 + 1 + 1 + 1 := wrap_id (by omega) (by omega)
    have w5 : IntKind.i64.wrap (k + 1 + 1 + 1 + 1 + 1 + 1) = k + 1 + 1 + 1 + 1 + 1 + 1 := wrap_id (by omega) (by omega)
    have w6 : IntKind.i64.wrap (k + 1 + 1 + 1 + 1 + 1 + 1 + 1) = k + 1 + 1 + 1 + 1 + 1 + 1 + 1 := wrap_id (by omega) (by omega)
    have he : k + ((7 + n0 : Nat) : Int) = k + 1 + 1 + 1 + 1 + 1 + 1 + 1 + (n0 : Int) := by omega
    rw [he]
    refine ⟨(⟨k, k + 1, k + 1 + 1, k + 1 + 1 + 1, k + 1 + 1 + 1 + 1, k + 1 + 1 + 1 + 1 + 1, mt (k + 1 + 1 + 1 + 1 + 1 + 1), l0⟩ : VRecMessage), fun rec => ?_, ⟨l0, n0, rfl, hl0, rfl, by omega⟩⟩
    simp only [r61_0]
    rw [hw]
    simp only [get_cast hi, List.getElem?_eq_getElem hi, h30, h30n, decide_false, h1, w0, w1, w2, w3, w4, w5, w6, ml0, g58_mt (k := k + 1 + 1 + 1 + 1 + 1 + 1) (by omega) (by omega), decide_true, cond_true, cond_false, Int.natCast_nonneg, Option.bind_some, Int.toNat_natCast, List.length_set, List.set_set, List.getElem?_set_self hi]
  · obtain ⟨l0, n0, e, hl0, rfl, hb⟩ := g
    have hw := wrap_nat (i := i) (by omega)
    have h1 : (i : Int) < (ys.length : Int) := by omega
    have h30 : ¬ ((3 : Int) = 0) := by decide
    have h30n : ¬ ((3 : Nat) = 0) := by decide
    have w0 : IntKind.i64.wrap (k + 1) = k + 1 := wrap_id (by omega) (by omega)
    have w1 : IntKind.i64.wrap (k + 1 + 1) = k + 1 + 1 := wrap_id (by omega) (by omega)
    have w2 : IntKind.i64.wrap (k + 1 + 1 + 1) = k + 1 + 1 + 1 := wrap_id (by omega) (by omega)
    have w3 : IntKind.i64.wrap (k + 1 + 1 + 1 + 1) = k + 1 + 1 + 1 + 1 := wrap_id (by omega) (by omega)
    have w4 : IntKind.i64.wrap (k + 1 + 1 + 1 + 1 + 1) = k + 1 + 1 + 1 + 1 + 1 := wrap_id (by omega) (by omega)
    have w5 : IntKind.i64.wrap (k + 1 + 1 + 1 + 1 + 1 + 1) = k + 1 + 1 + 1 + 1 + 1 + 1 := wrap_id (by omega) (by omega)
    have w6 : IntKind.i64.wrap (k + 1 + 1 + 1 + 1 + 1 + 1 + 1) = k + 1 + 1 + 1 + 1 + 1 + 1 + 1 := wrap_id (by omega) (by omega)
    have q0 : ¬ (k + 1 + 1 + 1 + 1 + 1 + 1 + 1 + (n0 : Int) < 0) := by omega
    simp only [r66_0]
    rw [hw]
    simp only [get_cast hi, e, h30, h30n, decide_false, h1, w0, w1, w2, w3, w4, w5, w6, q0, hl0, g58_mt (k := k + 1 + 1 + 1 + 1 + 1 + 1) (by omega) (by omega), decide_true, decide_false, cond_true, cond_false, Int.natCast_nonneg, Option.bind_some, bne_self_eq_false, beq_self_eq_true, Bool.not_true]
def w_String (_ : ByteArray) : Nat := 1
def w_StringS (xs : List ByteArray) : Nat := (xs.map w_String).sum
theorem w_String_pos (x : ByteArray) : 1 ≤ w_String x := by unfold w_String; omega
theorem w_StringS_len (xs : List ByteArray) : xs.length ≤ w_StringS xs := len_sum w_String_pos xs
theorem eq_StringS {xs : List ByteArray} (h : w_StringS xs ≤ 1152921504606846976) : G94 xs xs = some true := by
  have hl := w_StringS_len xs
  unfold G94 G94n
  simp only [bne_self_eq_false, cond_false]
  refine eq_lp (rnd := r94_0 fuel) (by omega) (fun rec => by simp [r94_0]) (fun rec i hi => ?_)
  have hw := wrap_nat (i := i) (by omega)
  have h1 : (i : Int) < (xs.length : Int) := by omega
  simp only [r94_0]
  rw [get_cast hi, hw]
  simp only [h1, decide_true, cond_true, Int.natCast_nonneg, Option.bind_some, bne_self_eq_false, Bool.not_true, cond_false]
def gm_String (y : ByteArray) (k k1 : Int) : Prop := y = mt (k) ∧ k1 = k + 1 ∧ k1 ≤ 1152921504606846976
set_option maxHeartbeats 2000000 in
theorem mark_StringS {xs : List ByteArray} {k : Int} (h0 : 0 ≤ k) (h : k + (w_StringS xs : Int) ≤ 1152921504606846976) : ∃ ys : List ByteArray, G84 xs k = some (ys, k + (w_StringS xs : Int)) ∧ G88 ys k = some (k + (w_StringS xs : Int)) := by
  refine mark_both (α := ByteArray) (w := w_String) (gm := gm_String) (rm := r84_0 fuel) (rh := r88_0 fuel) w_String_pos (fun rec zs k => by simp [r84_0]) (fun zs i hi k hl h0 hk => ?_) (fun rec ys k => by simp [r88_0]) (fun rec ys i hi k k1 hl g h0 => ?_) h0 h
  · have hw := wrap_nat (i := i) (by omega)
    have h1 : (i : Int) < (zs.length : Int) := by omega
    have h30 : ¬ ((3 : Int) = 0) := by decide
    have h30n : ¬ ((3 : Nat) = 0) := by decide
    unfold w_String at hk ⊢
    have w0 : IntKind.i64.wrap (k + 1) = k + 1 := wrap_id (by omega) (by omega)
    have he : k + ((1 : Nat) : Int) = k + 1 := by omega
    rw [he]
    refine ⟨mt (k), fun rec => ?_, ⟨rfl, rfl, by omega⟩⟩
    simp only [r84_0]
    rw [hw]
    simp only [get_cast hi, List.getElem?_eq_getElem hi, h30, h30n, decide_false, h1, w0, g58_mt (k := k) (by omega) (by omega), decide_true, cond_true, cond_false, Int.natCast_nonneg, Option.bind_some, Int.toNat_natCast, List.length_set, List.set_set, List.getElem?_set_self hi]
  · obtain ⟨e, rfl, hb⟩ := g
    have hw := wrap_nat (i := i) (by omega)
    have h1 : (i : Int) < (ys.length : Int) := by omega
    have h30 : ¬ ((3 : Int) = 0) := by decide
    have h30n : ¬ ((3 : Nat) = 0) := by decide
    have w0 : IntKind.i64.wrap (k + 1) = k + 1 := wrap_id (by omega) (by omega)
    simp only [r88_0]
    rw [hw]
    simp only [get_cast hi, e, h30, h30n, decide_false, h1, w0, g58_mt (k := k) (by omega) (by omega), decide_true, decide_false, cond_true, cond_false, Int.natCast_nonneg, Option.bind_some, bne_self_eq_false, beq_self_eq_true, Bool.not_true]
def w_RecAck (x : VRecAck) : Nat := 1 + w_IntS x.From
def w_RecAckS (xs : List VRecAck) : Nat := (xs.map w_RecAck).sum
theorem w_RecAck_pos (x : VRecAck) : 1 ≤ w_RecAck x := by unfold w_RecAck; omega
theorem w_RecAckS_len (xs : List VRecAck) : xs.length ≤ w_RecAckS xs := len_sum w_RecAck_pos xs
theorem eq_RecAck {x : VRecAck} (h : w_RecAck x ≤ 1152921504606846976) : G100 x x = some true := by
  unfold w_RecAck at h
  simp only [G8, G8n, G9, G9n, G24, G24n, G55, G55n, G56, G56n, G57, G57n, G78, G78n, G79, G79n, G80, G80n, G81, G81n, G82, G82n, G93, G93n, G99, G99n, G100, G100n, eq_IntS (xs := x.From) (by omega), bne_self_eq_false, cond_false, decide_true, Bool.not_true, Option.bind_some, beq_self_eq_true]
theorem eq_RecAckS {xs : List VRecAck} (h : w_RecAckS xs ≤ 1152921504606846976) : G97 xs xs = some true := by
  have hl := w_RecAckS_len xs
  unfold G97 G97n
  simp only [bne_self_eq_false, cond_false]
  refine eq_lp (rnd := r97_0 fuel) (by omega) (fun rec => by simp [r97_0]) (fun rec i hi => ?_)
  have hw := wrap_nat (i := i) (by omega)
  have h1 : (i : Int) < (xs.length : Int) := by omega
  have he := eq_RecAck (x := xs[i]) (by have := sum_get (w := w_RecAck) hi; unfold w_RecAckS at h; omega)
  simp only [r97_0]
  rw [get_cast hi, hw]
  simp only [h1, decide_true, cond_true, Int.natCast_nonneg, Option.bind_some, bne_self_eq_false, Bool.not_true, cond_false, he]
def gm_RecAck (y : VRecAck) (k k1 : Int) : Prop := ∃ (l0 : List Int) (n0 : Nat), y = (⟨k, l0⟩ : VRecAck) ∧ G86 l0 (k + 1) = some (k + 1 + (n0 : Int)) ∧ k1 = k + 1 + (n0 : Int) ∧ k1 ≤ 1152921504606846976
set_option maxHeartbeats 2000000 in
theorem mark_RecAckS {xs : List VRecAck} {k : Int} (h0 : 0 ≤ k) (h : k + (w_RecAckS xs : Int) ≤ 1152921504606846976) : ∃ ys : List VRecAck, G85 xs k = some (ys, k + (w_RecAckS xs : Int)) ∧ G89 ys k = some (k + (w_RecAckS xs : Int)) := by
  refine mark_both (α := VRecAck) (w := w_RecAck) (gm := gm_RecAck) (rm := r85_0 fuel) (rh := r89_0 fuel) w_RecAck_pos (fun rec zs k => by simp [r85_0]) (fun zs i hi k hl h0 hk => ?_) (fun rec ys k => by simp [r89_0]) (fun rec ys i hi k k1 hl g h0 => ?_) h0 h
  · have hw := wrap_nat (i := i) (by omega)
    have h1 : (i : Int) < (zs.length : Int) := by omega
    have h30 : ¬ ((3 : Int) = 0) := by decide
    have h30n : ¬ ((3 : Nat) = 0) := by decide
    unfold w_RecAck at hk ⊢
    generalize en0 : w_IntS (zs[i]).From = n0 at hk ⊢
    obtain ⟨l0, ml0, hl0⟩ := mark_IntS (xs := (zs[i]).From) (k := k + 1) (by omega) (by rw [en0]; omega)
    rw [en0] at ml0 hl0
    have w0 : IntKind.i64.wrap (k + 1) = k + 1 := wrap_id (by omega) (by omega)
    have he : k + ((1 + n0 : Nat) : Int) = k + 1 + (n0 : Int) := by omega
    rw [he]
    refine ⟨(⟨k, l0⟩ : VRecAck), fun rec => ?_, ⟨l0, n0, rfl, hl0, rfl, by omega⟩⟩
    simp only [r85_0]
    rw [hw]
    simp only [get_cast hi, List.getElem?_eq_getElem hi, h30, h30n, decide_false, h1, w0, ml0, decide_true, cond_true, cond_false, Int.natCast_nonneg, Option.bind_some, Int.toNat_natCast, List.length_set, List.set_set, List.getElem?_set_self hi]
  · obtain ⟨l0, n0, e, hl0, rfl, hb⟩ := g
    have hw := wrap_nat (i := i) (by omega)
    have h1 : (i : Int) < (ys.length : Int) := by omega
    have h30 : ¬ ((3 : Int) = 0) := by decide
    have h30n : ¬ ((3 : Nat) = 0) := by decide
    have w0 : IntKind.i64.wrap (k + 1) = k + 1 := wrap_id (by omega) (by omega)
    have q0 : ¬ (k + 1 + (n0 : Int) < 0) := by omega
    simp only [r89_0]
    rw [hw]
    simp only [get_cast hi, e, h30, h30n, decide_false, h1, w0, q0, hl0, decide_true, decide_false, cond_true, cond_false, Int.natCast_nonneg, Option.bind_some, bne_self_eq_false, beq_self_eq_true, Bool.not_true]
def w_Recorder (x : VRecorder) : Nat := 11 + w_RecSlotS x.Safe_Slots + w_RecSlotS x.Disk_Slots + w_RecMessageS x.Held + w_StringS x.Wishes + w_IntS x.Yes + w_RecSlotS x.Best + w_RecAckS x.Acks
def w_RecorderS (xs : List VRecorder) : Nat := (xs.map w_Recorder).sum
theorem w_Recorder_pos (x : VRecorder) : 1 ≤ w_Recorder x := by unfold w_Recorder; omega
theorem w_RecorderS_len (xs : List VRecorder) : xs.length ≤ w_RecorderS xs := len_sum w_Recorder_pos xs
theorem eq_Recorder {x : VRecorder} (h : w_Recorder x ≤ 1152921504606846976) : G78 x x = some true := by
  unfold w_Recorder at h
  simp only [G8, G8n, G9, G9n, G24, G24n, G55, G55n, G56, G56n, G57, G57n, G78, G78n, G79, G79n, G80, G80n, G81, G81n, G82, G82n, G93, G93n, G99, G99n, G100, G100n, eq_RecSlotS (xs := x.Safe_Slots) (by omega), eq_RecSlotS (xs := x.Disk_Slots) (by omega), eq_RecMessageS (xs := x.Held) (by omega), eq_StringS (xs := x.Wishes) (by omega), eq_IntS (xs := x.Yes) (by omega), eq_RecSlotS (xs := x.Best) (by omega), eq_RecAckS (xs := x.Acks) (by omega), bne_self_eq_false, cond_false, decide_true, Bool.not_true, Option.bind_some, beq_self_eq_true]
theorem eq_RecorderS {xs : List VRecorder} (h : w_RecorderS xs ≤ 1152921504606846976) : G52 xs xs = some true := by
  have hl := w_RecorderS_len xs
  unfold G52 G52n
  simp only [bne_self_eq_false, cond_false]
  refine eq_lp (rnd := r52_0 fuel) (by omega) (fun rec => by simp [r52_0]) (fun rec i hi => ?_)
  have hw := wrap_nat (i := i) (by omega)
  have h1 : (i : Int) < (xs.length : Int) := by omega
  have he := eq_Recorder (x := xs[i]) (by have := sum_get (w := w_Recorder) hi; unfold w_RecorderS at h; omega)
  simp only [r52_0]
  rw [get_cast hi, hw]
  simp only [h1, decide_true, cond_true, Int.natCast_nonneg, Option.bind_some, bne_self_eq_false, Bool.not_true, cond_false, he]
def gm_Recorder (y : VRecorder) (k k1 : Int) : Prop := ∃ (l0 : List VRecSlot) (n0 : Nat), ∃ (l1 : List VRecSlot) (n1 : Nat), ∃ (l2 : List VRecMessage) (n2 : Nat), ∃ (l3 : List ByteArray) (n3 : Nat), ∃ (l4 : List Int) (n4 : Nat), ∃ (l5 : List VRecSlot) (n5 : Nat), ∃ (l6 : List VRecAck) (n6 : Nat), y = (⟨k, k + 1, ((k + 1 + 1).tmod 3 == 0), k + 1 + 1 + 1, k + 1 + 1 + 1 + 1, l0, k + 1 + 1 + 1 + 1 + 1 + (n0 : Int), k + 1 + 1 + 1 + 1 + 1 + (n0 : Int) + 1, l1, l2, l3, ((k + 1 + 1 + 1 + 1 + 1 + (n0 : Int) + 1 + 1 + (n1 : Int) + (n2 : Int) + (n3 : Int)).tmod 3 == 0), ((k + 1 + 1 + 1 + 1 + 1 + (n0 : Int) + 1 + 1 + (n1 : Int) + (n2 : Int) + (n3 : Int) + 1).tmod 3 == 0), k + 1 + 1 + 1 + 1 + 1 + (n0 : Int) + 1 + 1 + (n1 : Int) + (n2 : Int) + (n3 : Int) + 1 + 1, l4, l5, l6, k + 1 + 1 + 1 + 1 + 1 + (n0 : Int) + 1 + 1 + (n1 : Int) + (n2 : Int) + (n3 : Int) + 1 + 1 + 1 + (n4 : Int) + (n5 : Int) + (n6 : Int)⟩ : VRecorder) ∧ G87 l0 (k + 1 + 1 + 1 + 1 + 1) = some (k + 1 + 1 + 1 + 1 + 1 + (n0 : Int)) ∧ G87 l1 (k + 1 + 1 + 1 + 1 + 1 + (n0 : Int) + 1 + 1) = some (k + 1 + 1 + 1 + 1 + 1 + (n0 : Int) + 1 + 1 + (n1 : Int)) ∧ G66 l2 (k + 1 + 1 + 1 + 1 + 1 + (n0 : Int) + 1 + 1 + (n1 : Int)) = some (k + 1 + 1 + 1 + 1 + 1 + (n0 : Int) + 1 + 1 + (n1 : Int) + (n2 : Int)) ∧ G88 l3 (k + 1 + 1 + 1 + 1 + 1 + (n0 : Int) + 1 + 1 + (n1 : Int) + (n2 : Int)) = some (k + 1 + 1 + 1 + 1 + 1 + (n0 : Int) + 1 + 1 + (n1 : Int) + (n2 : Int) + (n3 : Int)) ∧ G86 l4 (k + 1 + 1 + 1 + 1 + 1 + (n0 : Int) + 1 + 1 + (n1 : Int) + (n2 : Int) + (n3 : Int) + 1 + 1 + 1) = some (k + 1 + 1 + 1 + 1 + 1 + (n0 : Int) + 1 + 1 + (n1 : Int) + (n2 : Int) + (n3 : Int) + 1 + 1 + 1 + (n4 : Int)) ∧ G87 l5 (k + 1 + 1 + 1 + 1 + 1 + (n0 : Int) + 1 + 1 + (n1 : Int) + (n2 : Int) + (n3 : Int) + 1 + 1 + 1 + (n4 : Int)) = some (k + 1 + 1 + 1 + 1 + 1 + (n0 : Int) + 1 + 1 + (n1 : Int) + (n2 : Int) + (n3 : Int) + 1 + 1 + 1 + (n4 : Int) + (n5 : Int)) ∧ G89 l6 (k + 1 + 1 + 1 + 1 + 1 + (n0 : Int) + 1 + 1 + (n1 : Int) + (n2 : Int) + (n3 : Int) + 1 + 1 + 1 + (n4 : Int) + (n5 : Int)) = some (k + 1 + 1 + 1 + 1 + 1 + (n0 : Int) + 1 + 1 + (n1 : Int) + (n2 : Int) + (n3 : Int) + 1 + 1 + 1 + (n4 : Int) + (n5 : Int) + (n6 : Int)) ∧ k1 = k + 1 + 1 + 1 + 1 + 1 + (n0 : Int) + 1 + 1 + (n1 : Int) + (n2 : Int) + (n3 : Int) + 1 + 1 + 1 + (n4 : Int) + (n5 : Int) + (n6 : Int) + 1 ∧ k1 ≤ 1152921504606846976
set_option maxHeartbeats 2000000 in
theorem mark_RecorderS {xs : List VRecorder} {k : Int} (h0 : 0 ≤ k) (h : k + (w_RecorderS xs : Int) ≤ 1152921504606846976) : ∃ ys : List VRecorder, G60 xs k = some (ys, k + (w_RecorderS xs : Int)) ∧ G65 ys k = some (k + (w_RecorderS xs : Int)) := by
  refine mark_both (α := VRecorder) (w := w_Recorder) (gm := gm_Recorder) (rm := r60_0 fuel) (rh := r65_0 fuel) w_Recorder_pos (fun rec zs k => by simp [r60_0]) (fun zs i hi k hl h0 hk => ?_) (fun rec ys k => by simp [r65_0]) (fun rec ys i hi k k1 hl g h0 => ?_) h0 h
  · have hw := wrap_nat (i := i) (by omega)
    have h1 : (i : Int) < (zs.length : Int) := by omega
    have h30 : ¬ ((3 : Int) = 0) := by decide
    have h30n : ¬ ((3 : Nat) = 0) := by decide
    unfold w_Recorder at hk ⊢
    generalize en0 : w_RecSlotS (zs[i]).Safe_Slots = n0 at hk ⊢
    generalize en1 : w_RecSlotS (zs[i]).Disk_Slots = n1 at hk ⊢
    generalize en2 : w_RecMessageS (zs[i]).Held = n2 at hk ⊢
    generalize en3 : w_StringS (zs[i]).Wishes = n3 at hk ⊢
    generalize en4 : w_IntS (zs[i]).Yes = n4 at hk ⊢
    generalize en5 : w_RecSlotS (zs[i]).Best = n5 at hk ⊢
    generalize en6 : w_RecAckS (zs[i]).Acks = n6 at hk ⊢
    obtain ⟨l0, ml0, hl0⟩ := mark_RecSlotS (xs := (zs[i]).Safe_Slots) (k := k + 1 + 1 + 1 + 1 + 1) (by omega) (by rw [en0]; omega)
    rw [en0] at ml0 hl0
    obtain ⟨l1, ml1, hl1⟩ := mark_RecSlotS (xs := (zs[i]).Disk_Slots) (k := k + 1 + 1 + 1 + 1 + 1 + (n0 : Int) + 1 + 1) (by omega) (by rw [en1]; omega)
    rw [en1] at ml1 hl1
    obtain ⟨l2, ml2, hl2⟩ := mark_RecMessageS (xs := (zs[i]).Held) (k := k + 1 + 1 + 1 + 1 + 1 + (n0 : Int) + 1 + 1 + (n1 : Int)) (by omega) (by rw [en2]; omega)
    rw [en2] at ml2 hl2
    obtain ⟨l3, ml3, hl3⟩ := mark_StringS (xs := (zs[i]).Wishes) (k := k + 1 + 1 + 1 + 1 + 1 + (n0 : Int) + 1 + 1 + (n1 : Int) + (n2 : Int)) (by omega) (by rw [en3]; omega)
    rw [en3] at ml3 hl3
    obtain ⟨l4, ml4, hl4⟩ := mark_IntS (xs := (zs[i]).Yes) (k := k + 1 + 1 + 1 + 1 + 1 + (n0 : Int) + 1 + 1 + (n1 : Int) + (n2 : Int) + (n3 : Int) + 1 + 1 + 1) (by omega) (by rw [en4]; omega)
    rw [en4] at ml4 hl4
    obtain ⟨l5, ml5, hl5⟩ := mark_RecSlotS (xs := (zs[i]).Best) (k := k + 1 + 1 + 1 + 1 + 1 + (n0 : Int) + 1 + 1 + (n1 : Int) + (n2 : Int) + (n3 : Int) + 1 + 1 + 1 + (n4 : Int)) (by omega) (by rw [en5]; omega)
    rw [en5] at ml5 hl5
    obtain ⟨l6, ml6, hl6⟩ := mark_RecAckS (xs := (zs[i]).Acks) (k := k + 1 + 1 + 1 + 1 + 1 + (n0 : Int) + 1 + 1 + (n1 : Int) + (n2 : Int) + (n3 : Int) + 1 + 1 + 1 + (n4 : Int) + (n5 : Int)) (by omega) (by rw [en6]; omega)
    rw [en6] at ml6 hl6
    have w0 : IntKind.i64.wrap (k + 1) = k + 1 := wrap_id (by omega) (by omega)
    have w1 : IntKind.i64.wrap (k + 1 + 1) = k + 1 + 1 := wrap_id (by omega) (by omega)
    have w2 : IntKind.i64.wrap (k + 1 + 1 + 1) = k + 1 + 1 + 1 := wrap_id (by omega) (by omega)
    have w3 : IntKind.i64.wrap (k + 1 + 1 + 1 + 1) = k + 1 + 1 + 1 + 1 := wrap_id (by omega) (by omega)
    have w4 : IntKind.i64.wrap (k + 1 + 1 + 1 + 1 + 1) = k + 1 + 1 + 1 + 1 + 1 := wrap_id (by omega) (by omega)
    have w5 : IntKind.i64.wrap (k + 1 + 1 + 1 + 1 + 1 + (n0 : Int) + 1) = k + 1 + 1 + 1 + 1 + 1 + (n0 : Int) + 1 := wrap_id (by omega) (by omega)
    have w6 : IntKind.i64.wrap (k + 1 + 1 + 1 + 1 + 1 + (n0 : Int) + 1 + 1) = k + 1 + 1 + 1 + 1 + 1 + (n0 : Int) + 1 + 1 := wrap_id (by omega) (by omega)
    have w7 : IntKind.i64.wrap (k + 1 + 1 + 1 + 1 + 1 + (n0 : Int) + 1 + 1 + (n1 : Int) + (n2 : Int) + (n3 : Int) + 1) = k + 1 + 1 + 1 + 1 + 1 + (n0 : Int) + 1 + 1 + (n1 : Int) + (n2 : Int) + (n3 : Int) + 1 := wrap_id (by omega) (by omega)
    have w8 : IntKind.i64.wrap (k + 1 + 1 + 1 + 1 + 1 + (n0 : Int) + 1 + 1 + (n1 : Int) + (n2 : Int) + (n3 : Int) + 1 + 1) = k + 1 + 1 + 1 + 1 + 1 + (n0 : Int) + 1 + 1 + (n1 : Int) + (n2 : Int) + (n3 : Int) + 1 + 1 := wrap_id (by omega) (by omega)
    have w9 : IntKind.i64.wrap (k + 1 + 1 + 1 + 1 + 1 + (n0 : Int) + 1 + 1 + (n1 : Int) + (n2 : Int) + (n3 : Int) + 1 + 1 + 1) = k + 1 + 1 + 1 + 1 + 1 + (n0 : Int) + 1 + 1 + (n1 : Int) + (n2 : Int) + (n3 : Int) + 1 + 1 + 1 := wrap_id (by omega) (by omega)
    have w10 : IntKind.i64.wrap (k + 1 + 1 + 1 + 1 + 1 + (n0 : Int) + 1 + 1 + (n1 : Int) + (n2 : Int) + (n3 : Int) + 1 + 1 + 1 + (n4 : Int) + (n5 : Int) + (n6 : Int) + 1) = k + 1 + 1 + 1 + 1 + 1 + (n0 : Int) + 1 + 1 + (n1 : Int) + (n2 : Int) + (n3 : Int) + 1 + 1 + 1 + (n4 : Int) + (n5 : Int) + (n6 : Int) + 1 := wrap_id (by omega) (by omega)
    have he : k + ((11 + n0 + n1 + n2 + n3 + n4 + n5 + n6 : Nat) : Int) = k + 1 + 1 + 1 + 1 + 1 + (n0 : Int) + 1 + 1 + (n1 : Int) + (n2 : Int) + (n3 : Int) + 1 + 1 + 1 + (n4 : Int) + (n5 : Int) + (n6 : Int) + 1 := by omega
    rw [he]
    refine ⟨(⟨k, k + 1, ((k + 1 + 1).tmod 3 == 0), k + 1 + 1 + 1, k + 1 + 1 + 1 + 1, l0, k + 1 + 1 + 1 + 1 + 1 + (n0 : Int), k + 1 + 1 + 1 + 1 + 1 + (n0 : Int) + 1, l1, l2, l3, ((k + 1 + 1 + 1 + 1 + 1 + (n0 : Int) + 1 + 1 + (n1 : Int) + (n2 : Int) + (n3 : Int)).tmod 3 == 0), ((k + 1 + 1 + 1 + 1 + 1 + (n0 : Int) + 1 + 1 + (n1 : Int) + (n2 : Int) + (n3 : Int) + 1).tmod 3 == 0), k + 1 + 1 + 1 + 1 + 1 + (n0 : Int) + 1 + 1 + (n1 : Int) + (n2 : Int) + (n3 : Int) + 1 + 1, l4, l5, l6, k + 1 + 1 + 1 + 1 + 1 + (n0 : Int) + 1 + 1 + (n1 : Int) + (n2 : Int) + (n3 : Int) + 1 + 1 + 1 + (n4 : Int) + (n5 : Int) + (n6 : Int)⟩ : VRecorder), fun rec => ?_, ⟨l0, n0, l1, n1, l2, n2, l3, n3, l4, n4, l5, n5, l6, n6, rfl, hl0, hl1, hl2, hl3, hl4, hl5, hl6, rfl, by omega⟩⟩
    simp only [r60_0]
    rw [hw]
    simp only [get_cast hi, List.getElem?_eq_getElem hi, h30, h30n, decide_false, h1, w0, w1, w2, w3, w4, w5, w6, w7, w8, w9, w10, ml0, ml1, ml2, ml3, ml4, ml5, ml6, decide_true, cond_true, cond_false, Int.natCast_nonneg, Option.bind_some, Int.toNat_natCast, List.length_set, List.set_set, List.getElem?_set_self hi]
  · obtain ⟨l0, n0, l1, n1, l2, n2, l3, n3, l4, n4, l5, n5, l6, n6, e, hl0, hl1, hl2, hl3, hl4, hl5, hl6, rfl, hb⟩ := g
    have hw := wrap_nat (i := i) (by omega)
    have h1 : (i : Int) < (ys.length : Int) := by omega
    have h30 : ¬ ((3 : Int) = 0) := by decide
    have h30n : ¬ ((3 : Nat) = 0) := by decide
    have w0 : IntKind.i64.wrap (k + 1) = k + 1 := wrap_id (by omega) (by omega)
    have w1 : IntKind.i64.wrap (k + 1 + 1) = k + 1 + 1 := wrap_id (by omega) (by omega)
    have w2 : IntKind.i64.wrap (k + 1 + 1 + 1) = k + 1 + 1 + 1 := wrap_id (by omega) (by omega)
    have w3 : IntKind.i64.wrap (k + 1 + 1 + 1 + 1) = k + 1 + 1 + 1 + 1 := wrap_id (by omega) (by omega)
    have w4 : IntKind.i64.wrap (k + 1 + 1 + 1 + 1 + 1) = k + 1 + 1 + 1 + 1 + 1 := wrap_id (by omega) (by omega)
    have w5 : IntKind.i64.wrap (k + 1 + 1 + 1 + 1 + 1 + (n0 : Int) + 1) = k + 1 + 1 + 1 + 1 + 1 + (n0 : Int) + 1 := wrap_id (by omega) (by omega)
    have w6 : IntKind.i64.wrap (k + 1 + 1 + 1 + 1 + 1 + (n0 : Int) + 1 + 1) = k + 1 + 1 + 1 + 1 + 1 + (n0 : Int) + 1 + 1 := wrap_id (by omega) (by omega)
    have w7 : IntKind.i64.wrap (k + 1 + 1 + 1 + 1 + 1 + (n0 : Int) + 1 + 1 + (n1 : Int) + (n2 : Int) + (n3 : Int) + 1) = k + 1 + 1 + 1 + 1 + 1 + (n0 : Int) + 1 + 1 + (n1 : Int) + (n2 : Int) + (n3 : Int) + 1 := wrap_id (by omega) (by omega)
    have w8 : IntKind.i64.wrap (k + 1 + 1 + 1 + 1 + 1 + (n0 : Int) + 1 + 1 + (n1 : Int) + (n2 : Int) + (n3 : Int) + 1 + 1) = k + 1 + 1 + 1 + 1 + 1 + (n0 : Int) + 1 + 1 + (n1 : Int) + (n2 : Int) + (n3 : Int) + 1 + 1 := wrap_id (by omega) (by omega)
    have w9 : IntKind.i64.wrap (k + 1 + 1 + 1 + 1 + 1 + (n0 : Int) + 1 + 1 + (n1 : Int) + (n2 : Int) + (n3 : Int) + 1 + 1 + 1) = k + 1 + 1 + 1 + 1 + 1 + (n0 : Int) + 1 + 1 + (n1 : Int) + (n2 : Int) + (n3 : Int) + 1 + 1 + 1 := wrap_id (by omega) (by omega)
    have w10 : IntKind.i64.wrap (k + 1 + 1 + 1 + 1 + 1 + (n0 : Int) + 1 + 1 + (n1 : Int) + (n2 : Int) + (n3 : Int) + 1 + 1 + 1 + (n4 : Int) + (n5 : Int) + (n6 : Int) + 1) = k + 1 + 1 + 1 + 1 + 1 + (n0 : Int) + 1 + 1 + (n1 : Int) + (n2 : Int) + (n3 : Int) + 1 + 1 + 1 + (n4 : Int) + (n5 : Int) + (n6 : Int) + 1 := wrap_id (by omega) (by omega)
    have q0 : ¬ (k + 1 + 1 + 1 + 1 + 1 + (n0 : Int) < 0) := by omega
    have q1 : ¬ (k + 1 + 1 + 1 + 1 + 1 + (n0 : Int) + 1 + 1 + (n1 : Int) < 0) := by omega
    have q2 : ¬ (k + 1 + 1 + 1 + 1 + 1 + (n0 : Int) + 1 + 1 + (n1 : Int) + (n2 : Int) < 0) := by omega
    have q3 : ¬ (k + 1 + 1 + 1 + 1 + 1 + (n0 : Int) + 1 + 1 + (n1 : Int) + (n2 : Int) + (n3 : Int) < 0) := by omega
    have q4 : ¬ (k + 1 + 1 + 1 + 1 + 1 + (n0 : Int) + 1 + 1 + (n1 : Int) + (n2 : Int) + (n3 : Int) + 1 + 1 + 1 + (n4 : Int) < 0) := by omega
    have q5 : ¬ (k + 1 + 1 + 1 + 1 + 1 + (n0 : Int) + 1 + 1 + (n1 : Int) + (n2 : Int) + (n3 : Int) + 1 + 1 + 1 + (n4 : Int) + (n5 : Int) < 0) := by omega
    have q6 : ¬ (k + 1 + 1 + 1 + 1 + 1 + (n0 : Int) + 1 + 1 + (n1 : Int) + (n2 : Int) + (n3 : Int) + 1 + 1 + 1 + (n4 : Int) + (n5 : Int) + (n6 : Int) < 0) := by omega
    simp only [r65_0]
    rw [hw]
    simp only [get_cast hi, e, h30, h30n, decide_false, h1, w0, w1, w2, w3, w4, w5, w6, w7, w8, w9, w10, q0, q1, q2, q3, q4, q5, q6, hl0, hl1, hl2, hl3, hl4, hl5, hl6, decide_true, decide_false, cond_true, cond_false, Int.natCast_nonneg, Option.bind_some, bne_self_eq_false, beq_self_eq_true, Bool.not_true]
def w_RecFix (x : VRecFix) : Nat := 2
def w_RecFixS (xs : List VRecFix) : Nat := (xs.map w_RecFix).sum
theorem w_RecFix_pos (x : VRecFix) : 1 ≤ w_RecFix x := by unfold w_RecFix; omega
theorem w_RecFixS_len (xs : List VRecFix) : xs.length ≤ w_RecFixS xs := len_sum w_RecFix_pos xs
theorem eq_RecFix {x : VRecFix} (h : w_RecFix x ≤ 1152921504606846976) : G80 x x = some true := by
  unfold w_RecFix at h
  simp only [G8, G8n, G9, G9n, G24, G24n, G55, G55n, G56, G56n, G57, G57n, G78, G78n, G79, G79n, G80, G80n, G81, G81n, G82, G82n, G93, G93n, G99, G99n, G100, G100n, bne_self_eq_false, cond_false, decide_true, Bool.not_true, Option.bind_some, beq_self_eq_true]
theorem eq_RecFixS {xs : List VRecFix} (h : w_RecFixS xs ≤ 1152921504606846976) : G54 xs xs = some true := by
  have hl := w_RecFixS_len xs
  unfold G54 G54n
  simp only [bne_self_eq_false, cond_false]
  refine eq_lp (rnd := r54_0 fuel) (by omega) (fun rec => by simp [r54_0]) (fun rec i hi => ?_)
  have hw := wrap_nat (i := i) (by omega)
  have h1 : (i : Int) < (xs.length : Int) := by omega
  have he := eq_RecFix (x := xs[i]) (by have := sum_get (w := w_RecFix) hi; unfold w_RecFixS at h; omega)
  simp only [r54_0]
  rw [get_cast hi, hw]
  simp only [h1, decide_true, cond_true, Int.natCast_nonneg, Option.bind_some, bne_self_eq_false, Bool.not_true, cond_false, he]
def gm_RecFix (y : VRecFix) (k k1 : Int) : Prop := y = (⟨k, mt (k + 1)⟩ : VRecFix) ∧ k1 = k + 1 + 1 ∧ k1 ≤ 1152921504606846976
set_option maxHeartbeats 2000000 in
theorem mark_RecFixS {xs : List VRecFix} {k : Int} (h0 : 0 ≤ k) (h : k + (w_RecFixS xs : Int) ≤ 1152921504606846976) : ∃ ys : List VRecFix, G62 xs k = some (ys, k + (w_RecFixS xs : Int)) ∧ G67 ys k = some (k + (w_RecFixS xs : Int)) := by
  refine mark_both (α := VRecFix) (w := w_RecFix) (gm := gm_RecFix) (rm := r62_0 fuel) (rh := r67_0 fuel) w_RecFix_pos (fun rec zs k => by simp [r62_0]) (fun zs i hi k hl h0 hk => ?_) (fun rec ys k => by simp [r67_0]) (fun rec ys i hi k k1 hl g h0 => ?_) h0 h
  · have hw := wrap_nat (i := i) (by omega)
    have h1 : (i : Int) < (zs.length : Int) := by omega
    have h30 : ¬ ((3 : Int) = 0) := by decide
    have h30n : ¬ ((3 : Nat) = 0) := by decide
    unfold w_RecFix at hk ⊢
    have w0 : IntKind.i64.wrap (k + 1) = k + 1 := wrap_id (by omega) (by omega)
    have w1 : IntKind.i64.wrap (k + 1 + 1) = k + 1 + 1 := wrap_id (by omega) (by omega)
    have he : k + ((2 : Nat) : Int) = k + 1 + 1 := by omega
    rw [he]
    refine ⟨(⟨k, mt (k + 1)⟩ : VRecFix), fun rec => ?_, ⟨rfl, rfl, by omega⟩⟩
    simp only [r62_0]
    rw [hw]
    simp only [get_cast hi, List.getElem?_eq_getElem hi, h30, h30n, decide_false, h1, w0, w1, g58_mt (k := k + 1) (by omega) (by omega), decide_true, cond_true, cond_false, Int.natCast_nonneg, Option.bind_some, Int.toNat_natCast, List.length_set, List.set_set, List.getElem?_set_self hi]
  · obtain ⟨e, rfl, hb⟩ := g
    have hw := wrap_nat (i := i) (by omega)
    have h1 : (i : Int) < (ys.length : Int) := by omega
    have h30 : ¬ ((3 : Int) = 0) := by decide
    have h30n : ¬ ((3 : Nat) = 0) := by decide
    have w0 : IntKind.i64.wrap (k + 1) = k + 1 := wrap_id (by omega) (by omega)
    have w1 : IntKind.i64.wrap (k + 1 + 1) = k + 1 + 1 := wrap_id (by omega) (by omega)
    simp only [r67_0]
    rw [hw]
    simp only [get_cast hi, e, h30, h30n, decide_false, h1, w0, w1, g58_mt (k := k + 1) (by omega) (by omega), decide_true, decide_false, cond_true, cond_false, Int.natCast_nonneg, Option.bind_some, bne_self_eq_false, beq_self_eq_true, Bool.not_true]
end Go.Proofs.Ytgpopgfidphheaa.Ab
