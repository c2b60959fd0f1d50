/- The plain law of HallNew: the new world. -/
import Derived.Test.YtgpopgfidphheaaPg
set_option linter.unusedVariables false
set_option linter.unusedSimpArgs false
namespace Go.Proofs.Ytgpopgfidphheaa.Ab
open Go Go.RowKit

theorem g41 (a b c : Int) : G41 a b c = some (decide (b ≤ a) && decide (a ≤ c)) := by
  unfold G41 G41n
  by_cases h : b ≤ a <;> simp [h]
theorem g50 (a b c : Int) : G50 a b c = some (decide (b ≤ a) && decide (a ≤ c)) := by
  unfold G50 G50n
  by_cases h : b ≤ a <;> simp [h]
def rc (k n : Int) : VRecorder := ⟨k, n, true, 0, 0, [], 0, 0, [], [], [], false, false, 0, [], [], [], 0⟩
theorem g42 {k n : Int} (h1 : 1 ≤ k) (h2 : k ≤ n) (h3 : n ≤ 5) : G42 k n = some (rc k n) := by
  unfold G42 G42n
  have a : 1 ≤ n := by omega
  simp only [g41, Option.bind_some, a, h1, h2, h3, decide_true, Bool.and_self, Bool.not_true, cond_false]
  rfl
theorem g51 {k n : Int} (h1 : 1 ≤ k) (h2 : k ≤ n) (h3 : n ≤ 5) : G51 k n = some (rc k n) := by
  unfold G51 G51n
  have a : 1 ≤ n := by omega
  simp only [g50, Option.bind_some, a, h1, h2, h3, decide_true, Bool.and_self, Bool.not_true, cond_false]
  rfl
def rcs (n : Int) (i : Nat) : List VRecorder := (List.range i).map fun j => rc ((j + 1 : Nat) : Int) n
theorem rcs_succ (n : Int) (i : Nat) : rcs n i ++ [rc ((i + 1 : Nat) : Int) n] = rcs n (i + 1) := by
  unfold rcs
  rw [List.range_succ, List.map_append]
  rfl
theorem rcs_len (n : Int) (i : Nat) : (rcs n i).length = i := by simp [rcs]
def nwB (n : Int) : Bool := decide (1 ≤ n) && decide (n ≤ 5)
def nw (n : Int) : VRecWorld := ⟨rcs n n.toNat, [], []⟩
theorem g18 {n : Int} (h : nwB n = true) : G18 n = some (nw n) := by
  simp only [nwB, Bool.and_eq_true, decide_eq_true_eq] at h
  have key : lpN (r18_0 fuel) fuel (n, [], [], [], rcs n 0, [], [], (((0 : Nat) : Int) + 1)) = some (nw n) :=
    lp_idx (st := fun i => (n, [], [], [], rcs n i, [], [], ((i : Int) + 1))) (val := fun i => some (nw n)) n.toNat (fun rec => by
      have h1 : ¬ ((n.toNat : Int) + 1 ≤ n) := by omega
      simp only [r18_0, h1, decide_false, cond_false]
      rfl) (fun rec i hi hr => by
      have h1 : (i : Int) + 1 ≤ n := by omega
      have hw : IntKind.i64.wrap ((i : Int) + 1 + 1) = ((i + 1 : Nat) : Int) + 1 := by rw [wrap_id (by omega) (by omega)]; omega
      have hc : ((rcs n i).length + 1) * 248 ≤ 140737488355328 := by rw [rcs_len]; omega
      have e : (i : Int) + 1 = ((i + 1 : Nat) : Int) := by omega
      have h42 := g42 (k := (i : Int) + 1) (n := n) (by omega) h1 (by omega)
      simp only [r18_0]
      rw [h42, hw]
      simp only [h1, decide_true, cond_true, Option.bind_some, List.length_cons, List.length_nil]
      rw [show decide (((rcs n i).length + (0 + 1)) * 248 ≤ 140737488355328) = true from decide_eq_true hc, cond_true, e, rcs_succ]
      exact hr) fuel 0 (Nat.zero_le _) (by have := fuel_big; omega)
  unfold G18 G18n
  simp only [g41, h.1, h.2, decide_true, Bool.and_self, Option.bind_some, Bool.not_true, cond_false]
  exact key
theorem g23 {n : Int} (h : nwB n = true) : G23 n = some (nw n) := by
  simp only [nwB, Bool.and_eq_true, decide_eq_true_eq] at h
  have key : lpN (r23_0 fuel) fuel (n, [], [], [], rcs n 0, [], [], (((0 : Nat) : Int) + 1)) = some (nw n) :=
    lp_idx (st := fun i => (n, [], [], [], rcs n i, [], [], ((i : Int) + 1))) (val := fun i => some (nw n)) n.toNat (fun rec => by
      have h1 : ¬ ((n.toNat : Int) + 1 ≤ n) := by omega
      simp only [r23_0, h1, decide_false, cond_false]
      rfl) (fun rec i hi hr => by
      have h1 : (i : Int) + 1 ≤ n := by omega
      have hw : IntKind.i64.wrap ((i : Int) + 1 + 1) = ((i + 1 : Nat) : Int) + 1 := by rw [wrap_id (by omega) (by omega)]; omega
      have hc : ((rcs n i).length + 1) * 248 ≤ 140737488355328 := by rw [rcs_len]; omega
      have e : (i : Int) + 1 = ((i + 1 : Nat) : Int) := by omega
      have h51 := g51 (k := (i : Int) + 1) (n := n) (by omega) h1 (by omega)
      simp only [r23_0]
      rw [h51, hw]
      simp only [h1, decide_true, cond_true, Option.bind_some, List.length_cons, List.length_nil]
      rw [show decide (((rcs n i).length + (0 + 1)) * 248 ≤ 140737488355328) = true from decide_eq_true hc, cond_true, e, rcs_succ]
      exact hr) fuel 0 (Nat.zero_le _) (by have := fuel_big; omega)
  unfold G23 G23n
  simp only [g50, h.1, h.2, decide_true, Bool.and_self, Option.bind_some, cond_true]
  exact key
theorem g48 {xs : List VGateTeam} (h : xs.length ≤ 2000000) : G48 xs = some xs := by
  unfold G48 G48n nilq
  cases xs with
  | nil => simp [alt]
  | cons x t =>
    have : (0 + (x :: t).length) * 32 ≤ 140737488355328 := by omega
    simp only [List.isEmpty_cons, cond_false, List.length_nil, this, decide_true, cond_true, List.nil_append]
theorem g22 {h : VHallHouse} (hb : HBd h) : G22 h = some h := by
  unfold G22 G22n
  rw [g48 (by have := hb.t; omega), Option.bind_some, g49 hb.g hb.v]
  rfl
theorem g17 {h : VHallHouse} (hb : HBd h) : G17 h = some h := by
  obtain ⟨T, X⟩ := h
  obtain ⟨hT, hX, hV⟩ := hb
  simp only at hT hX hV
  have key : LP17_0 fuel (T, X, [], [], T, X.take 0, ((0 : Nat) : Int)) = some (⟨T, X⟩ : VHallHouse) :=
    lp_idx (rnd := r17_0 fuel) (st := fun i => (T, X, [], [], T, X.take i, (i : Int))) (val := fun i => some (⟨T, X⟩ : VHallHouse)) X.length (fun rec => by simp [r17_0]) (fun rec i hi hr => by
      have hw := wrap_nat (i := i) (by omega)
      have h1 : (i : Int) < (X.length : Int) := by omega
      have h40 := g40 ⟨(X[i]).Rule_Verbs, (X[i]).Rule_Kind, (X[i]).Rule_Team, (X[i]).Rule_Prefix⟩ (hV _ (List.getElem_mem hi))
      have ht : (X.take i) ++ [X[i]] = X.take (i + 1) := by rw [List.take_append_getElem hi]
      have hlen : ((X.take i).length + [X[i]].length) * 112 ≤ 140737488355328 := by simp; omega
      simp only [r17_0]
      rw [get_cast hi]
      simp only [h1, decide_true, cond_true, Int.natCast_nonneg, Option.bind_some, h40]
      rw [hw]
      have e : (⟨(X[i]).Number, (X[i]).To, (X[i]).By, (X[i]).Rule_Verbs, (X[i]).Rule_Kind, (X[i]).Rule_Team, (X[i]).Rule_Prefix⟩ : VGateGrant) = X[i] := rfl
      rw [e]
      rw [show decide (((X.take i).length + [X[i]].length) * 112 ≤ 140737488355328) = true from decide_eq_true hlen, cond_true, ht]
      exact hr) fuel 0 (Nat.zero_le _) (by have := fuel_big; omega)
  unfold G17 G17n
  have : (0 + T.length) * 32 ≤ 140737488355328 := by omega
  simp only [List.length_nil, this, decide_true, cond_true, List.nil_append]
  exact key
def wo (h : VHallHouse) (n : Int) : VHallWorld := cond (hhB h && nwB n) ⟨h.Teams, h.Grants, (nw n).Recorders, [], [], 0, []⟩ ⟨[], [], [], [], [], 0, []⟩
theorem g5 {h : VHallHouse} {n : Int} (hb : HBd h) : G5 h n = some (wo h n) := by
  unfold G5 G5n wo
  simp only [g15 hb, g16, Option.bind_some]
  cases h1 : hhB h with
  | false => rfl
  | true =>
    rw [show (decide (1 ≤ n) && decide (n ≤ 5)) = nwB n from rfl]
    cases h2 : nwB n with
    | false => rfl
    | true =>
      simp only [Bool.not_true, cond_false, g17 hb, g18 h2, Option.bind_some]
      rfl
theorem g7 {h : VHallHouse} {n : Int} (hb : HBd h) : G7 h n = some (wo h n) := by
  unfold G7 G7n wo
  simp only [g21 hb, Option.bind_some]
  cases h1 : hhB h with
  | false => rfl
  | true =>
    cases h2 : nwB n with
    | false =>
      by_cases c1 : n < 1
      · simp only [c1, Bool.not_true, decide_true, cond_true, cond_false]; rfl
      · have c2 : n > 5 := by
          simp only [nwB, Bool.and_eq_false_iff, decide_eq_false_iff_not] at h2
          omega
        simp only [c1, c2, Bool.not_true, decide_true, decide_false, cond_true, cond_false]; rfl
    | true =>
      have h2' := h2
      simp only [nwB, Bool.and_eq_true, decide_eq_true_eq] at h2'
      have c1 : ¬ n < 1 := by omega
      have c2 : ¬ n > 5 := by omega
      simp only [Bool.not_true, c1, c2, decide_false, cond_false, g22 hb, g23 h2, Option.bind_some]
      rfl
/-! ### Weights -/
theorem sum_le {α : Type} {w : α → Nat} {c : Nat} : ∀ {xs : List α}, (∀ x ∈ xs, w x ≤ c) → (xs.map w).sum ≤ c * xs.length
  | [], _ => by simp
  | x :: t, h => by
    have h1 := sum_le (xs := t) fun y hy => h y (List.mem_cons_of_mem _ hy)
    have h2 := h x (List.mem_cons_self ..)
    simp only [List.map_cons, List.sum_cons, List.length_cons, Nat.mul_succ]; omega
theorem w_ints (xs : List Int) : w_IntS xs ≤ xs.length := by
  have := sum_le (w := w_Int) (c := 1) (xs := xs) fun x _ => Nat.le_refl _
  unfold w_IntS; omega
theorem w_teams {xs : List VGateTeam} (h : xs.length ≤ 1048576) : w_GateTeamS xs ≤ 2097152 := by
  have := sum_le (w := w_GateTeam) (c := 2) (xs := xs) fun x _ => Nat.le_refl _
  unfold w_GateTeamS; omega
theorem w_grants {xs : List VGateGrant} (h : xs.length ≤ 1048576) (hv : ∀ x ∈ xs, x.Rule_Verbs.length ≤ 1048576) : w_GateGrantS xs ≤ 2199023255552 := by
  have := sum_le (w := w_GateGrant) (c := 2097152) (xs := xs) fun x hx => by
    have h1 := hv x hx
    have h2 := w_ints x.Rule_Verbs
    unfold w_GateGrant; omega
  unfold w_GateGrantS; omega
theorem w_rcs (n : Int) (i : Nat) (h : i ≤ 5) : w_RecorderS (rcs n i) ≤ 55 := by
  have := sum_le (w := w_Recorder) (c := 11) (xs := rcs n i) fun x hx => by
    simp only [rcs, List.mem_map] at hx
    obtain ⟨j, _, rfl⟩ := hx
    exact Nat.le_refl _
  rw [rcs_len] at this
  unfold w_RecorderS; omega
def wW (W : VHallWorld) : Nat := w_GateTeamS W.House_Teams + w_GateGrantS W.House_Grants + w_RecorderS W.Rec_Recorders + w_RecMessageS W.Rec_Flight + w_RecFixS W.Rec_Fixed + w_HallAskedS W.Asked
theorem wo_w {h : VHallHouse} {n : Int} (hb : HBd h) : wW (wo h n) ≤ 4398046511104 := by
  unfold wo
  cases hc : hhB h && nwB n with
  | false => exact (by decide : wW ⟨[], [], [], [], [], 0, []⟩ ≤ 4398046511104)
  | true =>
    simp only [Bool.and_eq_true] at hc
    have h2' := hc.2
    simp only [nwB, Bool.and_eq_true, decide_eq_true_eq] at h2'
    have e1 := w_teams hb.t
    have e2 := w_grants hb.g hb.v
    have e3 := w_rcs n n.toNat (by omega)
    have z1 : w_RecMessageS [] = 0 := rfl
    have z2 : w_RecFixS [] = 0 := rfl
    have z3 : w_HallAskedS [] = 0 := rfl
    simp only [cond_true, wW, nw]
    omega
theorem eqW (W : VHallWorld) (h : wW W ≤ 4398046511104) : G8 W W = some true := by
  unfold wW at h
  unfold G8 G8n G9 G9n G24 G24n
  simp only [eq_GateTeamS (xs := W.House_Teams) (by omega), eq_GateGrantS (xs := W.House_Grants) (by omega), eq_RecorderS (xs := W.Rec_Recorders) (by omega), eq_RecMessageS (xs := W.Rec_Flight) (by omega), eq_RecFixS (xs := W.Rec_Fixed) (by omega), eq_HallAskedS (xs := W.Asked) (by omega), bne_self_eq_false, cond_false, Option.bind_some, Bool.not_true]
theorem markW (W : VHallWorld) (h : wW W ≤ 4398046511104) : ∃ T X R F Y A k, G11 W 1 = some (T, X, R, F, Y, A, k) ∧ (∀ now, G12 ⟨T, X, R, F, Y, now, A⟩ 1 = some k) ∧ 0 ≤ k := by
  unfold wW at h
  obtain ⟨T, t1, t2⟩ := mark_GateTeamS (xs := W.House_Teams) (k := 1) (by omega) (by omega)
  generalize hk1 : (1 : Int) + (w_GateTeamS W.House_Teams : Int) = k1 at t1 t2
  obtain ⟨X, x1, x2⟩ := mark_GateGrantS (xs := W.House_Grants) (k := k1) (by omega) (by omega)
  generalize hk2 : k1 + (w_GateGrantS W.House_Grants : Int) = k2 at x1 x2
  obtain ⟨R, r1, r2⟩ := mark_RecorderS (xs := W.Rec_Recorders) (k := k2) (by omega) (by omega)
  generalize hk3 : k2 + (w_RecorderS W.Rec_Recorders : Int) = k3 at r1 r2
  obtain ⟨F, f1, f2⟩ := mark_RecMessageS (xs := W.Rec_Flight) (k := k3) (by omega) (by omega)
  generalize hk4 : k3 + (w_RecMessageS W.Rec_Flight : Int) = k4 at f1 f2
  obtain ⟨Y, y1, y2⟩ := mark_RecFixS (xs := W.Rec_Fixed) (k := k4) (by omega) (by omega)
  generalize hk5 : k4 + (w_RecFixS W.Rec_Fixed : Int) = k5 at y1 y2
  obtain ⟨A, a1, a2⟩ := mark_HallAskedS (xs := W.Asked) (k := k5) (by omega) (by omega)
  generalize hk6 : k5 + (w_HallAskedS W.Asked : Int) = k6 at a1 a2
  have n1 : ¬ k1 < 0 := by omega
  have n2 : ¬ k2 < 0 := by omega
  have n3 : ¬ k3 < 0 := by omega
  have n4 : ¬ k4 < 0 := by omega
  have n5 : ¬ k5 < 0 := by omega
  have n6 : ¬ k6 < 0 := by omega
  refine ⟨T, X, R, F, Y, A, k6, ?_, fun now => ?_, by omega⟩
  · unfold G11 G11n G10 G10n G30 G30n
    simp only [t1, x1, r1, f1, y1, a1, Option.bind_some]
  · unfold G12 G12n G32 G32n G33 G33n
    simp only [t2, x2, r2, f2, y2, a2, n1, n2, n3, n4, n5, n6, decide_false, cond_false, Option.bind_some]
theorem house10 {h : VHallHouse} (hb : HBd h) : ∃ r, G10 h 1 = some r ∧ 0 ≤ r.2.2 := by
  have e1 := w_teams hb.t
  have e2 := w_grants hb.g hb.v
  obtain ⟨T, t1, t2⟩ := mark_GateTeamS (xs := h.Teams) (k := 1) (by omega) (by omega)
  generalize hk1 : (1 : Int) + (w_GateTeamS h.Teams : Int) = k1 at t1 t2
  obtain ⟨X, x1, x2⟩ := mark_GateGrantS (xs := h.Grants) (k := k1) (by omega) (by omega)
  refine ⟨(T, X, k1 + (w_GateGrantS h.Grants : Int)), ?_, by simp only; omega⟩
  unfold G10 G10n
  simp only [t1, x1, Option.bind_some]
theorem pure3 (a0 : VHallHouse) (a1 : Int) (h0 : Sm KK (.row .e64 a0.Teams)) (h1 : Sm KK (.row .e70 a0.Grants)) (h2 : Sm KK (.int .i64 a1)) : G3 a0 a1 = some true := by
  unfold G3 G3n
  obtain ⟨r, e, hr | hb⟩ := g4 h0 h1
  · simp only [e, Option.bind_some, hr, decide_true, cond_true]
  · by_cases hr : r < 0
    · simp only [e, Option.bind_some, hr, decide_true, cond_true]
    · obtain ⟨q, e10, hq⟩ := house10 hb
      have hq' : ¬ q.2.2 < 0 := by omega
      obtain ⟨T, X, R, F, Y, A, k, e11, e12, hk⟩ := markW (wo a0 a1) (wo_w hb)
      have hk' : ¬ k < 0 := by omega
      simp only [e, Option.bind_some, hr, decide_false, cond_false, g6 hb, g5 hb, g7 hb, g9 hb, e10, hq', Bool.not_true, eqW _ (wo_w hb), e11, e12, hk', bne_self_eq_false]
end Go.Proofs.Ytgpopgfidphheaa.Ab
