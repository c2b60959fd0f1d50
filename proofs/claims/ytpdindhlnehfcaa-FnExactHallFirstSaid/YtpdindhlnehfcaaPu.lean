/- The plain law: what the law's function computes is true. -/
import Derived.Test.YtpdindhlnehfcaaPf
set_option linter.unusedVariables false
set_option linter.unusedSimpArgs false
namespace Go.Proofs.Ytpdindhlnehfcaa.Ab
open Go Go.RowKit

theorem one_lt_fuel : 0 < fuel := by have := fuel_big; omega
theorem g55 (k : Int) : G55 ([] : List VGateObject) k = some (([] : List VGateObject), k) := by unfold G55 G55n; exact lp_open one_lt_fuel
theorem g56 (k : Int) : G56 ([] : List VGateLedger) k = some (([] : List VGateLedger), k) := by unfold G56 G56n; exact lp_open one_lt_fuel
theorem g57 (k : Int) : G57 ([] : List VGatePurse) k = some (([] : List VGatePurse), k) := by unfold G57 G57n; exact lp_open one_lt_fuel
theorem g58 (k : Int) : G58 ([] : List VStewService) k = some (([] : List VStewService), k) := by unfold G58 G58n; exact lp_open one_lt_fuel
theorem g59 (k : Int) : G59 ([] : List VStewCopy) k = some (([] : List VStewCopy), k) := by unfold G59 G59n; exact lp_open one_lt_fuel
theorem g60 (k : Int) : G60 ([] : List VStewBerth) k = some (([] : List VStewBerth), k) := by unfold G60 G60n; exact lp_open one_lt_fuel
theorem g61 (k : Int) : G61 ([] : List VGateObject) k = some k := by unfold G61 G61n; exact lp_open one_lt_fuel
theorem g63 (k : Int) : G63 ([] : List VGateLedger) k = some k := by unfold G63 G63n; exact lp_open one_lt_fuel
theorem g64 (k : Int) : G64 ([] : List VGatePurse) k = some k := by unfold G64 G64n; exact lp_open one_lt_fuel
theorem g65 (k : Int) : G65 ([] : List VStewService) k = some k := by unfold G65 G65n; exact lp_open one_lt_fuel
theorem g66 (k : Int) : G66 ([] : List VStewCopy) k = some k := by unfold G66 G66n; exact lp_open one_lt_fuel
theorem g67 (k : Int) : G67 ([] : List VStewBerth) k = some k := by unfold G67 G67n; exact lp_open one_lt_fuel
theorem g45 : G45 ([] : List VGateObject) ([] : List VGateObject) = some true := by unfold G45 G45n; exact lp_open one_lt_fuel
theorem g46 : G46 ([] : List VGateLedger) ([] : List VGateLedger) = some true := by unfold G46 G46n; exact lp_open one_lt_fuel
theorem g47 : G47 ([] : List VGatePurse) ([] : List VGatePurse) = some true := by unfold G47 G47n; exact lp_open one_lt_fuel
theorem g48 : G48 ([] : List VStewService) ([] : List VStewService) = some true := by unfold G48 G48n; exact lp_open one_lt_fuel
theorem g49 : G49 ([] : List VStewCopy) ([] : List VStewCopy) = some true := by unfold G49 G49n; exact lp_open one_lt_fuel
theorem g50 : G50 ([] : List VStewBerth) ([] : List VStewBerth) = some true := by unfold G50 G50n; exact lp_open one_lt_fuel
/-- A first book: rows of grants alone. -/
theorem book8 {a b c d : Int} {X : List VGateGrant} (h : X.length ≤ 1048576) (hv : ∀ x ∈ X, x.Rule_Verbs.length ≤ 1048576) : G8 ⟨a, b, c, [], X, [], [], d, [], [], []⟩ ⟨a, b, c, [], X, [], [], d, [], [], []⟩ = some true := by
  unfold G8 G8n G21 G21n G22 G22n
  simp only [g24 h hv, g45, g46, g47, g48, g49, g50, bne_self_eq_false, cond_false, Option.bind_some, Bool.not_true]
theorem book11 {a b c d : Int} {X : List VGateGrant} (h : X.length ≤ 1048576) (hv : ∀ x ∈ X, x.Rule_Verbs.length ≤ 1048576) : ∃ Y k, G11 ⟨a, b, c, [], X, [], [], d, [], [], []⟩ 1 = some ([], Y, [], [], [], [], [], k) ∧ G12 ⟨a, b, c, [], Y, [], [], d, [], [], []⟩ 1 = some k ∧ 0 ≤ k := by
  obtain ⟨Y, k, e1, e2, e3⟩ := g26 (k := 1) h hv (by omega) (by omega)
  have hk : ¬ k < 0 := by omega
  have h1 : ¬ (1 : Int) < 0 := by omega
  refine ⟨Y, k, ?_, ?_, by omega⟩
  · unfold G11 G11n G27 G27n G28 G28n
    simp only [g55, e1, g56, g57, g58, g59, g60, Option.bind_some]
  · unfold G12 G12n G29 G29n G30 G30n
    simp only [g61, e2, g63, g64, g65, g66, g67, Option.bind_some, hk, h1, decide_false, cond_false]
theorem house10 {h : VHallHouse} (hb : HBd h) : ∃ r, G10 h 1 = some r ∧ 0 ≤ r.2.2 := by
  obtain ⟨r, e1, r1, r2⟩ := g25 (k := 1) hb.t (by omega) (by omega)
  obtain ⟨Y, k, e2, _, e3⟩ := g26 (k := r.2) hb.g hb.v r1 (by have := hb.t; omega)
  refine ⟨(r.1, Y, k), ?_, by simp only; omega⟩
  unfold G10 G10n
  simp only [e1, e2, Option.bind_some]
theorem pure3 (a0 : VHallHouse) (h0 : Sm KK (.row .e67 a0.Teams)) (h1 : Sm KK (.row .e73 a0.Grants)) : G3 a0 = some true := by
  unfold G3 G3n
  obtain ⟨r, e, hr | hb⟩ := g4 h0 h1
  · simp only [e, Option.bind_some, hr, decide_true, cond_true]
  · by_cases hr : r < 0
    · simp only [e, Option.bind_some, hr, decide_true, cond_true]
    · obtain ⟨q, e10, hq⟩ := house10 hb
      have hq' : ¬ q.2.2 < 0 := by omega
      simp only [e, Option.bind_some, hr, decide_false, cond_false, g6 hb, g5 hb, g7 hb, g9 hb, e10, hq', Bool.not_true]
      unfold frB
      cases hhB a0 with
      | true =>
        simp only [cond_true]
        obtain ⟨Y, k, e11, e12, hk⟩ := book11 (a := (a0.Grants.length : Int)) (b := 0) (c := (a0.Grants.length : Int)) (d := 0) hb.g hb.v
        have hk' : ¬ k < 0 := by omega
        simp only [book8 hb.g hb.v, e11, e12, hk', bne_self_eq_false, Option.bind_some, Bool.not_true, cond_false, decide_false]
      | false =>
        simp only [cond_false]
        have hn : ([] : List VGateGrant).length ≤ 1048576 := by decide
        have hv : ∀ x ∈ ([] : List VGateGrant), x.Rule_Verbs.length ≤ 1048576 := fun x hx => by cases hx
        obtain ⟨Y, k, e11, e12, hk⟩ := book11 (a := 0) (b := 0) (c := 0) (d := 0) hn hv
        have hk' : ¬ k < 0 := by omega
        simp only [book8 hn hv, e11, e12, hk', bne_self_eq_false, Option.bind_some, Bool.not_true, cond_false, decide_false]
end Go.Proofs.Ytpdindhlnehfcaa.Ab
