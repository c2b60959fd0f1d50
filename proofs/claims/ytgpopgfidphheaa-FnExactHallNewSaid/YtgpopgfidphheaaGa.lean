/- The functions that the law calls, written plainly, and their contracts: each call answers what its plain function answers. No conditions. -/
import Derived.Test.YtgpopgfidphheaaKd
import Derived.Test.YtgpopgfidphheaaAw4
set_option linter.unusedVariables false
namespace Go.Proofs.Ytgpopgfidphheaa.Ab
open Go Go.RowKit
def fuel : Nat := 4611686018427387904
def lkC {α : Type 1} : List (Nat × α) → Nat → Option α
  | [], _ => none
  | (m, v) :: r, n => cond (Nat.beq n m) (some v) (lkC r n)
def allR (P : Program) (K : Cd C) : List (Nat × Con C) → Prop
  | [] => True
  | (f, c) :: r => ConOk P K f c ∧ allR P K r
def allW (P : Program) (K : Cd C) : List (Nat × ConW C) → Prop
  | [] => True
  | (f, c) :: r => ConWOk P K f c ∧ allW P K r
theorem lkR_ok {P : Program} {K : Cd C} : ∀ {l : List (Nat × Con C)}, allR P K l → ∀ f c, lkC l f = some c → ConOk P K f c
  | [], _, f, c, h => by cases h
  | (m, v) :: r, ha, f, c, h => by
    simp only [lkC] at h
    cases hb : Nat.beq f m with
    | true => rw [hb] at h; cases h; have := Nat.eq_of_beq_eq_true hb; subst this; exact ha.1
    | false => rw [hb] at h; exact lkR_ok ha.2 f c h
theorem lkW_ok {P : Program} {K : Cd C} : ∀ {l : List (Nat × ConW C)}, allW P K l → ∀ f c, lkC l f = some c → ConWOk P K f c
  | [], _, f, c, h => by cases h
  | (m, v) :: r, ha, f, c, h => by
    simp only [lkC] at h
    cases hb : Nat.beq f m with
    | true => rw [hb] at h; cases h; have := Nat.eq_of_beq_eq_true hb; subst this; exact ha.1
    | false => rw [hb] at h; exact lkW_ok ha.2 f c h
theorem nameB {s t : String} (h : (s == t) = false) : s ≠ t := by simpa using h
/-! ### f35 loop.example/wharfdesk/laws.szGateTeam -/
noncomputable def X35 : Cx C := { K := KK, tk := lk tks, con := lkC [], conw := lkC [] }
def F35 (n : Nat) : Cf := { N := n, keep := [0, 1, 2, 4, 11, 18], live := lk [] }
def dec35 (rs : List (Bool × List (Lf C))) : Option (Int) := match rs with
  | [(false, [.int .i64 z0])] => some z0
  | _ => none
noncomputable def G35n (n : Nat) (a0 : VGateTeam) (a1 : Int) : Option (Int) :=
      cond (decide ((IntKind.i64.wrap (a1 - (a0.Name.size : Int))) < 0))
      (some ((-1)))
      (cond (decide ((IntKind.i64.wrap ((IntKind.i64.wrap (a1 - (a0.Name.size : Int))) - (a0.Over.size : Int))) < 0))
      (some ((-1)))
      (some (IntKind.i64.wrap ((IntKind.i64.wrap (a1 - (a0.Name.size : Int))) - (a0.Over.size : Int)))))
theorem t35 (n : Nat) (a0 : VGateTeam) (a1 : Int) : runFn X35 (F35 n) Go.Proofs.Try.f35 [.agg [.str a0.Name, .str a0.Over], .one (.int .i64 a1)] dec35 = G35n n a0 a1 := by
  kernel_rfl
noncomputable def G35 (a0 : VGateTeam) (a1 : Int) : Option (Int) := G35n fuel a0 a1
noncomputable def con35 : Con C := { R0 := Int, ret := fun r => [(false, [.int .i64 r])], g := fun vs => match vs with
  | [.agg [.str y0_0, .str y0_1], .one (.int .i64 y1)] => G35 ⟨y0_0, y0_1⟩ y1
  | _ => none }
theorem x35 : XOk Go.Proofs.Try.prog X35 := ⟨tks_ok, els_ok⟩
theorem q35 : Cons Go.Proofs.Try.prog X35 := ⟨lkR_ok (l := []) trivial, lkW_ok (l := []) trivial⟩
theorem c35 : ConOk Go.Proofs.Try.prog KK 35 con35 := by
  refine con_dec x35 q35 (by kernel_rfl) (f := 35) (fn := Go.Proofs.Try.f35) (c := bodyOf Go.Proofs.Try.f35) (by kernel_rfl) (by kernel_rfl) (by kernel_rfl) (nameB (by kernel_rfl)) con35 dec35 (fun rs r0 h => ?_) (fun vs r0 h => ?_)
  · unfold dec35 at h
    split at h
    · cases h; rfl
    · cases h
  · simp only [con35] at h
    split at h
    · rename_i y0_0 y0_1 y1
      exact ⟨Nat.le_of_ble_eq_true (by kernel_rfl), F35 fuel, (t35 fuel ⟨y0_0, y0_1⟩ y1).trans h⟩
    · cases h
/-! ### f13 loop.example/wharfdesk/laws.szGateTeamS -/
noncomputable def X13 : Cx C := { K := KK, tk := lk tks, con := lkC [(35, con35)], conw := lkC [] }
def F13 (n : Nat) : Cf := { N := n, keep := [0, 1, 4, 5, 11, 15, 25], live := lk [(0, [0, 1, 5])] }
def dec13 (rs : List (Bool × List (Lf C))) : Option (Int) := match rs with
  | [(false, [.int .i64 z0])] => some z0
  | _ => none
abbrev A13_0 : Type := List (C .e64) × Int × Int
def s13_0 : A13_0 → St C := fun (x0_0, x0_1, x0_2) => { env := [(0, .one (.row .e64 x0_0)), (1, .one (.int .i64 x0_1)), (5, .one (.int .i64 x0_2))], objs := [], base := 0 }
noncomputable def r13_0 (n : Nat)  (rec0 : A13_0 → Option (Int)) : A13_0 → Option (Int) := fun (x0_0, x0_1, x0_2) =>
      cond (decide (x0_2 < (x0_0.length : Int)))
      (cond (decide (0 ≤ x0_2)) (Option.bind x0_0[x0_2.toNat]? fun x1 => Option.bind (G35 x1 x0_1) fun r2 =>
      cond (decide (r2 < 0))
      (some ((-1)))
      (rec0 (x0_0, r2, IntKind.i64.wrap (x0_2 + 1)))) none)
      (some (x0_1))
noncomputable def LP13_0 (n : Nat)  (x : A13_0) : Option (Int) := lpN (r13_0 n ) n x
noncomputable def MP13_0 (n : Nat)  (x : A13_0) : Option (Int) := iter (fun rec S => run X13 (F13 n) (codeAt (bodyOf Go.Proofs.Try.f13) [1, 1, 1, 0, 1, 0, 0]) 0 S (lopK rec (blkK 0 (seqK (run X13 (F13 n) (codeAt (bodyOf Go.Proofs.Try.f13) [1, 1, 1, 1]) 0) (kTop X13 Go.Proofs.Try.f13 dec13))))) [0, 1, 5] n (s13_0 x)
theorem m13_0 (n : Nat)  (x : A13_0) : MP13_0 n  x = LP13_0 n  x := by
  refine iter_eq s13_0 (r13_0 n ) (fun rec0 x => ?_) n x
  obtain ⟨x0_0, x0_1, x0_2⟩ := x
  kernel_rfl
noncomputable def G13n (n : Nat) (a0 : List (C .e64)) (a1 : Int) : Option (Int) :=
      cond (decide ((IntKind.i64.wrap (a1 - (a0.length : Int))) < 0))
      (some ((-1)))
      (LP13_0 n  (a0, IntKind.i64.wrap (a1 - (a0.length : Int)), 0))
theorem t13 (n : Nat) (a0 : List (C .e64)) (a1 : Int) : runFn X13 (F13 n) Go.Proofs.Try.f13 [.one (.row .e64 a0), .one (.int .i64 a1)] dec13 = G13n n a0 a1 := by
  have h : runFn X13 (F13 n) Go.Proofs.Try.f13 [.one (.row .e64 a0), .one (.int .i64 a1)] dec13 =
      cond (decide ((IntKind.i64.wrap (a1 - (a0.length : Int))) < 0))
      (some ((-1)))
      (MP13_0 n  (a0, IntKind.i64.wrap (a1 - (a0.length : Int)), 0)) := by kernel_rfl
  simp only [h, G13n, m13_0]
noncomputable def G13 (a0 : List (C .e64)) (a1 : Int) : Option (Int) := G13n fuel a0 a1
noncomputable def con13 : Con C := { R0 := Int, ret := fun r => [(false, [.int .i64 r])], g := fun vs => match vs with
  | [.one (.row .e64 y0), .one (.int .i64 y1)] => G13 y0 y1
  | _ => none }
theorem x13 : XOk Go.Proofs.Try.prog X13 := ⟨tks_ok, els_ok⟩
theorem q13 : Cons Go.Proofs.Try.prog X13 := ⟨lkR_ok (l := [(35, con35)]) ⟨c35, trivial⟩, lkW_ok (l := []) trivial⟩
theorem c13 : ConOk Go.Proofs.Try.prog KK 13 con13 := by
  refine con_dec x13 q13 (by kernel_rfl) (f := 13) (fn := Go.Proofs.Try.f13) (c := bodyOf Go.Proofs.Try.f13) (by kernel_rfl) (by kernel_rfl) (by kernel_rfl) (nameB (by kernel_rfl)) con13 dec13 (fun rs r0 h => ?_) (fun vs r0 h => ?_)
  · unfold dec13 at h
    split at h
    · cases h; rfl
    · cases h
  · simp only [con13] at h
    split at h
    · rename_i y0 y1
      exact ⟨Nat.le_of_ble_eq_true (by kernel_rfl), F13 fuel, (t13 fuel y0 y1).trans h⟩
    · cases h
/-! ### f90 loop.example/wharfdesk/laws.szIntS -/
noncomputable def X90 : Cx C := { K := KK, tk := lk tks, con := lkC [], conw := lkC [] }
def F90 (n : Nat) : Cf := { N := n, keep := [0, 1, 4, 10], live := lk [] }
def dec90 (rs : List (Bool × List (Lf C))) : Option (Int) := match rs with
  | [(false, [.int .i64 z0])] => some z0
  | _ => none
noncomputable def G90n (n : Nat) (a0 : List (C .e3)) (a1 : Int) : Option (Int) :=
      cond (decide ((IntKind.i64.wrap (a1 - (a0.length : Int))) < 0))
      (some ((-1)))
      (some (IntKind.i64.wrap (a1 - (a0.length : Int))))
theorem t90 (n : Nat) (a0 : List (C .e3)) (a1 : Int) : runFn X90 (F90 n) Go.Proofs.Try.f90 [.one (.row .e3 a0), .one (.int .i64 a1)] dec90 = G90n n a0 a1 := by
  kernel_rfl
noncomputable def G90 (a0 : List (C .e3)) (a1 : Int) : Option (Int) := G90n fuel a0 a1
noncomputable def con90 : Con C := { R0 := Int, ret := fun r => [(false, [.int .i64 r])], g := fun vs => match vs with
  | [.one (.row .e3 y0), .one (.int .i64 y1)] => G90 y0 y1
  | _ => none }
theorem x90 : XOk Go.Proofs.Try.prog X90 := ⟨tks_ok, els_ok⟩
theorem q90 : Cons Go.Proofs.Try.prog X90 := ⟨lkR_ok (l := []) trivial, lkW_ok (l := []) trivial⟩
theorem c90 : ConOk Go.Proofs.Try.prog KK 90 con90 := by
  refine con_dec x90 q90 (by kernel_rfl) (f := 90) (fn := Go.Proofs.Try.f90) (c := bodyOf Go.Proofs.Try.f90) (by kernel_rfl) (by kernel_rfl) (by kernel_rfl) (nameB (by kernel_rfl)) con90 dec90 (fun rs r0 h => ?_) (fun vs r0 h => ?_)
  · unfold dec90 at h
    split at h
    · cases h; rfl
    · cases h
  · simp only [con90] at h
    split at h
    · rename_i y0 y1
      exact ⟨Nat.le_of_ble_eq_true (by kernel_rfl), F90 fuel, (t90 fuel y0 y1).trans h⟩
    · cases h
/-! ### f68 loop.example/wharfdesk/laws.szGateRule -/
noncomputable def X68 : Cx C := { K := KK, tk := lk tks, con := lkC [(90, con90)], conw := lkC [] }
def F68 (n : Nat) : Cf := { N := n, keep := [0, 1, 2, 4, 10, 17, 24, 31], live := lk [] }
def dec68 (rs : List (Bool × List (Lf C))) : Option (Int) := match rs with
  | [(false, [.int .i64 z0])] => some z0
  | _ => none
noncomputable def G68n (n : Nat) (a0 : VGateRule) (a1 : Int) : Option (Int) :=
      Option.bind (G90 a0.Verbs a1) fun r1 =>
      cond (decide (r1 < 0))
      (some ((-1)))
      (cond (decide ((IntKind.i64.wrap (r1 - (a0.Kind.size : Int))) < 0))
      (some ((-1)))
      (cond (decide ((IntKind.i64.wrap ((IntKind.i64.wrap (r1 - (a0.Kind.size : Int))) - (a0.Team.size : Int))) < 0))
      (some ((-1)))
      (cond (decide ((IntKind.i64.wrap ((IntKind.i64.wrap ((IntKind.i64.wrap (r1 - (a0.Kind.size : Int))) - (a0.Team.size : Int))) - (a0.Prefix.size : Int))) < 0))
      (some ((-1)))
      (some (IntKind.i64.wrap ((IntKind.i64.wrap ((IntKind.i64.wrap (r1 - (a0.Kind.size : Int))) - (a0.Team.size : Int))) - (a0.Prefix.size : Int)))))))
theorem t68 (n : Nat) (a0 : VGateRule) (a1 : Int) : runFn X68 (F68 n) Go.Proofs.Try.f68 [.agg [.row .e3 a0.Verbs, .str a0.Kind, .str a0.Team, .str a0.Prefix], .one (.int .i64 a1)] dec68 = G68n n a0 a1 := by
  kernel_rfl
noncomputable def G68 (a0 : VGateRule) (a1 : Int) : Option (Int) := G68n fuel a0 a1
noncomputable def con68 : Con C := { R0 := Int, ret := fun r => [(false, [.int .i64 r])], g := fun vs => match vs with
  | [.agg [.row .e3 y0_0, .str y0_1, .str y0_2, .str y0_3], .one (.int .i64 y1)] => G68 ⟨y0_0, y0_1, y0_2, y0_3⟩ y1
  | _ => none }
theorem x68 : XOk Go.Proofs.Try.prog X68 := ⟨tks_ok, els_ok⟩
theorem q68 : Cons Go.Proofs.Try.prog X68 := ⟨lkR_ok (l := [(90, con90)]) ⟨c90, trivial⟩, lkW_ok (l := []) trivial⟩
theorem c68 : ConOk Go.Proofs.Try.prog KK 68 con68 := by
  refine con_dec x68 q68 (by kernel_rfl) (f := 68) (fn := Go.Proofs.Try.f68) (c := bodyOf Go.Proofs.Try.f68) (by kernel_rfl) (by kernel_rfl) (by kernel_rfl) (nameB (by kernel_rfl)) con68 dec68 (fun rs r0 h => ?_) (fun vs r0 h => ?_)
  · unfold dec68 at h
    split at h
    · cases h; rfl
    · cases h
  · simp only [con68] at h
    split at h
    · rename_i y0_0 y0_1 y0_2 y0_3 y1
      exact ⟨Nat.le_of_ble_eq_true (by kernel_rfl), F68 fuel, (t68 fuel ⟨y0_0, y0_1, y0_2, y0_3⟩ y1).trans h⟩
    · cases h
/-! ### f36 loop.example/wharfdesk/laws.szGateGrant -/
noncomputable def X36 : Cx C := { K := KK, tk := lk tks, con := lkC [(68, con68)], conw := lkC [] }
def F36 (n : Nat) : Cf := { N := n, keep := [0, 1, 2, 4, 11, 18, 24], live := lk [] }
def dec36 (rs : List (Bool × List (Lf C))) : Option (Int) := match rs with
  | [(false, [.int .i64 z0])] => some z0
  | _ => none
noncomputable def G36n (n : Nat) (a0 : VGateGrant) (a1 : Int) : Option (Int) :=
      cond (decide ((IntKind.i64.wrap (a1 - (a0.To.size : Int))) < 0))
      (some ((-1)))
      (cond (decide ((IntKind.i64.wrap ((IntKind.i64.wrap (a1 - (a0.To.size : Int))) - (a0.By.size : Int))) < 0))
      (some ((-1)))
      (Option.bind (G68 (⟨a0.Rule_Verbs, a0.Rule_Kind, a0.Rule_Team, a0.Rule_Prefix⟩ : VGateRule) (IntKind.i64.wrap ((IntKind.i64.wrap (a1 - (a0.To.size : Int))) - (a0.By.size : Int)))) fun r1 =>
      cond (decide (r1 < 0))
      (some ((-1)))
      (some (r1))))
theorem t36 (n : Nat) (a0 : VGateGrant) (a1 : Int) : runFn X36 (F36 n) Go.Proofs.Try.f36 [.agg [.int .i64 a0.Number, .str a0.To, .str a0.By, .row .e3 a0.Rule_Verbs, .str a0.Rule_Kind, .str a0.Rule_Team, .str a0.Rule_Prefix], .one (.int .i64 a1)] dec36 = G36n n a0 a1 := by
  kernel_rfl
noncomputable def G36 (a0 : VGateGrant) (a1 : Int) : Option (Int) := G36n fuel a0 a1
noncomputable def con36 : Con C := { R0 := Int, ret := fun r => [(false, [.int .i64 r])], g := fun vs => match vs with
  | [.agg [.int .i64 y0_0, .str y0_1, .str y0_2, .row .e3 y0_3, .str y0_4, .str y0_5, .str y0_6], .one (.int .i64 y1)] => G36 ⟨y0_0, y0_1, y0_2, y0_3, y0_4, y0_5, y0_6⟩ y1
  | _ => none }
theorem x36 : XOk Go.Proofs.Try.prog X36 := ⟨tks_ok, els_ok⟩
theorem q36 : Cons Go.Proofs.Try.prog X36 := ⟨lkR_ok (l := [(68, con68)]) ⟨c68, trivial⟩, lkW_ok (l := []) trivial⟩
theorem c36 : ConOk Go.Proofs.Try.prog KK 36 con36 := by
  refine con_dec x36 q36 (by kernel_rfl) (f := 36) (fn := Go.Proofs.Try.f36) (c := bodyOf Go.Proofs.Try.f36) (by kernel_rfl) (by kernel_rfl) (by kernel_rfl) (nameB (by kernel_rfl)) con36 dec36 (fun rs r0 h => ?_) (fun vs r0 h => ?_)
  · unfold dec36 at h
    split at h
    · cases h; rfl
    · cases h
  · simp only [con36] at h
    split at h
    · rename_i y0_0 y0_1 y0_2 y0_3 y0_4 y0_5 y0_6 y1
      exact ⟨Nat.le_of_ble_eq_true (by kernel_rfl), F36 fuel, (t36 fuel ⟨y0_0, y0_1, y0_2, y0_3, y0_4, y0_5, y0_6⟩ y1).trans h⟩
    · cases h
/-! ### f14 loop.example/wharfdesk/laws.szGateGrantS -/
noncomputable def X14 : Cx C := { K := KK, tk := lk tks, con := lkC [(36, con36)], conw := lkC [] }
def F14 (n : Nat) : Cf := { N := n, keep := [0, 1, 4, 5, 11, 15, 25], live := lk [(0, [0, 1, 5])] }
def dec14 (rs : List (Bool × List (Lf C))) : Option (Int) := match rs with
  | [(false, [.int .i64 z0])] => some z0
  | _ => none
abbrev A14_0 : Type := List (C .e70) × Int × Int
def s14_0 : A14_0 → St C := fun (x0_0, x0_1, x0_2) => { env := [(0, .one (.row .e70 x0_0)), (1, .one (.int .i64 x0_1)), (5, .one (.int .i64 x0_2))], objs := [], base := 0 }
noncomputable def r14_0 (n : Nat)  (rec0 : A14_0 → Option (Int)) : A14_0 → Option (Int) := fun (x0_0, x0_1, x0_2) =>
      cond (decide (x0_2 < (x0_0.length : Int)))
      (cond (decide (0 ≤ x0_2)) (Option.bind x0_0[x0_2.toNat]? fun x1 => Option.bind (G36 x1 x0_1) fun r2 =>
      cond (decide (r2 < 0))
      (some ((-1)))
      (rec0 (x0_0, r2, IntKind.i64.wrap (x0_2 + 1)))) none)
      (some (x0_1))
noncomputable def LP14_0 (n : Nat)  (x : A14_0) : Option (Int) := lpN (r14_0 n ) n x
noncomputable def MP14_0 (n : Nat)  (x : A14_0) : Option (Int) := iter (fun rec S => run X14 (F14 n) (codeAt (bodyOf Go.Proofs.Try.f14) [1, 1, 1, 0, 1, 0, 0]) 0 S (lopK rec (blkK 0 (seqK (run X14 (F14 n) (codeAt (bodyOf Go.Proofs.Try.f14) [1, 1, 1, 1]) 0) (kTop X14 Go.Proofs.Try.f14 dec14))))) [0, 1, 5] n (s14_0 x)
theorem m14_0 (n : Nat)  (x : A14_0) : MP14_0 n  x = LP14_0 n  x := by
  refine iter_eq s14_0 (r14_0 n ) (fun rec0 x => ?_) n x
  obtain ⟨x0_0, x0_1, x0_2⟩ := x
  kernel_rfl
noncomputable def G14n (n : Nat) (a0 : List (C .e70)) (a1 : Int) : Option (Int) :=
      cond (decide ((IntKind.i64.wrap (a1 - (a0.length : Int))) < 0))
      (some ((-1)))
      (LP14_0 n  (a0, IntKind.i64.wrap (a1 - (a0.length : Int)), 0))
theorem t14 (n : Nat) (a0 : List (C .e70)) (a1 : Int) : runFn X14 (F14 n) Go.Proofs.Try.f14 [.one (.row .e70 a0), .one (.int .i64 a1)] dec14 = G14n n a0 a1 := by
  have h : runFn X14 (F14 n) Go.Proofs.Try.f14 [.one (.row .e70 a0), .one (.int .i64 a1)] dec14 =
      cond (decide ((IntKind.i64.wrap (a1 - (a0.length : Int))) < 0))
      (some ((-1)))
      (MP14_0 n  (a0, IntKind.i64.wrap (a1 - (a0.length : Int)), 0)) := by kernel_rfl
  simp only [h, G14n, m14_0]
noncomputable def G14 (a0 : List (C .e70)) (a1 : Int) : Option (Int) := G14n fuel a0 a1
noncomputable def con14 : Con C := { R0 := Int, ret := fun r => [(false, [.int .i64 r])], g := fun vs => match vs with
  | [.one (.row .e70 y0), .one (.int .i64 y1)] => G14 y0 y1
  | _ => none }
theorem x14 : XOk Go.Proofs.Try.prog X14 := ⟨tks_ok, els_ok⟩
theorem q14 : Cons Go.Proofs.Try.prog X14 := ⟨lkR_ok (l := [(36, con36)]) ⟨c36, trivial⟩, lkW_ok (l := []) trivial⟩
theorem c14 : ConOk Go.Proofs.Try.prog KK 14 con14 := by
  refine con_dec x14 q14 (by kernel_rfl) (f := 14) (fn := Go.Proofs.Try.f14) (c := bodyOf Go.Proofs.Try.f14) (by kernel_rfl) (by kernel_rfl) (by kernel_rfl) (nameB (by kernel_rfl)) con14 dec14 (fun rs r0 h => ?_) (fun vs r0 h => ?_)
  · unfold dec14 at h
    split at h
    · cases h; rfl
    · cases h
  · simp only [con14] at h
    split at h
    · rename_i y0 y1
      exact ⟨Nat.le_of_ble_eq_true (by kernel_rfl), F14 fuel, (t14 fuel y0 y1).trans h⟩
    · cases h
/-! ### f4 loop.example/wharfdesk/laws.szHallHouse -/
noncomputable def X4 : Cx C := { K := KK, tk := lk tks, con := lkC [(13, con13), (14, con14)], conw := lkC [] }
def F4 (n : Nat) : Cf := { N := n, keep := [0, 1, 2, 4, 10, 16], live := lk [] }
def dec4 (rs : List (Bool × List (Lf C))) : Option (Int) := match rs with
  | [(false, [.int .i64 z0])] => some z0
  | _ => none
noncomputable def G4n (n : Nat) (a0 : VHallHouse) (a1 : Int) : Option (Int) :=
      Option.bind (G13 a0.Teams a1) fun r1 =>
      cond (decide (r1 < 0))
      (some ((-1)))
      (Option.bind (G14 a0.Grants r1) fun r2 =>
      cond (decide (r2 < 0))
      (some ((-1)))
      (some (r2)))
theorem t4 (n : Nat) (a0 : VHallHouse) (a1 : Int) : runFn X4 (F4 n) Go.Proofs.Try.f4 [.agg [.row .e64 a0.Teams, .row .e70 a0.Grants], .one (.int .i64 a1)] dec4 = G4n n a0 a1 := by
  kernel_rfl
noncomputable def G4 (a0 : VHallHouse) (a1 : Int) : Option (Int) := G4n fuel a0 a1
noncomputable def con4 : Con C := { R0 := Int, ret := fun r => [(false, [.int .i64 r])], g := fun vs => match vs with
  | [.agg [.row .e64 y0_0, .row .e70 y0_1], .one (.int .i64 y1)] => G4 ⟨y0_0, y0_1⟩ y1
  | _ => none }
theorem x4 : XOk Go.Proofs.Try.prog X4 := ⟨tks_ok, els_ok⟩
theorem q4 : Cons Go.Proofs.Try.prog X4 := ⟨lkR_ok (l := [(13, con13), (14, con14)]) ⟨c13, c14, trivial⟩, lkW_ok (l := []) trivial⟩
theorem c4 : ConOk Go.Proofs.Try.prog KK 4 con4 := by
  refine con_dec x4 q4 (by kernel_rfl) (f := 4) (fn := Go.Proofs.Try.f4) (c := bodyOf Go.Proofs.Try.f4) (by kernel_rfl) (by kernel_rfl) (by kernel_rfl) (nameB (by kernel_rfl)) con4 dec4 (fun rs r0 h => ?_) (fun vs r0 h => ?_)
  · unfold dec4 at h
    split at h
    · cases h; rfl
    · cases h
  · simp only [con4] at h
    split at h
    · rename_i y0_0 y0_1 y1
      exact ⟨Nat.le_of_ble_eq_true (by kernel_rfl), F4 fuel, (t4 fuel ⟨y0_0, y0_1⟩ y1).trans h⟩
    · cases h
/-! ### f16 loop.example/wharfdesk/spec.l1In -/
noncomputable def X16 : Cx C := { K := KK, tk := lk tks, con := lkC [], conw := lkC [] }
def F16 (n : Nat) : Cf := { N := n, keep := [0, 1, 2, 6], live := lk [] }
def dec16 (rs : List (Bool × List (Lf C))) : Option (Bool) := match rs with
  | [(false, [.bool z0])] => some z0
  | _ => none
noncomputable def G16n (n : Nat) (a0 : Int) (a1 : Int) (a2 : Int) : Option (Bool) :=
      cond (decide (a0 ≥ a1))
      (some (decide (a0 ≤ a2)))
      (some (false))
theorem t16 (n : Nat) (a0 : Int) (a1 : Int) (a2 : Int) : runFn X16 (F16 n) Go.Proofs.Try.f16 [.one (.int .i64 a0), .one (.int .i64 a1), .one (.int .i64 a2)] dec16 = G16n n a0 a1 a2 := by
  kernel_rfl
noncomputable def G16 (a0 : Int) (a1 : Int) (a2 : Int) : Option (Bool) := G16n fuel a0 a1 a2
noncomputable def con16 : Con C := { R0 := Bool, ret := fun r => [(false, [.bool r])], g := fun vs => match vs with
  | [.one (.int .i64 y0), .one (.int .i64 y1), .one (.int .i64 y2)] => G16 y0 y1 y2
  | _ => none }
theorem x16 : XOk Go.Proofs.Try.prog X16 := ⟨tks_ok, els_ok⟩
theorem q16 : Cons Go.Proofs.Try.prog X16 := ⟨lkR_ok (l := []) trivial, lkW_ok (l := []) trivial⟩
theorem c16 : ConOk Go.Proofs.Try.prog KK 16 con16 := by
  refine con_dec x16 q16 (by kernel_rfl) (f := 16) (fn := Go.Proofs.Try.f16) (c := bodyOf Go.Proofs.Try.f16) (by kernel_rfl) (by kernel_rfl) (by kernel_rfl) (nameB (by kernel_rfl)) con16 dec16 (fun rs r0 h => ?_) (fun vs r0 h => ?_)
  · unfold dec16 at h
    split at h
    · cases h; rfl
    · cases h
  · simp only [con16] at h
    split at h
    · rename_i y0 y1 y2
      exact ⟨Nat.le_of_ble_eq_true (by kernel_rfl), F16 fuel, (t16 fuel y0 y1 y2).trans h⟩
    · cases h
/-! ### f71 loop.example/wharfdesk/spec.l1Byte -/
noncomputable def X71 : Cx C := { K := KK, tk := lk tks, con := lkC [], conw := lkC [] }
def F71 (n : Nat) : Cf := { N := n, keep := [0, 2], live := lk [] }
def dec71 (rs : List (Bool × List (Lf C))) : Option (Bool) := match rs with
  | [(false, [.bool z0])] => some z0
  | _ => none
noncomputable def G71n (n : Nat) (a0 : Int) : Option (Bool) :=
      cond (decide (a0 ≥ 97))
      (cond (decide (a0 ≤ 122))
      (some (true))
      (cond (decide (a0 ≥ 48))
      (cond (decide (a0 ≤ 57))
      (some (true))
      (some (a0 == 45)))
      (some (a0 == 45))))
      (cond (decide (a0 ≥ 48))
      (cond (decide (a0 ≤ 57))
      (some (true))
      (some (a0 == 45)))
      (some (a0 == 45)))
theorem t71 (n : Nat) (a0 : Int) : runFn X71 (F71 n) Go.Proofs.Try.f71 [.one (.int .u8 a0)] dec71 = G71n n a0 := by
  kernel_rfl
noncomputable def G71 (a0 : Int) : Option (Bool) := G71n fuel a0
noncomputable def con71 : Con C := { R0 := Bool, ret := fun r => [(false, [.bool r])], g := fun vs => match vs with
  | [.one (.int .u8 y0)] => G71 y0
  | _ => none }
theorem x71 : XOk Go.Proofs.Try.prog X71 := ⟨tks_ok, els_ok⟩
theorem q71 : Cons Go.Proofs.Try.prog X71 := ⟨lkR_ok (l := []) trivial, lkW_ok (l := []) trivial⟩
theorem c71 : ConOk Go.Proofs.Try.prog KK 71 con71 := by
  refine con_dec x71 q71 (by kernel_rfl) (f := 71) (fn := Go.Proofs.Try.f71) (c := bodyOf Go.Proofs.Try.f71) (by kernel_rfl) (by kernel_rfl) (by kernel_rfl) (nameB (by kernel_rfl)) con71 dec71 (fun rs r0 h => ?_) (fun vs r0 h => ?_)
  · unfold dec71 at h
    split at h
    · cases h; rfl
    · cases h
  · simp only [con71] at h
    split at h
    · rename_i y0
      exact ⟨Nat.le_of_ble_eq_true (by kernel_rfl), F71 fuel, (t71 fuel y0).trans h⟩
    · cases h
/-! ### f38 loop.example/wharfdesk/spec.l1NameOk -/
noncomputable def X38 : Cx C := { K := KK, tk := lk tks, con := lkC [(16, con16), (71, con71)], conw := lkC [] }
def F38 (n : Nat) : Cf := { N := n, keep := [0, 2, 3, 7, 11, 18], live := lk [(0, [0, 3])] }
def dec38 (rs : List (Bool × List (Lf C))) : Option (Bool) := match rs with
  | [(false, [.bool z0])] => some z0
  | _ => none
abbrev A38_0 : Type := ByteArray × Int
def s38_0 : A38_0 → St C := fun (x0_0, x0_1) => { env := [(0, .one (.str x0_0)), (3, .one (.int .i64 x0_1))], objs := [], base := 0 }
noncomputable def r38_0 (n : Nat)  (rec0 : A38_0 → Option (Bool)) : A38_0 → Option (Bool) := fun (x0_0, x0_1) =>
      cond (decide (x0_1 < (x0_0.size : Int)))
      (cond (decide (0 ≤ x0_1)) (cond (decide (x0_1 < (x0_0.size : Int))) (Option.bind (G71 (sbt x0_0 x0_1)) fun r2 =>
      cond (!r2)
      (some (false))
      (rec0 (x0_0, IntKind.i64.wrap (x0_1 + 1)))) none) none)
      (some (true))
noncomputable def LP38_0 (n : Nat)  (x : A38_0) : Option (Bool) := lpN (r38_0 n ) n x
noncomputable def MP38_0 (n : Nat)  (x : A38_0) : Option (Bool) := iter (fun rec S => run X38 (F38 n) (codeAt (bodyOf Go.Proofs.Try.f38) [1, 1, 0, 1, 0, 0]) 0 S (lopK rec (blkK 0 (seqK (run X38 (F38 n) (codeAt (bodyOf Go.Proofs.Try.f38) [1, 1, 1]) 0) (kTop X38 Go.Proofs.Try.f38 dec38))))) [0, 3] n (s38_0 x)
theorem m38_0 (n : Nat)  (x : A38_0) : MP38_0 n  x = LP38_0 n  x := by
  refine iter_eq s38_0 (r38_0 n ) (fun rec0 x => ?_) n x
  obtain ⟨x0_0, x0_1⟩ := x
  kernel_rfl
noncomputable def G38n (n : Nat) (a0 : ByteArray) : Option (Bool) :=
      Option.bind (G16 (a0.size : Int) 1 16) fun r1 =>
      cond (!r1)
      (some (false))
      (LP38_0 n  (a0, 0))
theorem t38 (n : Nat) (a0 : ByteArray) : runFn X38 (F38 n) Go.Proofs.Try.f38 [.one (.str a0)] dec38 = G38n n a0 := by
  have h : runFn X38 (F38 n) Go.Proofs.Try.f38 [.one (.str a0)] dec38 =
      Option.bind (G16 (a0.size : Int) 1 16) fun r1 =>
      cond (!r1)
      (some (false))
      (MP38_0 n  (a0, 0)) := by kernel_rfl
  simp only [h, G38n, m38_0]
noncomputable def G38 (a0 : ByteArray) : Option (Bool) := G38n fuel a0
noncomputable def con38 : Con C := { R0 := Bool, ret := fun r => [(false, [.bool r])], g := fun vs => match vs with
  | [.one (.str y0)] => G38 y0
  | _ => none }
theorem x38 : XOk Go.Proofs.Try.prog X38 := ⟨tks_ok, els_ok⟩
theorem q38 : Cons Go.Proofs.Try.prog X38 := ⟨lkR_ok (l := [(16, con16), (71, con71)]) ⟨c16, c71, trivial⟩, lkW_ok (l := []) trivial⟩
theorem c38 : ConOk Go.Proofs.Try.prog KK 38 con38 := by
  refine con_dec x38 q38 (by kernel_rfl) (f := 38) (fn := Go.Proofs.Try.f38) (c := bodyOf Go.Proofs.Try.f38) (by kernel_rfl) (by kernel_rfl) (by kernel_rfl) (nameB (by kernel_rfl)) con38 dec38 (fun rs r0 h => ?_) (fun vs r0 h => ?_)
  · unfold dec38 at h
    split at h
    · cases h; rfl
    · cases h
  · simp only [con38] at h
    split at h
    · rename_i y0
      exact ⟨Nat.le_of_ble_eq_true (by kernel_rfl), F38 fuel, (t38 fuel y0).trans h⟩
    · cases h
/-! ### f69 loop.example/wharfdesk/spec.l4Team -/
noncomputable def X69 : Cx C := { K := KK, tk := lk tks, con := lkC [], conw := lkC [] }
def F69 (n : Nat) : Cf := { N := n, keep := [0, 1, 4, 5, 9, 18], live := lk [(0, [0, 1, 5])] }
def dec69 (rs : List (Bool × List (Lf C))) : Option (Bool) := match rs with
  | [(false, [.bool z0])] => some z0
  | _ => none
abbrev A69_0 : Type := List (C .e86) × ByteArray × Int
def s69_0 : A69_0 → St C := fun (x0_0, x0_1, x0_2) => { env := [(0, .one (.row .e86 x0_0)), (1, .one (.str x0_1)), (5, .one (.int .i64 x0_2))], objs := [], base := 0 }
noncomputable def r69_0 (n : Nat)  (rec0 : A69_0 → Option (Bool)) : A69_0 → Option (Bool) := fun (x0_0, x0_1, x0_2) =>
      cond (decide (x0_2 < (x0_0.length : Int)))
      (cond (decide (0 ≤ x0_2)) (Option.bind x0_0[x0_2.toNat]? fun x1 => cond (decide (x1.Name = x0_1))
      (some (true))
      (rec0 (x0_0, x0_1, IntKind.i64.wrap (x0_2 + 1)))) none)
      (some (false))
noncomputable def LP69_0 (n : Nat)  (x : A69_0) : Option (Bool) := lpN (r69_0 n ) n x
noncomputable def MP69_0 (n : Nat)  (x : A69_0) : Option (Bool) := iter (fun rec S => run X69 (F69 n) (codeAt (bodyOf Go.Proofs.Try.f69) [1, 0, 1, 0, 0]) 0 S (lopK rec (blkK 0 (seqK (run X69 (F69 n) (codeAt (bodyOf Go.Proofs.Try.f69) [1, 1]) 0) (kTop X69 Go.Proofs.Try.f69 dec69))))) [0, 1, 5] n (s69_0 x)
theorem m69_0 (n : Nat)  (x : A69_0) : MP69_0 n  x = LP69_0 n  x := by
  refine iter_eq s69_0 (r69_0 n ) (fun rec0 x => ?_) n x
  obtain ⟨x0_0, x0_1, x0_2⟩ := x
  kernel_rfl
noncomputable def G69n (n : Nat) (a0 : List (C .e86)) (a1 : ByteArray) : Option (Bool) :=
      LP69_0 n  (a0, a1, 0)
theorem t69 (n : Nat) (a0 : List (C .e86)) (a1 : ByteArray) : runFn X69 (F69 n) Go.Proofs.Try.f69 [.one (.row .e86 a0), .one (.str a1)] dec69 = G69n n a0 a1 := by
  have h : runFn X69 (F69 n) Go.Proofs.Try.f69 [.one (.row .e86 a0), .one (.str a1)] dec69 =
      MP69_0 n  (a0, a1, 0) := by kernel_rfl
  simp only [h, G69n, m69_0]
noncomputable def G69 (a0 : List (C .e86)) (a1 : ByteArray) : Option (Bool) := G69n fuel a0 a1
noncomputable def con69 : Con C := { R0 := Bool, ret := fun r => [(false, [.bool r])], g := fun vs => match vs with
  | [.one (.row .e86 y0), .one (.str y1)] => G69 y0 y1
  | _ => none }
theorem x69 : XOk Go.Proofs.Try.prog X69 := ⟨tks_ok, els_ok⟩
theorem q69 : Cons Go.Proofs.Try.prog X69 := ⟨lkR_ok (l := []) trivial, lkW_ok (l := []) trivial⟩
theorem c69 : ConOk Go.Proofs.Try.prog KK 69 con69 := by
  refine con_dec x69 q69 (by kernel_rfl) (f := 69) (fn := Go.Proofs.Try.f69) (c := bodyOf Go.Proofs.Try.f69) (by kernel_rfl) (by kernel_rfl) (by kernel_rfl) (nameB (by kernel_rfl)) con69 dec69 (fun rs r0 h => ?_) (fun vs r0 h => ?_)
  · unfold dec69 at h
    split at h
    · cases h; rfl
    · cases h
  · simp only [con69] at h
    split at h
    · rename_i y0 y1
      exact ⟨Nat.le_of_ble_eq_true (by kernel_rfl), F69 fuel, (t69 fuel y0 y1).trans h⟩
    · cases h
/-! ### f70 loop.example/wharfdesk/spec.l4Over -/
noncomputable def X70 : Cx C := { K := KK, tk := lk tks, con := lkC [], conw := lkC [] }
def F70 (n : Nat) : Cf := { N := n, keep := [0, 1, 4, 5, 9, 18], live := lk [(0, [0, 1, 5])] }
def dec70 (rs : List (Bool × List (Lf C))) : Option (ByteArray) := match rs with
  | [(false, [.str z0])] => some z0
  | _ => none
abbrev A70_0 : Type := List (C .e86) × ByteArray × Int
def s70_0 : A70_0 → St C := fun (x0_0, x0_1, x0_2) => { env := [(0, .one (.row .e86 x0_0)), (1, .one (.str x0_1)), (5, .one (.int .i64 x0_2))], objs := [], base := 0 }
noncomputable def r70_0 (n : Nat)  (rec0 : A70_0 → Option (ByteArray)) : A70_0 → Option (ByteArray) := fun (x0_0, x0_1, x0_2) =>
      cond (decide (x0_2 < (x0_0.length : Int)))
      (cond (decide (0 ≤ x0_2)) (Option.bind x0_0[x0_2.toNat]? fun x1 => cond (decide (x1.Name = x0_1))
      (cond (decide (0 ≤ x0_2)) (Option.bind x0_0[x0_2.toNat]? fun x2 => some (x2.Over)) none)
      (rec0 (x0_0, x0_1, IntKind.i64.wrap (x0_2 + 1)))) none)
      (some ((⟨#[]⟩ : ByteArray)))
noncomputable def LP70_0 (n : Nat)  (x : A70_0) : Option (ByteArray) := lpN (r70_0 n ) n x
noncomputable def MP70_0 (n : Nat)  (x : A70_0) : Option (ByteArray) := iter (fun rec S => run X70 (F70 n) (codeAt (bodyOf Go.Proofs.Try.f70) [1, 0, 1, 0, 0]) 0 S (lopK rec (blkK 0 (seqK (run X70 (F70 n) (codeAt (bodyOf Go.Proofs.Try.f70) [1, 1]) 0) (kTop X70 Go.Proofs.Try.f70 dec70))))) [0, 1, 5] n (s70_0 x)
theorem m70_0 (n : Nat)  (x : A70_0) : MP70_0 n  x = LP70_0 n  x := by
  refine iter_eq s70_0 (r70_0 n ) (fun rec0 x => ?_) n x
  obtain ⟨x0_0, x0_1, x0_2⟩ := x
  kernel_rfl
noncomputable def G70n (n : Nat) (a0 : List (C .e86)) (a1 : ByteArray) : Option (ByteArray) :=
      LP70_0 n  (a0, a1, 0)
theorem t70 (n : Nat) (a0 : List (C .e86)) (a1 : ByteArray) : runFn X70 (F70 n) Go.Proofs.Try.f70 [.one (.row .e86 a0), .one (.str a1)] dec70 = G70n n a0 a1 := by
  have h : runFn X70 (F70 n) Go.Proofs.Try.f70 [.one (.row .e86 a0), .one (.str a1)] dec70 =
      MP70_0 n  (a0, a1, 0) := by kernel_rfl
  simp only [h, G70n, m70_0]
noncomputable def G70 (a0 : List (C .e86)) (a1 : ByteArray) : Option (ByteArray) := G70n fuel a0 a1
noncomputable def con70 : Con C := { R0 := ByteArray, ret := fun r => [(false, [.str r])], g := fun vs => match vs with
  | [.one (.row .e86 y0), .one (.str y1)] => G70 y0 y1
  | _ => none }
theorem x70 : XOk Go.Proofs.Try.prog X70 := ⟨tks_ok, els_ok⟩
theorem q70 : Cons Go.Proofs.Try.prog X70 := ⟨lkR_ok (l := []) trivial, lkW_ok (l := []) trivial⟩
theorem c70 : ConOk Go.Proofs.Try.prog KK 70 con70 := by
  refine con_dec x70 q70 (by kernel_rfl) (f := 70) (fn := Go.Proofs.Try.f70) (c := bodyOf Go.Proofs.Try.f70) (by kernel_rfl) (by kernel_rfl) (by kernel_rfl) (nameB (by kernel_rfl)) con70 dec70 (fun rs r0 h => ?_) (fun vs r0 h => ?_)
  · unfold dec70 at h
    split at h
    · cases h; rfl
    · cases h
  · simp only [con70] at h
    split at h
    · rename_i y0 y1
      exact ⟨Nat.le_of_ble_eq_true (by kernel_rfl), F70 fuel, (t70 fuel y0 y1).trans h⟩
    · cases h
/-! ### f37 loop.example/wharfdesk/spec.GateTeamsOk -/
noncomputable def X37 : Cx C := { K := KK, tk := lk tks, con := lkC [(38, con38), (69, con69), (70, con70)], conw := lkC [] }
def F37 (n : Nat) : Cf := { N := n, keep := [0, 2, 3, 4, 5, 6, 9, 13, 50, 58, 65], live := lk [(2, [0, 3, 5, 6]), (0, [0, 3])] }
def dec37 (rs : List (Bool × List (Lf C))) : Option (Bool) := match rs with
  | [(false, [.bool z0])] => some z0
  | _ => none
abbrev A37_1 : Type := List (C .e86) × Int × ByteArray × Int
def s37_1 : A37_1 → St C := fun (x1_0, x1_1, x1_2, x1_3) => { env := [(0, .one (.row .e86 x1_0)), (3, .one (.int .i64 x1_1)), (5, .one (.str x1_2)), (6, .one (.int .i64 x1_3))], objs := [], base := 0 }
abbrev A37_0 : Type := List (C .e86) × Int
def s37_0 : A37_0 → St C := fun (x0_0, x0_1) => { env := [(0, .one (.row .e86 x0_0)), (3, .one (.int .i64 x0_1))], objs := [], base := 0 }
noncomputable def r37_1 (n : Nat) (rec0 : A37_0 → Option (Bool)) (rec1 : A37_1 → Option (Bool)) : A37_1 → Option (Bool) := fun (x1_0, x1_1, x1_2, x1_3) =>
      cond (decide (x1_3 ≤ 4))
      (cond (!decide (x1_2 = (⟨#[]⟩ : ByteArray)))
      (Option.bind (G70 x1_0 x1_2) fun r5 =>
      rec1 (x1_0, x1_1, r5, IntKind.i64.wrap (x1_3 + 1)))
      (cond (!decide (x1_2 = (⟨#[]⟩ : ByteArray)))
      (some (false))
      (rec0 (x1_0, IntKind.i64.wrap (x1_1 + 1)))))
      (cond (!decide (x1_2 = (⟨#[]⟩ : ByteArray)))
      (some (false))
      (rec0 (x1_0, IntKind.i64.wrap (x1_1 + 1))))
noncomputable def LP37_1 (n : Nat) (rec0 : A37_0 → Option (Bool)) (x : A37_1) : Option (Bool) := lpN (r37_1 n rec0) n x
noncomputable def MP37_1 (n : Nat) (rec0 : St C → Option (Bool)) (x : A37_1) : Option (Bool) := iter (fun rec S => run X37 (F37 n) (codeAt (bodyOf Go.Proofs.Try.f37) [1, 1, 0, 1, 0, 0, 1, 0, 0, 1, 1, 1, 0, 1, 0, 0]) 2 S (lopK rec (blkK 2 (seqK (run X37 (F37 n) (codeAt (bodyOf Go.Proofs.Try.f37) [1, 1, 0, 1, 0, 0, 1, 0, 0, 1, 1, 1, 1]) 1) (blkK 1 (seqK (run X37 (F37 n) (codeAt (bodyOf Go.Proofs.Try.f37) [1, 1, 0, 1, 0, 0, 1, 1]) 0) (lopK (canThen [0, 3] rec0) (blkK 0 (seqK (run X37 (F37 n) (codeAt (bodyOf Go.Proofs.Try.f37) [1, 1, 1]) 0) (kTop X37 Go.Proofs.Try.f37 dec37)))))))))) [0, 3, 5, 6] n (s37_1 x)
theorem m37_1 (n : Nat) (rec0 : St C → Option (Bool)) (x : A37_1) : MP37_1 n rec0 x = LP37_1 n (fun x => rec0 (s37_0 x)) x := by
  refine iter_eq s37_1 (r37_1 n (fun x => rec0 (s37_0 x))) (fun rec1 x => ?_) n x
  obtain ⟨x1_0, x1_1, x1_2, x1_3⟩ := x
  kernel_rfl
noncomputable def r37_0 (n : Nat)  (rec0 : A37_0 → Option (Bool)) : A37_0 → Option (Bool) := fun (x0_0, x0_1) =>
      cond (decide (x0_1 < (x0_0.length : Int)))
      (cond (decide (0 ≤ x0_1)) (Option.bind x0_0[x0_1.toNat]? fun x1 => Option.bind (G38 x1.Name) fun r2 =>
      cond (!r2)
      (some (false))
      (cond (decide (x0_1 > 0))
      (cond (decide (0 ≤ IntKind.i64.wrap (x0_1 - 1))) (Option.bind x0_0[(IntKind.i64.wrap (x0_1 - 1)).toNat]? fun x3 => cond (!slt x3.Name x1.Name)
      (some (false))
      (cond (!decide (x1.Over = (⟨#[]⟩ : ByteArray)))
      (Option.bind (G69 x0_0 x1.Over) fun r4 =>
      cond (!r4)
      (some (false))
      (LP37_1 n rec0 (x0_0, x0_1, x1.Name, 0)))
      (LP37_1 n rec0 (x0_0, x0_1, x1.Name, 0)))) none)
      (cond (!decide (x1.Over = (⟨#[]⟩ : ByteArray)))
      (Option.bind (G69 x0_0 x1.Over) fun r6 =>
      cond (!r6)
      (some (false))
      (LP37_1 n rec0 (x0_0, x0_1, x1.Name, 0)))
      (LP37_1 n rec0 (x0_0, x0_1, x1.Name, 0))))) none)
      (some (true))
noncomputable def LP37_0 (n : Nat)  (x : A37_0) : Option (Bool) := lpN (r37_0 n ) n x
noncomputable def MP37_0 (n : Nat)  (x : A37_0) : Option (Bool) := iter (fun rec S => run X37 (F37 n) (codeAt (bodyOf Go.Proofs.Try.f37) [1, 1, 0, 1, 0, 0]) 0 S (lopK rec (blkK 0 (seqK (run X37 (F37 n) (codeAt (bodyOf Go.Proofs.Try.f37) [1, 1, 1]) 0) (kTop X37 Go.Proofs.Try.f37 dec37))))) [0, 3] n (s37_0 x)
theorem m37_0 (n : Nat)  (x : A37_0) : MP37_0 n  x = LP37_0 n  x := by
  refine iter_eq s37_0 (r37_0 n ) (fun rec0 x => ?_) n x
  obtain ⟨x0_0, x0_1⟩ := x
  have h : run X37 (F37 n) (codeAt (bodyOf Go.Proofs.Try.f37) [1, 1, 0, 1, 0, 0]) 0 (s37_0 (x0_0, x0_1)) (lopK (canThen [0, 3] rec0) (blkK 0 (seqK (run X37 (F37 n) (codeAt (bodyOf Go.Proofs.Try.f37) [1, 1, 1]) 0) (kTop X37 Go.Proofs.Try.f37 dec37)))) =
      cond (decide (x0_1 < (x0_0.length : Int)))
      (cond (decide (0 ≤ x0_1)) (Option.bind x0_0[x0_1.toNat]? fun x1 => Option.bind (G38 x1.Name) fun r2 =>
      cond (!r2)
      (some (false))
      (cond (decide (x0_1 > 0))
      (cond (decide (0 ≤ IntKind.i64.wrap (x0_1 - 1))) (Option.bind x0_0[(IntKind.i64.wrap (x0_1 - 1)).toNat]? fun x3 => cond (!slt x3.Name x1.Name)
      (some (false))
      (cond (!decide (x1.Over = (⟨#[]⟩ : ByteArray)))
      (Option.bind (G69 x0_0 x1.Over) fun r4 =>
      cond (!r4)
      (some (false))
      (MP37_1 n rec0 (x0_0, x0_1, x1.Name, 0)))
      (MP37_1 n rec0 (x0_0, x0_1, x1.Name, 0)))) none)
      (cond (!decide (x1.Over = (⟨#[]⟩ : ByteArray)))
      (Option.bind (G69 x0_0 x1.Over) fun r6 =>
      cond (!r6)
      (some (false))
      (MP37_1 n rec0 (x0_0, x0_1, x1.Name, 0)))
      (MP37_1 n rec0 (x0_0, x0_1, x1.Name, 0))))) none)
      (some (true)) := by kernel_rfl
  simp only [m37_1] at h
  exact h
noncomputable def G37n (n : Nat) (a0 : List (C .e86)) : Option (Bool) :=
      cond (decide ((a0.length : Int) > 12))
      (some (false))
      (LP37_0 n  (a0, 0))
theorem t37 (n : Nat) (a0 : List (C .e86)) : runFn X37 (F37 n) Go.Proofs.Try.f37 [.one (.row .e86 a0)] dec37 = G37n n a0 := by
  have h : runFn X37 (F37 n) Go.Proofs.Try.f37 [.one (.row .e86 a0)] dec37 =
      cond (decide ((a0.length : Int) > 12))
      (some (false))
      (MP37_0 n  (a0, 0)) := by kernel_rfl
  simp only [h, G37n, m37_0]
noncomputable def G37 (a0 : List (C .e86)) : Option (Bool) := G37n fuel a0
noncomputable def con37 : Con C := { R0 := Bool, ret := fun r => [(false, [.bool r])], g := fun vs => match vs with
  | [.one (.row .e86 y0)] => G37 y0
  | _ => none }
theorem x37 : XOk Go.Proofs.Try.prog X37 := ⟨tks_ok, els_ok⟩
theorem q37 : Cons Go.Proofs.Try.prog X37 := ⟨lkR_ok (l := [(38, con38), (69, con69), (70, con70)]) ⟨c38, c69, c70, trivial⟩, lkW_ok (l := []) trivial⟩
theorem c37 : ConOk Go.Proofs.Try.prog KK 37 con37 := by
  refine con_dec x37 q37 (by kernel_rfl) (f := 37) (fn := Go.Proofs.Try.f37) (c := bodyOf Go.Proofs.Try.f37) (by kernel_rfl) (by kernel_rfl) (by kernel_rfl) (nameB (by kernel_rfl)) con37 dec37 (fun rs r0 h => ?_) (fun vs r0 h => ?_)
  · unfold dec37 at h
    split at h
    · cases h; rfl
    · cases h
  · simp only [con37] at h
    split at h
    · rename_i y0
      exact ⟨Nat.le_of_ble_eq_true (by kernel_rfl), F37 fuel, (t37 fuel y0).trans h⟩
    · cases h
/-! ### f39 loop.example/wharfdesk/spec.l4RuleOk -/
noncomputable def X39 : Cx C := { K := KK, tk := lk tks, con := lkC [(16, con16), (38, con38), (71, con71)], conw := lkC [] }
def F39 (n : Nat) : Cf := { N := n, keep := [0, 1, 2, 3, 4, 36, 41, 68, 73, 81], live := lk [(2, [1, 4]), (0, [1, 3])] }
def dec39 (rs : List (Bool × List (Lf C))) : Option (Bool) := match rs with
  | [(false, [.bool z0])] => some z0
  | _ => none
abbrev A39_1 : Type := List (C .e3) × ByteArray × ByteArray × ByteArray × Int
def s39_1 : A39_1 → St C := fun (x1_0, x1_1, x1_2, x1_3, x1_4) => { env := [(1, .one (.ptr 64 0)), (4, .one (.int .i64 x1_4))], objs := [(64, .box [.row .e3 x1_0, .str x1_1, .str x1_2, .str x1_3])], base := 0 }
abbrev A39_0 : Type := List (C .e3) × ByteArray × ByteArray × ByteArray × Int
def s39_0 : A39_0 → St C := fun (x0_0, x0_1, x0_2, x0_3, x0_4) => { env := [(1, .one (.ptr 64 0)), (3, .one (.int .i64 x0_4))], objs := [(64, .box [.row .e3 x0_0, .str x0_1, .str x0_2, .str x0_3])], base := 0 }
noncomputable def r39_1 (n : Nat)  (rec1 : A39_1 → Option (Bool)) : A39_1 → Option (Bool) := fun (x1_0, x1_1, x1_2, x1_3, x1_4) =>
      cond (decide (x1_4 < (x1_3.size : Int)))
      (cond (decide (0 ≤ x1_4)) (cond (decide (x1_4 < (x1_3.size : Int))) (Option.bind (G71 (sbt x1_3 x1_4)) fun r7 =>
      cond (!r7)
      (some (false))
      (rec1 (x1_0, x1_1, x1_2, x1_3, IntKind.i64.wrap (x1_4 + 1)))) none) none)
      (some (true))
noncomputable def LP39_1 (n : Nat)  (x : A39_1) : Option (Bool) := lpN (r39_1 n ) n x
noncomputable def MP39_1 (n : Nat)  (x : A39_1) : Option (Bool) := iter (fun rec S => run X39 (F39 n) (codeAt (bodyOf Go.Proofs.Try.f39) [1, 1, 1, 0, 1, 0, 0]) 2 S (lopK rec (blkK 2 (seqK (run X39 (F39 n) (codeAt (bodyOf Go.Proofs.Try.f39) [1, 1, 1, 1]) 0) (kTop X39 Go.Proofs.Try.f39 dec39))))) [1, 4] n (s39_1 x)
theorem m39_1 (n : Nat)  (x : A39_1) : MP39_1 n  x = LP39_1 n  x := by
  refine iter_eq s39_1 (r39_1 n ) (fun rec1 x => ?_) n x
  obtain ⟨x1_0, x1_1, x1_2, x1_3, x1_4⟩ := x
  kernel_rfl
noncomputable def r39_0 (n : Nat)  (rec0 : A39_0 → Option (Bool)) : A39_0 → Option (Bool) := fun (x0_0, x0_1, x0_2, x0_3, x0_4) =>
      cond (decide (x0_4 < (x0_0.length : Int)))
      (cond (decide (0 ≤ x0_4)) (Option.bind x0_0[x0_4.toNat]? fun x3 => Option.bind (G16 x3 1 5) fun r4 =>
      cond (!r4)
      (some (false))
      (cond (decide (x0_4 > 0))
      (cond (decide (0 ≤ IntKind.i64.wrap (x0_4 - 1))) (Option.bind x0_0[(IntKind.i64.wrap (x0_4 - 1)).toNat]? fun x5 => cond (decide (0 ≤ x0_4)) (Option.bind x0_0[x0_4.toNat]? fun x6 => cond (decide (x5 ≥ x6))
      (some (false))
      (rec0 (x0_0, x0_1, x0_2, x0_3, IntKind.i64.wrap (x0_4 + 1)))) none) none)
      (rec0 (x0_0, x0_1, x0_2, x0_3, IntKind.i64.wrap (x0_4 + 1))))) none)
      (LP39_1 n  (x0_0, x0_1, x0_2, x0_3, 0))
noncomputable def LP39_0 (n : Nat)  (x : A39_0) : Option (Bool) := lpN (r39_0 n ) n x
noncomputable def MP39_0 (n : Nat)  (x : A39_0) : Option (Bool) := iter (fun rec S => run X39 (F39 n) (codeAt (bodyOf Go.Proofs.Try.f39) [1, 1, 0, 1, 0, 0]) 0 S (lopK rec (blkK 0 (seqK (run X39 (F39 n) (codeAt (bodyOf Go.Proofs.Try.f39) [1, 1, 1]) 0) (kTop X39 Go.Proofs.Try.f39 dec39))))) [1, 3] n (s39_0 x)
theorem m39_0 (n : Nat)  (x : A39_0) : MP39_0 n  x = LP39_0 n  x := by
  refine iter_eq s39_0 (r39_0 n ) (fun rec0 x => ?_) n x
  obtain ⟨x0_0, x0_1, x0_2, x0_3, x0_4⟩ := x
  have h : run X39 (F39 n) (codeAt (bodyOf Go.Proofs.Try.f39) [1, 1, 0, 1, 0, 0]) 0 (s39_0 (x0_0, x0_1, x0_2, x0_3, x0_4)) (lopK (canThen [1, 3] rec0) (blkK 0 (seqK (run X39 (F39 n) (codeAt (bodyOf Go.Proofs.Try.f39) [1, 1, 1]) 0) (kTop X39 Go.Proofs.Try.f39 dec39)))) =
      cond (decide (x0_4 < (x0_0.length : Int)))
      (cond (decide (0 ≤ x0_4)) (Option.bind x0_0[x0_4.toNat]? fun x3 => Option.bind (G16 x3 1 5) fun r4 =>
      cond (!r4)
      (some (false))
      (cond (decide (x0_4 > 0))
      (cond (decide (0 ≤ IntKind.i64.wrap (x0_4 - 1))) (Option.bind x0_0[(IntKind.i64.wrap (x0_4 - 1)).toNat]? fun x5 => cond (decide (0 ≤ x0_4)) (Option.bind x0_0[x0_4.toNat]? fun x6 => cond (decide (x5 ≥ x6))
      (some (false))
      ((fun x => rec0 (s39_0 x)) (x0_0, x0_1, x0_2, x0_3, IntKind.i64.wrap (x0_4 + 1)))) none) none)
      ((fun x => rec0 (s39_0 x)) (x0_0, x0_1, x0_2, x0_3, IntKind.i64.wrap (x0_4 + 1))))) none)
      (MP39_1 n  (x0_0, x0_1, x0_2, x0_3, 0)) := by kernel_rfl
  simp only [m39_1] at h
  exact h
noncomputable def G39n (n : Nat) (a0 : VGateRule) : Option (Bool) :=
      cond ((a0.Verbs.length : Int) == 0)
      (some (false))
      (cond (decide ((a0.Prefix.size : Int) > 16))
      (some (false))
      (cond (!decide (a0.Kind = (⟨#[]⟩ : ByteArray)))
      (Option.bind (G38 a0.Kind) fun r1 =>
      cond (!r1)
      (some (false))
      (cond (!decide (a0.Team = (⟨#[]⟩ : ByteArray)))
      (Option.bind (G38 a0.Team) fun r2 =>
      cond (!r2)
      (some (false))
      (LP39_0 n  (a0.Verbs, a0.Kind, a0.Team, a0.Prefix, 0)))
      (LP39_0 n  (a0.Verbs, a0.Kind, a0.Team, a0.Prefix, 0))))
      (cond (!decide (a0.Team = (⟨#[]⟩ : ByteArray)))
      (Option.bind (G38 a0.Team) fun r8 =>
      cond (!r8)
      (some (false))
      (LP39_0 n  (a0.Verbs, a0.Kind, a0.Team, a0.Prefix, 0)))
      (LP39_0 n  (a0.Verbs, a0.Kind, a0.Team, a0.Prefix, 0)))))
theorem t39 (n : Nat) (a0 : VGateRule) : runFn X39 (F39 n) Go.Proofs.Try.f39 [.agg [.row .e3 a0.Verbs, .str a0.Kind, .str a0.Team, .str a0.Prefix]] dec39 = G39n n a0 := by
  have h : runFn X39 (F39 n) Go.Proofs.Try.f39 [.agg [.row .e3 a0.Verbs, .str a0.Kind, .str a0.Team, .str a0.Prefix]] dec39 =
      cond ((a0.Verbs.length : Int) == 0)
      (some (false))
      (cond (decide ((a0.Prefix.size : Int) > 16))
      (some (false))
      (cond (!decide (a0.Kind = (⟨#[]⟩ : ByteArray)))
      (Option.bind (G38 a0.Kind) fun r1 =>
      cond (!r1)
      (some (false))
      (cond (!decide (a0.Team = (⟨#[]⟩ : ByteArray)))
      (Option.bind (G38 a0.Team) fun r2 =>
      cond (!r2)
      (some (false))
      (MP39_0 n  (a0.Verbs, a0.Kind, a0.Team, a0.Prefix, 0)))
      (MP39_0 n  (a0.Verbs, a0.Kind, a0.Team, a0.Prefix, 0))))
      (cond (!decide (a0.Team = (⟨#[]⟩ : ByteArray)))
      (Option.bind (G38 a0.Team) fun r8 =>
      cond (!r8)
      (some (false))
      (MP39_0 n  (a0.Verbs, a0.Kind, a0.Team, a0.Prefix, 0)))
      (MP39_0 n  (a0.Verbs, a0.Kind, a0.Team, a0.Prefix, 0))))) := by kernel_rfl
  simp only [h, G39n, m39_0]
noncomputable def G39 (a0 : VGateRule) : Option (Bool) := G39n fuel a0
noncomputable def con39 : Con C := { R0 := Bool, ret := fun r => [(false, [.bool r])], g := fun vs => match vs with
  | [.agg [.row .e3 y0_0, .str y0_1, .str y0_2, .str y0_3]] => G39 ⟨y0_0, y0_1, y0_2, y0_3⟩
  | _ => none }
theorem x39 : XOk Go.Proofs.Try.prog X39 := ⟨tks_ok, els_ok⟩
theorem q39 : Cons Go.Proofs.Try.prog X39 := ⟨lkR_ok (l := [(16, con16), (38, con38), (71, con71)]) ⟨c16, c38, c71, trivial⟩, lkW_ok (l := []) trivial⟩
theorem c39 : ConOk Go.Proofs.Try.prog KK 39 con39 := by
  refine con_dec x39 q39 (by kernel_rfl) (f := 39) (fn := Go.Proofs.Try.f39) (c := bodyOf Go.Proofs.Try.f39) (by kernel_rfl) (by kernel_rfl) (by kernel_rfl) (nameB (by kernel_rfl)) con39 dec39 (fun rs r0 h => ?_) (fun vs r0 h => ?_)
  · unfold dec39 at h
    split at h
    · cases h; rfl
    · cases h
  · simp only [con39] at h
    split at h
    · rename_i y0_0 y0_1 y0_2 y0_3
      exact ⟨Nat.le_of_ble_eq_true (by kernel_rfl), F39 fuel, (t39 fuel ⟨y0_0, y0_1, y0_2, y0_3⟩).trans h⟩
    · cases h
/-! ### f15 loop.example/wharfdesk/spec.HallHouseOk -/
noncomputable def X15 : Cx C := { K := KK, tk := lk tks, con := lkC [(37, con37), (38, con38), (39, con39)], conw := lkC [] }
def F15 (n : Nat) : Cf := { N := n, keep := [0, 1, 2, 3, 4, 14, 19, 48], live := lk [(0, [1, 3])] }
def dec15 (rs : List (Bool × List (Lf C))) : Option (Bool) := match rs with
  | [(false, [.bool z0])] => some z0
  | _ => none
abbrev A15_0 : Type := List (C .e86) × List (C .e74) × Int
def s15_0 : A15_0 → St C := fun (x0_0, x0_1, x0_2) => { env := [(1, .one (.ptr 64 0)), (3, .one (.int .i64 x0_2))], objs := [(64, .box [.row .e86 x0_0, .row .e74 x0_1])], base := 0 }
noncomputable def r15_0 (n : Nat)  (rec0 : A15_0 → Option (Bool)) : A15_0 → Option (Bool) := fun (x0_0, x0_1, x0_2) =>
      cond (decide (x0_2 < (x0_1.length : Int)))
      (cond (decide (0 ≤ x0_2)) (Option.bind x0_1[x0_2.toNat]? fun x2 => cond (x2.Number != (IntKind.i64.wrap (x0_2 + 1)))
      (some (false))
      (Option.bind (G38 x2.To) fun r3 =>
      cond (!r3)
      (some (false))
      (cond (!decide (x2.By = (⟨#[]⟩ : ByteArray)))
      (some (false))
      (Option.bind (G39 (⟨x2.Rule_Verbs, x2.Rule_Kind, x2.Rule_Team, x2.Rule_Prefix⟩ : VGateRule)) fun r4 =>
      cond (!r4)
      (some (false))
      (rec0 (x0_0, x0_1, IntKind.i64.wrap (x0_2 + 1))))))) none)
      (some (true))
noncomputable def LP15_0 (n : Nat)  (x : A15_0) : Option (Bool) := lpN (r15_0 n ) n x
noncomputable def MP15_0 (n : Nat)  (x : A15_0) : Option (Bool) := iter (fun rec S => run X15 (F15 n) (codeAt (bodyOf Go.Proofs.Try.f15) [1, 1, 0, 1, 0, 0]) 0 S (lopK rec (blkK 0 (seqK (run X15 (F15 n) (codeAt (bodyOf Go.Proofs.Try.f15) [1, 1, 1]) 0) (kTop X15 Go.Proofs.Try.f15 dec15))))) [1, 3] n (s15_0 x)
theorem m15_0 (n : Nat)  (x : A15_0) : MP15_0 n  x = LP15_0 n  x := by
  refine iter_eq s15_0 (r15_0 n ) (fun rec0 x => ?_) n x
  obtain ⟨x0_0, x0_1, x0_2⟩ := x
  kernel_rfl
noncomputable def G15n (n : Nat) (a0 : VHallHouse) : Option (Bool) :=
      Option.bind (G37 a0.Teams) fun r1 =>
      cond (!r1)
      (some (false))
      (cond (decide ((a0.Grants.length : Int) > 24))
      (some (false))
      (LP15_0 n  (a0.Teams, a0.Grants, 0)))
theorem t15 (n : Nat) (a0 : VHallHouse) : runFn X15 (F15 n) Go.Proofs.Try.f15 [.agg [.row .e86 a0.Teams, .row .e74 a0.Grants]] dec15 = G15n n a0 := by
  have h : runFn X15 (F15 n) Go.Proofs.Try.f15 [.agg [.row .e86 a0.Teams, .row .e74 a0.Grants]] dec15 =
      Option.bind (G37 a0.Teams) fun r1 =>
      cond (!r1)
      (some (false))
      (cond (decide ((a0.Grants.length : Int) > 24))
      (some (false))
      (MP15_0 n  (a0.Teams, a0.Grants, 0))) := by kernel_rfl
  simp only [h, G15n, m15_0]
noncomputable def G15 (a0 : VHallHouse) : Option (Bool) := G15n fuel a0
noncomputable def con15 : Con C := { R0 := Bool, ret := fun r => [(false, [.bool r])], g := fun vs => match vs with
  | [.agg [.row .e86 y0_0, .row .e74 y0_1]] => G15 ⟨y0_0, y0_1⟩
  | _ => none }
theorem x15 : XOk Go.Proofs.Try.prog X15 := ⟨tks_ok, els_ok⟩
theorem q15 : Cons Go.Proofs.Try.prog X15 := ⟨lkR_ok (l := [(37, con37), (38, con38), (39, con39)]) ⟨c37, c38, c39, trivial⟩, lkW_ok (l := []) trivial⟩
theorem c15 : ConOk Go.Proofs.Try.prog KK 15 con15 := by
  refine con_dec x15 q15 (by kernel_rfl) (f := 15) (fn := Go.Proofs.Try.f15) (c := bodyOf Go.Proofs.Try.f15) (by kernel_rfl) (by kernel_rfl) (by kernel_rfl) (nameB (by kernel_rfl)) con15 dec15 (fun rs r0 h => ?_) (fun vs r0 h => ?_)
  · unfold dec15 at h
    split at h
    · cases h; rfl
    · cases h
  · simp only [con15] at h
    split at h
    · rename_i y0_0 y0_1
      exact ⟨Nat.le_of_ble_eq_true (by kernel_rfl), F15 fuel, (t15 fuel ⟨y0_0, y0_1⟩).trans h⟩
    · cases h
/-! ### f40 loop.example/wharfdesk/spec.l5Rule -/
noncomputable def X40 : Cx C := { K := KK, tk := lk tks, con := lkC [], conw := lkC [] }
def F40 (n : Nat) : Cf := { N := n, keep := [0, 1, 2], live := lk [] }
def dec40 (rs : List (Bool × List (Lf C))) : Option (VGateRule) := match rs with
  | [(true, [.row .e3 z0, .str z1, .str z2, .str z3])] => some ⟨z0, z1, z2, z3⟩
  | _ => none
noncomputable def G40n (n : Nat) (a0 : VGateRule) : Option (VGateRule) :=
      cond (decide (((([] : List (C .e3))).length + a0.Verbs.length) * 8 ≤ 140737488355328)) (some ((⟨(([] : List (C .e3))) ++ a0.Verbs, a0.Kind, a0.Team, a0.Prefix⟩ : VGateRule))) none
theorem t40 (n : Nat) (a0 : VGateRule) : runFn X40 (F40 n) Go.Proofs.Try.f40 [.agg [.row .e3 a0.Verbs, .str a0.Kind, .str a0.Team, .str a0.Prefix]] dec40 = G40n n a0 := by
  kernel_rfl
noncomputable def G40 (a0 : VGateRule) : Option (VGateRule) := G40n fuel a0
noncomputable def con40 : Con C := { R0 := VGateRule, ret := fun r => [(true, [.row .e3 r.Verbs, .str r.Kind, .str r.Team, .str r.Prefix])], g := fun vs => match vs with
  | [.agg [.row .e3 y0_0, .str y0_1, .str y0_2, .str y0_3]] => G40 ⟨y0_0, y0_1, y0_2, y0_3⟩
  | _ => none }
theorem x40 : XOk Go.Proofs.Try.prog X40 := ⟨tks_ok, els_ok⟩
theorem q40 : Cons Go.Proofs.Try.prog X40 := ⟨lkR_ok (l := []) trivial, lkW_ok (l := []) trivial⟩
theorem c40 : ConOk Go.Proofs.Try.prog KK 40 con40 := by
  refine con_dec x40 q40 (by kernel_rfl) (f := 40) (fn := Go.Proofs.Try.f40) (c := bodyOf Go.Proofs.Try.f40) (by kernel_rfl) (by kernel_rfl) (by kernel_rfl) (nameB (by kernel_rfl)) con40 dec40 (fun rs r0 h => ?_) (fun vs r0 h => ?_)
  · unfold dec40 at h
    split at h
    · cases h; rfl
    · cases h
  · simp only [con40] at h
    split at h
    · rename_i y0_0 y0_1 y0_2 y0_3
      exact ⟨Nat.le_of_ble_eq_true (by kernel_rfl), F40 fuel, (t40 fuel ⟨y0_0, y0_1, y0_2, y0_3⟩).trans h⟩
    · cases h
/-! ### f17 loop.example/wharfdesk/spec.l34House -/
noncomputable def X17 : Cx C := { K := KK, tk := lk tks, con := lkC [(40, con40)], conw := lkC [] }
def F17 (n : Nat) : Cf := { N := n, keep := [0, 1, 2, 3, 4, 5, 15], live := lk [(0, [1, 2, 3, 4])] }
def dec17 (rs : List (Bool × List (Lf C))) : Option (VHallHouse) := match rs with
  | [(true, [.row .e86 z0, .row .e74 z1])] => some ⟨z0, z1⟩
  | _ => none
abbrev A17_0 : Type := List (C .e86) × List (C .e74) × List (C .e86) × List (C .e74) × List (C .e86) × List (C .e74) × Int
def s17_0 : A17_0 → St C := fun (x0_0, x0_1, x0_2, x0_3, x0_4, x0_5, x0_6) => { env := [(1, .one (.ptr 64 0)), (2, .one (.ptr 128 0)), (3, .one (.ptr 192 0)), (4, .one (.int .i64 x0_6))], objs := [(64, .box [.row .e86 x0_0, .row .e74 x0_1]), (128, .box [.ref 1012800 [], .ref 1012801 []]), (1012800, .row .e86 x0_2 false), (1012801, .row .e74 x0_3 false), (192, .box [.ref 1019200 [], .ref 1019201 []]), (1019200, .row .e86 x0_4 false), (1019201, .row .e74 x0_5 false)], base := 0 }
noncomputable def r17_0 (n : Nat)  (rec0 : A17_0 → Option (VHallHouse)) : A17_0 → Option (VHallHouse) := fun (x0_0, x0_1, x0_2, x0_3, x0_4, x0_5, x0_6) =>
      cond (decide (x0_6 < (x0_1.length : Int)))
      (cond (decide (0 ≤ x0_6)) (Option.bind x0_1[x0_6.toNat]? fun x1 => Option.bind (G40 (⟨x1.Rule_Verbs, x1.Rule_Kind, x1.Rule_Team, x1.Rule_Prefix⟩ : VGateRule)) fun r2 =>
      cond (decide ((x0_5.length + (([(⟨x1.Number, x1.To, x1.By, r2.Verbs, r2.Kind, r2.Team, r2.Prefix⟩ : VGateGrant)] : List (C .e74))).length) * 112 ≤ 140737488355328)) (rec0 (x0_0, x0_1, x0_2, x0_3, x0_4, x0_5 ++ (([(⟨x1.Number, x1.To, x1.By, r2.Verbs, r2.Kind, r2.Team, r2.Prefix⟩ : VGateGrant)] : List (C .e74))), IntKind.i64.wrap (x0_6 + 1))) none) none)
      (some ((⟨x0_4, x0_5⟩ : VHallHouse)))
noncomputable def LP17_0 (n : Nat)  (x : A17_0) : Option (VHallHouse) := lpN (r17_0 n ) n x
noncomputable def MP17_0 (n : Nat)  (x : A17_0) : Option (VHallHouse) := iter (fun rec S => run X17 (F17 n) (codeAt (bodyOf Go.Proofs.Try.f17) [1, 1, 0, 1, 0, 0]) 0 S (lopK rec (blkK 0 (seqK (run X17 (F17 n) (codeAt (bodyOf Go.Proofs.Try.f17) [1, 1, 1]) 0) (kTop X17 Go.Proofs.Try.f17 dec17))))) [1, 2, 3, 4] n (s17_0 x)
theorem m17_0 (n : Nat)  (x : A17_0) : MP17_0 n  x = LP17_0 n  x := by
  refine iter_eq s17_0 (r17_0 n ) (fun rec0 x => ?_) n x
  obtain ⟨x0_0, x0_1, x0_2, x0_3, x0_4, x0_5, x0_6⟩ := x
  kernel_rfl
noncomputable def G17n (n : Nat) (a0 : VHallHouse) : Option (VHallHouse) :=
      cond (decide (((([] : List (C .e86))).length + a0.Teams.length) * 32 ≤ 140737488355328)) (LP17_0 n  (a0.Teams, a0.Grants, ([] : List (C .e86)), ([] : List (C .e74)), (([] : List (C .e86))) ++ a0.Teams, ([] : List (C .e74)), 0)) none
theorem t17 (n : Nat) (a0 : VHallHouse) : runFn X17 (F17 n) Go.Proofs.Try.f17 [.agg [.row .e86 a0.Teams, .row .e74 a0.Grants]] dec17 = G17n n a0 := by
  have h : runFn X17 (F17 n) Go.Proofs.Try.f17 [.agg [.row .e86 a0.Teams, .row .e74 a0.Grants]] dec17 =
      cond (decide (((([] : List (C .e86))).length + a0.Teams.length) * 32 ≤ 140737488355328)) (MP17_0 n  (a0.Teams, a0.Grants, ([] : List (C .e86)), ([] : List (C .e74)), (([] : List (C .e86))) ++ a0.Teams, ([] : List (C .e74)), 0)) none := by kernel_rfl
  simp only [h, G17n, m17_0]
noncomputable def G17 (a0 : VHallHouse) : Option (VHallHouse) := G17n fuel a0
noncomputable def con17 : Con C := { R0 := VHallHouse, ret := fun r => [(true, [.row .e86 r.Teams, .row .e74 r.Grants])], g := fun vs => match vs with
  | [.agg [.row .e86 y0_0, .row .e74 y0_1]] => G17 ⟨y0_0, y0_1⟩
  | _ => none }
theorem x17 : XOk Go.Proofs.Try.prog X17 := ⟨tks_ok, els_ok⟩
theorem q17 : Cons Go.Proofs.Try.prog X17 := ⟨lkR_ok (l := [(40, con40)]) ⟨c40, trivial⟩, lkW_ok (l := []) trivial⟩
theorem c17 : ConOk Go.Proofs.Try.prog KK 17 con17 := by
  refine con_dec x17 q17 (by kernel_rfl) (f := 17) (fn := Go.Proofs.Try.f17) (c := bodyOf Go.Proofs.Try.f17) (by kernel_rfl) (by kernel_rfl) (by kernel_rfl) (nameB (by kernel_rfl)) con17 dec17 (fun rs r0 h => ?_) (fun vs r0 h => ?_)
  · unfold dec17 at h
    split at h
    · cases h; rfl
    · cases h
  · simp only [con17] at h
    split at h
    · rename_i y0_0 y0_1
      exact ⟨Nat.le_of_ble_eq_true (by kernel_rfl), F17 fuel, (t17 fuel ⟨y0_0, y0_1⟩).trans h⟩
    · cases h
/-! ### f41 loop.example/wharfdesk/spec.l21In -/
noncomputable def X41 : Cx C := { K := KK, tk := lk tks, con := lkC [], conw := lkC [] }
def F41 (n : Nat) : Cf := { N := n, keep := [0, 1, 2, 6], live := lk [] }
def dec41 (rs : List (Bool × List (Lf C))) : Option (Bool) := match rs with
  | [(false, [.bool z0])] => some z0
  | _ => none
noncomputable def G41n (n : Nat) (a0 : Int) (a1 : Int) (a2 : Int) : Option (Bool) :=
      cond (decide (a0 ≥ a1))
      (some (decide (a0 ≤ a2)))
      (some (false))
theorem t41 (n : Nat) (a0 : Int) (a1 : Int) (a2 : Int) : runFn X41 (F41 n) Go.Proofs.Try.f41 [.one (.int .i64 a0), .one (.int .i64 a1), .one (.int .i64 a2)] dec41 = G41n n a0 a1 a2 := by
  kernel_rfl
noncomputable def G41 (a0 : Int) (a1 : Int) (a2 : Int) : Option (Bool) := G41n fuel a0 a1 a2
noncomputable def con41 : Con C := { R0 := Bool, ret := fun r => [(false, [.bool r])], g := fun vs => match vs with
  | [.one (.int .i64 y0), .one (.int .i64 y1), .one (.int .i64 y2)] => G41 y0 y1 y2
  | _ => none }
theorem x41 : XOk Go.Proofs.Try.prog X41 := ⟨tks_ok, els_ok⟩
theorem q41 : Cons Go.Proofs.Try.prog X41 := ⟨lkR_ok (l := []) trivial, lkW_ok (l := []) trivial⟩
theorem c41 : ConOk Go.Proofs.Try.prog KK 41 con41 := by
  refine con_dec x41 q41 (by kernel_rfl) (f := 41) (fn := Go.Proofs.Try.f41) (c := bodyOf Go.Proofs.Try.f41) (by kernel_rfl) (by kernel_rfl) (by kernel_rfl) (nameB (by kernel_rfl)) con41 dec41 (fun rs r0 h => ?_) (fun vs r0 h => ?_)
  · unfold dec41 at h
    split at h
    · cases h; rfl
    · cases h
  · simp only [con41] at h
    split at h
    · rename_i y0 y1 y2
      exact ⟨Nat.le_of_ble_eq_true (by kernel_rfl), F41 fuel, (t41 fuel y0 y1 y2).trans h⟩
    · cases h
/-! ### f42 loop.example/wharfdesk/spec.RecNew -/
noncomputable def X42 : Cx C := { K := KK, tk := lk tks, con := lkC [(41, con41)], conw := lkC [] }
def F42 (n : Nat) : Cf := { N := n, keep := [0, 1, 4, 13], live := lk [] }
def dec42 (rs : List (Bool × List (Lf C))) : Option (VRecorder) := match rs with
  | [(true, [.int .i64 z0, .int .i64 z1, .bool z2, .int .i64 z3, .int .i64 z4, .row .e132 z5, .int .i64 z6, .int .i64 z7, .row .e132 z8, .row .e116 z9, .row .e9 z10, .bool z11, .bool z12, .int .i64 z13, .row .e3 z14, .row .e132 z15, .row .e134 z16, .int .i64 z17])] => some ⟨z0, z1, z2, z3, z4, z5, z6, z7, z8, z9, z10, z11, z12, z13, z14, z15, z16, z17⟩
  | _ => none
noncomputable def G42n (n : Nat) (a0 : Int) (a1 : Int) : Option (VRecorder) :=
      Option.bind (G41 a1 1 5) fun r1 =>
      cond (!r1)
      (some ((⟨0, 0, false, 0, 0, ([] : List (C .e132)), 0, 0, ([] : List (C .e132)), ([] : List (C .e116)), ([] : List (C .e9)), false, false, 0, ([] : List (C .e3)), ([] : List (C .e132)), ([] : List (C .e134)), 0⟩ : VRecorder)))
      (Option.bind (G41 a0 1 a1) fun r2 =>
      cond (!r2)
      (some ((⟨0, 0, false, 0, 0, ([] : List (C .e132)), 0, 0, ([] : List (C .e132)), ([] : List (C .e116)), ([] : List (C .e9)), false, false, 0, ([] : List (C .e3)), ([] : List (C .e132)), ([] : List (C .e134)), 0⟩ : VRecorder)))
      (some ((⟨a0, a1, true, 0, 0, ([] : List (C .e132)), 0, 0, ([] : List (C .e132)), ([] : List (C .e116)), ([] : List (C .e9)), false, false, 0, ([] : List (C .e3)), ([] : List (C .e132)), ([] : List (C .e134)), 0⟩ : VRecorder))))
theorem t42 (n : Nat) (a0 : Int) (a1 : Int) : runFn X42 (F42 n) Go.Proofs.Try.f42 [.one (.int .i64 a0), .one (.int .i64 a1)] dec42 = G42n n a0 a1 := by
  kernel_rfl
noncomputable def G42 (a0 : Int) (a1 : Int) : Option (VRecorder) := G42n fuel a0 a1
noncomputable def con42 : Con C := { R0 := VRecorder, ret := fun r => [(true, [.int .i64 r.Number, .int .i64 r.Of, .bool r.Up, .int .i64 r.Safe_Promise, .int .i64 r.Safe_Known, .row .e132 r.Safe_Slots, .int .i64 r.Disk_Promise, .int .i64 r.Disk_Known, .row .e132 r.Disk_Slots, .row .e116 r.Held, .row .e9 r.Wishes, .bool r.Lead, .bool r.Trying, .int .i64 r.Ballot, .row .e3 r.Yes, .row .e132 r.Best, .row .e134 r.Acks, .int .i64 r.Heard])], g := fun vs => match vs with
  | [.one (.int .i64 y0), .one (.int .i64 y1)] => G42 y0 y1
  | _ => none }
theorem x42 : XOk Go.Proofs.Try.prog X42 := ⟨tks_ok, els_ok⟩
theorem q42 : Cons Go.Proofs.Try.prog X42 := ⟨lkR_ok (l := [(41, con41)]) ⟨c41, trivial⟩, lkW_ok (l := []) trivial⟩
theorem c42 : ConOk Go.Proofs.Try.prog KK 42 con42 := by
  refine con_dec x42 q42 (by kernel_rfl) (f := 42) (fn := Go.Proofs.Try.f42) (c := bodyOf Go.Proofs.Try.f42) (by kernel_rfl) (by kernel_rfl) (by kernel_rfl) (nameB (by kernel_rfl)) con42 dec42 (fun rs r0 h => ?_) (fun vs r0 h => ?_)
  · unfold dec42 at h
    split at h
    · cases h; rfl
    · cases h
  · simp only [con42] at h
    split at h
    · rename_i y0 y1
      exact ⟨Nat.le_of_ble_eq_true (by kernel_rfl), F42 fuel, (t42 fuel y0 y1).trans h⟩
    · cases h
/-! ### f18 loop.example/wharfdesk/spec.RecNewWorld -/
noncomputable def X18 : Cx C := { K := KK, tk := lk tks, con := lkC [(41, con41), (42, con42)], conw := lkC [] }
def F18 (n : Nat) : Cf := { N := n, keep := [0, 2, 3, 4, 8, 12], live := lk [(0, [0, 2, 3, 4])] }
def dec18 (rs : List (Bool × List (Lf C))) : Option (VRecWorld) := match rs with
  | [(true, [.row .e84 z0, .row .e116 z1, .row .e119 z2])] => some ⟨z0, z1, z2⟩
  | _ => none
abbrev A18_0 : Type := Int × List (C .e84) × List (C .e116) × List (C .e119) × List (C .e84) × List (C .e116) × List (C .e119) × Int
def s18_0 : A18_0 → St C := fun (x0_0, x0_1, x0_2, x0_3, x0_4, x0_5, x0_6, x0_7) => { env := [(0, .one (.int .i64 x0_0)), (2, .one (.ptr 128 0)), (3, .one (.ptr 192 0)), (4, .one (.int .i64 x0_7))], objs := [(128, .box [.ref 1012800 [], .ref 1012801 [], .ref 1012802 []]), (1012800, .row .e84 x0_1 false), (1012801, .row .e116 x0_2 false), (1012802, .row .e119 x0_3 false), (192, .box [.ref 1019200 [], .ref 1019201 [], .ref 1019202 []]), (1019200, .row .e84 x0_4 false), (1019201, .row .e116 x0_5 false), (1019202, .row .e119 x0_6 false)], base := 0 }
noncomputable def r18_0 (n : Nat)  (rec0 : A18_0 → Option (VRecWorld)) : A18_0 → Option (VRecWorld) := fun (x0_0, x0_1, x0_2, x0_3, x0_4, x0_5, x0_6, x0_7) =>
      cond (decide (x0_7 ≤ x0_0))
      (Option.bind (G42 x0_7 x0_0) fun r2 =>
      cond (decide ((x0_4.length + (([r2] : List (C .e84))).length) * 248 ≤ 140737488355328)) (rec0 (x0_0, x0_1, x0_2, x0_3, x0_4 ++ (([r2] : List (C .e84))), x0_5, x0_6, IntKind.i64.wrap (x0_7 + 1))) none)
      (some ((⟨x0_4, x0_5, x0_6⟩ : VRecWorld)))
noncomputable def LP18_0 (n : Nat)  (x : A18_0) : Option (VRecWorld) := lpN (r18_0 n ) n x
noncomputable def MP18_0 (n : Nat)  (x : A18_0) : Option (VRecWorld) := iter (fun rec S => run X18 (F18 n) (codeAt (bodyOf Go.Proofs.Try.f18) [1, 1, 1, 0, 1, 0, 0]) 0 S (lopK rec (blkK 0 (seqK (run X18 (F18 n) (codeAt (bodyOf Go.Proofs.Try.f18) [1, 1, 1, 1]) 0) (kTop X18 Go.Proofs.Try.f18 dec18))))) [0, 2, 3, 4] n (s18_0 x)
theorem m18_0 (n : Nat)  (x : A18_0) : MP18_0 n  x = LP18_0 n  x := by
  refine iter_eq s18_0 (r18_0 n ) (fun rec0 x => ?_) n x
  obtain ⟨x0_0, x0_1, x0_2, x0_3, x0_4, x0_5, x0_6, x0_7⟩ := x
  kernel_rfl
noncomputable def G18n (n : Nat) (a0 : Int) : Option (VRecWorld) :=
      Option.bind (G41 a0 1 5) fun r1 =>
      cond (!r1)
      (some ((⟨([] : List (C .e84)), ([] : List (C .e116)), ([] : List (C .e119))⟩ : VRecWorld)))
      (LP18_0 n  (a0, ([] : List (C .e84)), ([] : List (C .e116)), ([] : List (C .e119)), ([] : List (C .e84)), ([] : List (C .e116)), ([] : List (C .e119)), 1))
theorem t18 (n : Nat) (a0 : Int) : runFn X18 (F18 n) Go.Proofs.Try.f18 [.one (.int .i64 a0)] dec18 = G18n n a0 := by
  have h : runFn X18 (F18 n) Go.Proofs.Try.f18 [.one (.int .i64 a0)] dec18 =
      Option.bind (G41 a0 1 5) fun r1 =>
      cond (!r1)
      (some ((⟨([] : List (C .e84)), ([] : List (C .e116)), ([] : List (C .e119))⟩ : VRecWorld)))
      (MP18_0 n  (a0, ([] : List (C .e84)), ([] : List (C .e116)), ([] : List (C .e119)), ([] : List (C .e84)), ([] : List (C .e116)), ([] : List (C .e119)), 1)) := by kernel_rfl
  simp only [h, G18n, m18_0]
noncomputable def G18 (a0 : Int) : Option (VRecWorld) := G18n fuel a0
noncomputable def con18 : Con C := { R0 := VRecWorld, ret := fun r => [(true, [.row .e84 r.Recorders, .row .e116 r.Flight, .row .e119 r.Fixed])], g := fun vs => match vs with
  | [.one (.int .i64 y0)] => G18 y0
  | _ => none }
theorem x18 : XOk Go.Proofs.Try.prog X18 := ⟨tks_ok, els_ok⟩
theorem q18 : Cons Go.Proofs.Try.prog X18 := ⟨lkR_ok (l := [(41, con41), (42, con42)]) ⟨c41, c42, trivial⟩, lkW_ok (l := []) trivial⟩
theorem c18 : ConOk Go.Proofs.Try.prog KK 18 con18 := by
  refine con_dec x18 q18 (by kernel_rfl) (f := 18) (fn := Go.Proofs.Try.f18) (c := bodyOf Go.Proofs.Try.f18) (by kernel_rfl) (by kernel_rfl) (by kernel_rfl) (nameB (by kernel_rfl)) con18 dec18 (fun rs r0 h => ?_) (fun vs r0 h => ?_)
  · unfold dec18 at h
    split at h
    · cases h; rfl
    · cases h
  · simp only [con18] at h
    split at h
    · rename_i y0
      exact ⟨Nat.le_of_ble_eq_true (by kernel_rfl), F18 fuel, (t18 fuel y0).trans h⟩
    · cases h
/-! ### f5 loop.example/wharfdesk/spec.HallNew -/
noncomputable def X5 : Cx C := { K := KK, tk := lk tks, con := lkC [(15, con15), (16, con16), (17, con17), (18, con18)], conw := lkC [] }
def F5 (n : Nat) : Cf := { N := n, keep := [0, 1, 2, 4, 12], live := lk [] }
def dec5 (rs : List (Bool × List (Lf C))) : Option (VHallWorld) := match rs with
  | [(true, [.row .e86 z0, .row .e74 z1, .row .e84 z2, .row .e116 z3, .row .e119 z4, .int .i64 z5, .row .e98 z6])] => some ⟨z0, z1, z2, z3, z4, z5, z6⟩
  | _ => none
noncomputable def G5n (n : Nat) (a0 : VHallHouse) (a1 : Int) : Option (VHallWorld) :=
      Option.bind (G15 a0) fun r1 =>
      cond (!r1)
      (some ((⟨([] : List (C .e86)), ([] : List (C .e74)), ([] : List (C .e84)), ([] : List (C .e116)), ([] : List (C .e119)), 0, ([] : List (C .e98))⟩ : VHallWorld)))
      (Option.bind (G16 a1 1 5) fun r2 =>
      cond (!r2)
      (some ((⟨([] : List (C .e86)), ([] : List (C .e74)), ([] : List (C .e84)), ([] : List (C .e116)), ([] : List (C .e119)), 0, ([] : List (C .e98))⟩ : VHallWorld)))
      (Option.bind (G17 a0) fun r3 =>
      Option.bind (G18 a1) fun r4 =>
      some ((⟨r3.Teams, r3.Grants, r4.Recorders, r4.Flight, r4.Fixed, 0, ([] : List (C .e98))⟩ : VHallWorld))))
theorem t5 (n : Nat) (a0 : VHallHouse) (a1 : Int) : runFn X5 (F5 n) Go.Proofs.Try.f5 [.agg [.row .e86 a0.Teams, .row .e74 a0.Grants], .one (.int .i64 a1)] dec5 = G5n n a0 a1 := by
  kernel_rfl
noncomputable def G5 (a0 : VHallHouse) (a1 : Int) : Option (VHallWorld) := G5n fuel a0 a1
noncomputable def con5 : Con C := { R0 := VHallWorld, ret := fun r => [(true, [.row .e86 r.House_Teams, .row .e74 r.House_Grants, .row .e84 r.Rec_Recorders, .row .e116 r.Rec_Flight, .row .e119 r.Rec_Fixed, .int .i64 r.Now, .row .e98 r.Asked])], g := fun vs => match vs with
  | [.agg [.row .e86 y0_0, .row .e74 y0_1], .one (.int .i64 y1)] => G5 ⟨y0_0, y0_1⟩ y1
  | _ => none }
theorem x5 : XOk Go.Proofs.Try.prog X5 := ⟨tks_ok, els_ok⟩
theorem q5 : Cons Go.Proofs.Try.prog X5 := ⟨lkR_ok (l := [(15, con15), (16, con16), (17, con17), (18, con18)]) ⟨c15, c16, c17, c18, trivial⟩, lkW_ok (l := []) trivial⟩
theorem c5 : ConOk Go.Proofs.Try.prog KK 5 con5 := by
  refine con_dec x5 q5 (by kernel_rfl) (f := 5) (fn := Go.Proofs.Try.f5) (c := bodyOf Go.Proofs.Try.f5) (by kernel_rfl) (by kernel_rfl) (by kernel_rfl) (nameB (by kernel_rfl)) con5 dec5 (fun rs r0 h => ?_) (fun vs r0 h => ?_)
  · unfold dec5 at h
    split at h
    · cases h; rfl
    · cases h
  · simp only [con5] at h
    split at h
    · rename_i y0_0 y0_1 y1
      exact ⟨Nat.le_of_ble_eq_true (by kernel_rfl), F5 fuel, (t5 fuel ⟨y0_0, y0_1⟩ y1).trans h⟩
    · cases h
/-! ### f43 loop.example/wharfdesk/laws.toGateTeam -/
noncomputable def X43 : Cx C := { K := KK, tk := lk tks, con := lkC [], conw := lkC [] }
def F43 (n : Nat) : Cf := { N := n, keep := [0, 1, 2, 3], live := lk [] }
def dec43 (rs : List (Bool × List (Lf C))) : Option (VGateTeam) := match rs with
  | [(true, [.str z0, .str z1])] => some ⟨z0, z1⟩
  | _ => none
noncomputable def G43n (n : Nat) (a0 : VGateTeam) : Option (VGateTeam) :=
      some (a0)
theorem t43 (n : Nat) (a0 : VGateTeam) : runFn X43 (F43 n) Go.Proofs.Try.f43 [.agg [.str a0.Name, .str a0.Over]] dec43 = G43n n a0 := by
  kernel_rfl
noncomputable def G43 (a0 : VGateTeam) : Option (VGateTeam) := G43n fuel a0
noncomputable def con43 : Con C := { R0 := VGateTeam, ret := fun r => [(true, [.str r.Name, .str r.Over])], g := fun vs => match vs with
  | [.agg [.str y0_0, .str y0_1]] => G43 ⟨y0_0, y0_1⟩
  | _ => none }
theorem x43 : XOk Go.Proofs.Try.prog X43 := ⟨tks_ok, els_ok⟩
theorem q43 : Cons Go.Proofs.Try.prog X43 := ⟨lkR_ok (l := []) trivial, lkW_ok (l := []) trivial⟩
theorem c43 : ConOk Go.Proofs.Try.prog KK 43 con43 := by
  refine con_dec x43 q43 (by kernel_rfl) (f := 43) (fn := Go.Proofs.Try.f43) (c := bodyOf Go.Proofs.Try.f43) (by kernel_rfl) (by kernel_rfl) (by kernel_rfl) (nameB (by kernel_rfl)) con43 dec43 (fun rs r0 h => ?_) (fun vs r0 h => ?_)
  · unfold dec43 at h
    split at h
    · cases h; rfl
    · cases h
  · simp only [con43] at h
    split at h
    · rename_i y0_0 y0_1
      exact ⟨Nat.le_of_ble_eq_true (by kernel_rfl), F43 fuel, (t43 fuel ⟨y0_0, y0_1⟩).trans h⟩
    · cases h
/-! ### f19 loop.example/wharfdesk/laws.toGateTeamS -/
noncomputable def X19 : Cx C := { K := KK, tk := lk tks, con := lkC [(43, con43)], conw := lkC [] }
def F19 (n : Nat) : Cf := { N := n, keep := [0, 2, 3, 4, 11], live := lk [(0, [0, 3, 4])] }
def dec19 (rs : List (Bool × List (Lf C))) : Option (List (C .e86)) := match rs with
  | [(false, [.row .e86 z0])] => some z0
  | _ => none
abbrev A19_0 : Type := List (C .e64) × List (C .e86) × Int
def s19_0 : A19_0 → St C := fun (x0_0, x0_1, x0_2) => { env := [(0, .one (.row .e64 x0_0)), (3, .one (.ref 100003 [])), (4, .one (.int .i64 x0_2))], objs := [(100003, .row .e86 x0_1 false)], base := 0 }
noncomputable def r19_0 (n : Nat)  (rec0 : A19_0 → Option (List (C .e86))) : A19_0 → Option (List (C .e86)) := fun (x0_0, x0_1, x0_2) =>
      cond (decide (x0_2 < (x0_0.length : Int)))
      (cond (decide (0 ≤ x0_2)) (Option.bind x0_0[x0_2.toNat]? fun x1 => Option.bind (G43 x1) fun r2 =>
      cond (decide (0 ≤ x0_2)) (cond (decide (x0_2 < (x0_1.length : Int))) (Option.bind x0_1[x0_2.toNat]? fun x3 => rec0 (x0_0, x0_1.set x0_2.toNat r2, IntKind.i64.wrap (x0_2 + 1))) none) none) none)
      (some (x0_1))
noncomputable def LP19_0 (n : Nat)  (x : A19_0) : Option (List (C .e86)) := lpN (r19_0 n ) n x
noncomputable def MP19_0 (n : Nat)  (x : A19_0) : Option (List (C .e86)) := iter (fun rec S => run X19 (F19 n) (codeAt (bodyOf Go.Proofs.Try.f19) [1, 1, 0, 1, 0, 0]) 0 S (lopK rec (blkK 0 (seqK (run X19 (F19 n) (codeAt (bodyOf Go.Proofs.Try.f19) [1, 1, 1]) 0) (kTop X19 Go.Proofs.Try.f19 dec19))))) [0, 3, 4] n (s19_0 x)
theorem m19_0 (n : Nat)  (x : A19_0) : MP19_0 n  x = LP19_0 n  x := by
  refine iter_eq s19_0 (r19_0 n ) (fun rec0 x => ?_) n x
  obtain ⟨x0_0, x0_1, x0_2⟩ := x
  kernel_rfl
noncomputable def G19n (n : Nat) (a0 : List (C .e64)) : Option (List (C .e86)) :=
      cond (decide ((a0.length : Int) = (a0.length : Int))) (cond (decide (0 ≤ (a0.length : Int))) (cond (decide ((a0.length : Int) * 32 ≤ 140737488355328)) (LP19_0 n  (a0, List.replicate (a0.length : Int).toNat (⟨⟨#[]⟩, ⟨#[]⟩⟩ : C .e86), 0)) none) none) none
theorem t19 (n : Nat) (a0 : List (C .e64)) : runFn X19 (F19 n) Go.Proofs.Try.f19 [.one (.row .e64 a0)] dec19 = G19n n a0 := by
  have h : runFn X19 (F19 n) Go.Proofs.Try.f19 [.one (.row .e64 a0)] dec19 =
      cond (decide ((a0.length : Int) = (a0.length : Int))) (cond (decide (0 ≤ (a0.length : Int))) (cond (decide ((a0.length : Int) * 32 ≤ 140737488355328)) (MP19_0 n  (a0, List.replicate (a0.length : Int).toNat (⟨⟨#[]⟩, ⟨#[]⟩⟩ : C .e86), 0)) none) none) none := by kernel_rfl
  simp only [h, G19n, m19_0]
noncomputable def G19 (a0 : List (C .e64)) : Option (List (C .e86)) := G19n fuel a0
noncomputable def con19 : Con C := { R0 := List (C .e86), ret := fun r => [(false, [.row .e86 r])], g := fun vs => match vs with
  | [.one (.row .e64 y0)] => G19 y0
  | _ => none }
theorem x19 : XOk Go.Proofs.Try.prog X19 := ⟨tks_ok, els_ok⟩
theorem q19 : Cons Go.Proofs.Try.prog X19 := ⟨lkR_ok (l := [(43, con43)]) ⟨c43, trivial⟩, lkW_ok (l := []) trivial⟩
theorem c19 : ConOk Go.Proofs.Try.prog KK 19 con19 := by
  refine con_dec x19 q19 (by kernel_rfl) (f := 19) (fn := Go.Proofs.Try.f19) (c := bodyOf Go.Proofs.Try.f19) (by kernel_rfl) (by kernel_rfl) (by kernel_rfl) (nameB (by kernel_rfl)) con19 dec19 (fun rs r0 h => ?_) (fun vs r0 h => ?_)
  · unfold dec19 at h
    split at h
    · cases h; rfl
    · cases h
  · simp only [con19] at h
    split at h
    · rename_i y0
      exact ⟨Nat.le_of_ble_eq_true (by kernel_rfl), F19 fuel, (t19 fuel y0).trans h⟩
    · cases h
/-! ### f91 loop.example/wharfdesk/laws.toIntS -/
noncomputable def X91 : Cx C := { K := KK, tk := lk tks, con := lkC [], conw := lkC [] }
def F91 (n : Nat) : Cf := { N := n, keep := [0, 2, 3, 4, 11], live := lk [(0, [0, 3, 4])] }
def dec91 (rs : List (Bool × List (Lf C))) : Option (List (C .e3)) := match rs with
  | [(false, [.row .e3 z0])] => some z0
  | _ => none
abbrev A91_0 : Type := List (C .e3) × List (C .e3) × Int
def s91_0 : A91_0 → St C := fun (x0_0, x0_1, x0_2) => { env := [(0, .one (.row .e3 x0_0)), (3, .one (.ref 100003 [])), (4, .one (.int .i64 x0_2))], objs := [(100003, .row .e3 x0_1 false)], base := 0 }
noncomputable def r91_0 (n : Nat)  (rec0 : A91_0 → Option (List (C .e3))) : A91_0 → Option (List (C .e3)) := fun (x0_0, x0_1, x0_2) =>
      cond (decide (x0_2 < (x0_0.length : Int)))
      (cond (decide (0 ≤ x0_2)) (Option.bind x0_0[x0_2.toNat]? fun x1 => cond (decide (0 ≤ x0_2)) (cond (decide (x0_2 < (x0_1.length : Int))) (Option.bind x0_1[x0_2.toNat]? fun x2 => rec0 (x0_0, x0_1.set x0_2.toNat x1, IntKind.i64.wrap (x0_2 + 1))) none) none) none)
      (some (x0_1))
noncomputable def LP91_0 (n : Nat)  (x : A91_0) : Option (List (C .e3)) := lpN (r91_0 n ) n x
noncomputable def MP91_0 (n : Nat)  (x : A91_0) : Option (List (C .e3)) := iter (fun rec S => run X91 (F91 n) (codeAt (bodyOf Go.Proofs.Try.f91) [1, 1, 0, 1, 0, 0]) 0 S (lopK rec (blkK 0 (seqK (run X91 (F91 n) (codeAt (bodyOf Go.Proofs.Try.f91) [1, 1, 1]) 0) (kTop X91 Go.Proofs.Try.f91 dec91))))) [0, 3, 4] n (s91_0 x)
theorem m91_0 (n : Nat)  (x : A91_0) : MP91_0 n  x = LP91_0 n  x := by
  refine iter_eq s91_0 (r91_0 n ) (fun rec0 x => ?_) n x
  obtain ⟨x0_0, x0_1, x0_2⟩ := x
  kernel_rfl
noncomputable def G91n (n : Nat) (a0 : List (C .e3)) : Option (List (C .e3)) :=
      cond (decide ((a0.length : Int) = (a0.length : Int))) (cond (decide (0 ≤ (a0.length : Int))) (cond (decide ((a0.length : Int) * 8 ≤ 140737488355328)) (LP91_0 n  (a0, List.replicate (a0.length : Int).toNat (0 : C .e3), 0)) none) none) none
theorem t91 (n : Nat) (a0 : List (C .e3)) : runFn X91 (F91 n) Go.Proofs.Try.f91 [.one (.row .e3 a0)] dec91 = G91n n a0 := by
  have h : runFn X91 (F91 n) Go.Proofs.Try.f91 [.one (.row .e3 a0)] dec91 =
      cond (decide ((a0.length : Int) = (a0.length : Int))) (cond (decide (0 ≤ (a0.length : Int))) (cond (decide ((a0.length : Int) * 8 ≤ 140737488355328)) (MP91_0 n  (a0, List.replicate (a0.length : Int).toNat (0 : C .e3), 0)) none) none) none := by kernel_rfl
  simp only [h, G91n, m91_0]
noncomputable def G91 (a0 : List (C .e3)) : Option (List (C .e3)) := G91n fuel a0
noncomputable def con91 : Con C := { R0 := List (C .e3), ret := fun r => [(false, [.row .e3 r])], g := fun vs => match vs with
  | [.one (.row .e3 y0)] => G91 y0
  | _ => none }
theorem x91 : XOk Go.Proofs.Try.prog X91 := ⟨tks_ok, els_ok⟩
theorem q91 : Cons Go.Proofs.Try.prog X91 := ⟨lkR_ok (l := []) trivial, lkW_ok (l := []) trivial⟩
theorem c91 : ConOk Go.Proofs.Try.prog KK 91 con91 := by
  refine con_dec x91 q91 (by kernel_rfl) (f := 91) (fn := Go.Proofs.Try.f91) (c := bodyOf Go.Proofs.Try.f91) (by kernel_rfl) (by kernel_rfl) (by kernel_rfl) (nameB (by kernel_rfl)) con91 dec91 (fun rs r0 h => ?_) (fun vs r0 h => ?_)
  · unfold dec91 at h
    split at h
    · cases h; rfl
    · cases h
  · simp only [con91] at h
    split at h
    · rename_i y0
      exact ⟨Nat.le_of_ble_eq_true (by kernel_rfl), F91 fuel, (t91 fuel y0).trans h⟩
    · cases h
/-! ### f72 loop.example/wharfdesk/laws.toGateRule -/
noncomputable def X72 : Cx C := { K := KK, tk := lk tks, con := lkC [(91, con91)], conw := lkC [] }
def F72 (n : Nat) : Cf := { N := n, keep := [0, 1, 2, 3], live := lk [] }
def dec72 (rs : List (Bool × List (Lf C))) : Option (VGateRule) := match rs with
  | [(true, [.row .e3 z0, .str z1, .str z2, .str z3])] => some ⟨z0, z1, z2, z3⟩
  | _ => none
noncomputable def G72n (n : Nat) (a0 : VGateRule) : Option (VGateRule) :=
      Option.bind (G91 a0.Verbs) fun r1 =>
      some ((⟨r1, a0.Kind, a0.Team, a0.Prefix⟩ : VGateRule))
theorem t72 (n : Nat) (a0 : VGateRule) : runFn X72 (F72 n) Go.Proofs.Try.f72 [.agg [.row .e3 a0.Verbs, .str a0.Kind, .str a0.Team, .str a0.Prefix]] dec72 = G72n n a0 := by
  kernel_rfl
noncomputable def G72 (a0 : VGateRule) : Option (VGateRule) := G72n fuel a0
noncomputable def con72 : Con C := { R0 := VGateRule, ret := fun r => [(true, [.row .e3 r.Verbs, .str r.Kind, .str r.Team, .str r.Prefix])], g := fun vs => match vs with
  | [.agg [.row .e3 y0_0, .str y0_1, .str y0_2, .str y0_3]] => G72 ⟨y0_0, y0_1, y0_2, y0_3⟩
  | _ => none }
theorem x72 : XOk Go.Proofs.Try.prog X72 := ⟨tks_ok, els_ok⟩
theorem q72 : Cons Go.Proofs.Try.prog X72 := ⟨lkR_ok (l := [(91, con91)]) ⟨c91, trivial⟩, lkW_ok (l := []) trivial⟩
theorem c72 : ConOk Go.Proofs.Try.prog KK 72 con72 := by
  refine con_dec x72 q72 (by kernel_rfl) (f := 72) (fn := Go.Proofs.Try.f72) (c := bodyOf Go.Proofs.Try.f72) (by kernel_rfl) (by kernel_rfl) (by kernel_rfl) (nameB (by kernel_rfl)) con72 dec72 (fun rs r0 h => ?_) (fun vs r0 h => ?_)
  · unfold dec72 at h
    split at h
    · cases h; rfl
    · cases h
  · simp only [con72] at h
    split at h
    · rename_i y0_0 y0_1 y0_2 y0_3
      exact ⟨Nat.le_of_ble_eq_true (by kernel_rfl), F72 fuel, (t72 fuel ⟨y0_0, y0_1, y0_2, y0_3⟩).trans h⟩
    · cases h
/-! ### f44 loop.example/wharfdesk/laws.toGateGrant -/
noncomputable def X44 : Cx C := { K := KK, tk := lk tks, con := lkC [(72, con72)], conw := lkC [] }
def F44 (n : Nat) : Cf := { N := n, keep := [0, 1, 2, 3], live := lk [] }
def dec44 (rs : List (Bool × List (Lf C))) : Option (VGateGrant) := match rs with
  | [(true, [.int .i64 z0, .str z1, .str z2, .row .e3 z3, .str z4, .str z5, .str z6])] => some ⟨z0, z1, z2, z3, z4, z5, z6⟩
  | _ => none
noncomputable def G44n (n : Nat) (a0 : VGateGrant) : Option (VGateGrant) :=
      Option.bind (G72 (⟨a0.Rule_Verbs, a0.Rule_Kind, a0.Rule_Team, a0.Rule_Prefix⟩ : VGateRule)) fun r1 =>
      some ((⟨a0.Number, a0.To, a0.By, r1.Verbs, r1.Kind, r1.Team, r1.Prefix⟩ : VGateGrant))
theorem t44 (n : Nat) (a0 : VGateGrant) : runFn X44 (F44 n) Go.Proofs.Try.f44 [.agg [.int .i64 a0.Number, .str a0.To, .str a0.By, .row .e3 a0.Rule_Verbs, .str a0.Rule_Kind, .str a0.Rule_Team, .str a0.Rule_Prefix]] dec44 = G44n n a0 := by
  kernel_rfl
noncomputable def G44 (a0 : VGateGrant) : Option (VGateGrant) := G44n fuel a0
noncomputable def con44 : Con C := { R0 := VGateGrant, ret := fun r => [(true, [.int .i64 r.Number, .str r.To, .str r.By, .row .e3 r.Rule_Verbs, .str r.Rule_Kind, .str r.Rule_Team, .str r.Rule_Prefix])], g := fun vs => match vs with
  | [.agg [.int .i64 y0_0, .str y0_1, .str y0_2, .row .e3 y0_3, .str y0_4, .str y0_5, .str y0_6]] => G44 ⟨y0_0, y0_1, y0_2, y0_3, y0_4, y0_5, y0_6⟩
  | _ => none }
theorem x44 : XOk Go.Proofs.Try.prog X44 := ⟨tks_ok, els_ok⟩
theorem q44 : Cons Go.Proofs.Try.prog X44 := ⟨lkR_ok (l := [(72, con72)]) ⟨c72, trivial⟩, lkW_ok (l := []) trivial⟩
theorem c44 : ConOk Go.Proofs.Try.prog KK 44 con44 := by
  refine con_dec x44 q44 (by kernel_rfl) (f := 44) (fn := Go.Proofs.Try.f44) (c := bodyOf Go.Proofs.Try.f44) (by kernel_rfl) (by kernel_rfl) (by kernel_rfl) (nameB (by kernel_rfl)) con44 dec44 (fun rs r0 h => ?_) (fun vs r0 h => ?_)
  · unfold dec44 at h
    split at h
    · cases h; rfl
    · cases h
  · simp only [con44] at h
    split at h
    · rename_i y0_0 y0_1 y0_2 y0_3 y0_4 y0_5 y0_6
      exact ⟨Nat.le_of_ble_eq_true (by kernel_rfl), F44 fuel, (t44 fuel ⟨y0_0, y0_1, y0_2, y0_3, y0_4, y0_5, y0_6⟩).trans h⟩
    · cases h
/-! ### f20 loop.example/wharfdesk/laws.toGateGrantS -/
noncomputable def X20 : Cx C := { K := KK, tk := lk tks, con := lkC [(44, con44)], conw := lkC [] }
def F20 (n : Nat) : Cf := { N := n, keep := [0, 2, 3, 4, 11], live := lk [(0, [0, 3, 4])] }
def dec20 (rs : List (Bool × List (Lf C))) : Option (List (C .e74)) := match rs with
  | [(false, [.row .e74 z0])] => some z0
  | _ => none
abbrev A20_0 : Type := List (C .e70) × List (C .e74) × Int
def s20_0 : A20_0 → St C := fun (x0_0, x0_1, x0_2) => { env := [(0, .one (.row .e70 x0_0)), (3, .one (.ref 100003 [])), (4, .one (.int .i64 x0_2))], objs := [(100003, .row .e74 x0_1 false)], base := 0 }
noncomputable def r20_0 (n : Nat)  (rec0 : A20_0 → Option (List (C .e74))) : A20_0 → Option (List (C .e74)) := fun (x0_0, x0_1, x0_2) =>
      cond (decide (x0_2 < (x0_0.length : Int)))
      (cond (decide (0 ≤ x0_2)) (Option.bind x0_0[x0_2.toNat]? fun x1 => Option.bind (G44 x1) fun r2 =>
      cond (decide (0 ≤ x0_2)) (cond (decide (x0_2 < (x0_1.length : Int))) (Option.bind x0_1[x0_2.toNat]? fun x3 => rec0 (x0_0, x0_1.set x0_2.toNat r2, IntKind.i64.wrap (x0_2 + 1))) none) none) none)
      (some (x0_1))
noncomputable def LP20_0 (n : Nat)  (x : A20_0) : Option (List (C .e74)) := lpN (r20_0 n ) n x
noncomputable def MP20_0 (n : Nat)  (x : A20_0) : Option (List (C .e74)) := iter (fun rec S => run X20 (F20 n) (codeAt (bodyOf Go.Proofs.Try.f20) [1, 1, 0, 1, 0, 0]) 0 S (lopK rec (blkK 0 (seqK (run X20 (F20 n) (codeAt (bodyOf Go.Proofs.Try.f20) [1, 1, 1]) 0) (kTop X20 Go.Proofs.Try.f20 dec20))))) [0, 3, 4] n (s20_0 x)
theorem m20_0 (n : Nat)  (x : A20_0) : MP20_0 n  x = LP20_0 n  x := by
  refine iter_eq s20_0 (r20_0 n ) (fun rec0 x => ?_) n x
  obtain ⟨x0_0, x0_1, x0_2⟩ := x
  kernel_rfl
noncomputable def G20n (n : Nat) (a0 : List (C .e70)) : Option (List (C .e74)) :=
      cond (decide ((a0.length : Int) = (a0.length : Int))) (cond (decide (0 ≤ (a0.length : Int))) (cond (decide ((a0.length : Int) * 112 ≤ 140737488355328)) (LP20_0 n  (a0, List.replicate (a0.length : Int).toNat (⟨0, ⟨#[]⟩, ⟨#[]⟩, [], ⟨#[]⟩, ⟨#[]⟩, ⟨#[]⟩⟩ : C .e74), 0)) none) none) none
theorem t20 (n : Nat) (a0 : List (C .e70)) : runFn X20 (F20 n) Go.Proofs.Try.f20 [.one (.row .e70 a0)] dec20 = G20n n a0 := by
  have h : runFn X20 (F20 n) Go.Proofs.Try.f20 [.one (.row .e70 a0)] dec20 =
      cond (decide ((a0.length : Int) = (a0.length : Int))) (cond (decide (0 ≤ (a0.length : Int))) (cond (decide ((a0.length : Int) * 112 ≤ 140737488355328)) (MP20_0 n  (a0, List.replicate (a0.length : Int).toNat (⟨0, ⟨#[]⟩, ⟨#[]⟩, [], ⟨#[]⟩, ⟨#[]⟩, ⟨#[]⟩⟩ : C .e74), 0)) none) none) none := by kernel_rfl
  simp only [h, G20n, m20_0]
noncomputable def G20 (a0 : List (C .e70)) : Option (List (C .e74)) := G20n fuel a0
noncomputable def con20 : Con C := { R0 := List (C .e74), ret := fun r => [(false, [.row .e74 r])], g := fun vs => match vs with
  | [.one (.row .e70 y0)] => G20 y0
  | _ => none }
theorem x20 : XOk Go.Proofs.Try.prog X20 := ⟨tks_ok, els_ok⟩
theorem q20 : Cons Go.Proofs.Try.prog X20 := ⟨lkR_ok (l := [(44, con44)]) ⟨c44, trivial⟩, lkW_ok (l := []) trivial⟩
theorem c20 : ConOk Go.Proofs.Try.prog KK 20 con20 := by
  refine con_dec x20 q20 (by kernel_rfl) (f := 20) (fn := Go.Proofs.Try.f20) (c := bodyOf Go.Proofs.Try.f20) (by kernel_rfl) (by kernel_rfl) (by kernel_rfl) (nameB (by kernel_rfl)) con20 dec20 (fun rs r0 h => ?_) (fun vs r0 h => ?_)
  · unfold dec20 at h
    split at h
    · cases h; rfl
    · cases h
  · simp only [con20] at h
    split at h
    · rename_i y0
      exact ⟨Nat.le_of_ble_eq_true (by kernel_rfl), F20 fuel, (t20 fuel y0).trans h⟩
    · cases h
/-! ### f6 loop.example/wharfdesk/laws.toHallHouse -/
noncomputable def X6 : Cx C := { K := KK, tk := lk tks, con := lkC [(19, con19), (20, con20)], conw := lkC [] }
def F6 (n : Nat) : Cf := { N := n, keep := [0, 1, 2, 3], live := lk [] }
def dec6 (rs : List (Bool × List (Lf C))) : Option (VHallHouse) := match rs with
  | [(true, [.row .e86 z0, .row .e74 z1])] => some ⟨z0, z1⟩
  | _ => none
noncomputable def G6n (n : Nat) (a0 : VHallHouse) : Option (VHallHouse) :=
      Option.bind (G19 a0.Teams) fun r1 =>
      Option.bind (G20 a0.Grants) fun r2 =>
      some ((⟨r1, r2⟩ : VHallHouse))
theorem t6 (n : Nat) (a0 : VHallHouse) : runFn X6 (F6 n) Go.Proofs.Try.f6 [.agg [.row .e64 a0.Teams, .row .e70 a0.Grants]] dec6 = G6n n a0 := by
  kernel_rfl
noncomputable def G6 (a0 : VHallHouse) : Option (VHallHouse) := G6n fuel a0
noncomputable def con6 : Con C := { R0 := VHallHouse, ret := fun r => [(true, [.row .e86 r.Teams, .row .e74 r.Grants])], g := fun vs => match vs with
  | [.agg [.row .e64 y0_0, .row .e70 y0_1]] => G6 ⟨y0_0, y0_1⟩
  | _ => none }
theorem x6 : XOk Go.Proofs.Try.prog X6 := ⟨tks_ok, els_ok⟩
theorem q6 : Cons Go.Proofs.Try.prog X6 := ⟨lkR_ok (l := [(19, con19), (20, con20)]) ⟨c19, c20, trivial⟩, lkW_ok (l := []) trivial⟩
theorem c6 : ConOk Go.Proofs.Try.prog KK 6 con6 := by
  refine con_dec x6 q6 (by kernel_rfl) (f := 6) (fn := Go.Proofs.Try.f6) (c := bodyOf Go.Proofs.Try.f6) (by kernel_rfl) (by kernel_rfl) (by kernel_rfl) (nameB (by kernel_rfl)) con6 dec6 (fun rs r0 h => ?_) (fun vs r0 h => ?_)
  · unfold dec6 at h
    split at h
    · cases h; rfl
    · cases h
  · simp only [con6] at h
    split at h
    · rename_i y0_0 y0_1
      exact ⟨Nat.le_of_ble_eq_true (by kernel_rfl), F6 fuel, (t6 fuel ⟨y0_0, y0_1⟩).trans h⟩
    · cases h
/-! ### f98 loop.example/wharfdesk/impl.nameByte -/
noncomputable def X98 : Cx C := { K := KK, tk := lk tks, con := lkC [], conw := lkC [] }
def F98 (n : Nat) : Cf := { N := n, keep := [0, 2], live := lk [] }
def dec98 (rs : List (Bool × List (Lf C))) : Option (Bool) := match rs with
  | [(false, [.bool z0])] => some z0
  | _ => none
noncomputable def G98n (n : Nat) (a0 : Int) : Option (Bool) :=
      cond (decide (a0 ≥ 97))
      (cond (decide (a0 ≤ 122))
      (some (true))
      (cond (decide (a0 ≥ 48))
      (cond (decide (a0 ≤ 57))
      (some (true))
      (some (a0 == 45)))
      (some (a0 == 45))))
      (cond (decide (a0 ≥ 48))
      (cond (decide (a0 ≤ 57))
      (some (true))
      (some (a0 == 45)))
      (some (a0 == 45)))
theorem t98 (n : Nat) (a0 : Int) : runFn X98 (F98 n) Go.Proofs.Try.f98 [.one (.int .u8 a0)] dec98 = G98n n a0 := by
  kernel_rfl
noncomputable def G98 (a0 : Int) : Option (Bool) := G98n fuel a0
noncomputable def con98 : Con C := { R0 := Bool, ret := fun r => [(false, [.bool r])], g := fun vs => match vs with
  | [.one (.int .u8 y0)] => G98 y0
  | _ => none }
theorem x98 : XOk Go.Proofs.Try.prog X98 := ⟨tks_ok, els_ok⟩
theorem q98 : Cons Go.Proofs.Try.prog X98 := ⟨lkR_ok (l := []) trivial, lkW_ok (l := []) trivial⟩
theorem c98 : ConOk Go.Proofs.Try.prog KK 98 con98 := by
  refine con_dec x98 q98 (by kernel_rfl) (f := 98) (fn := Go.Proofs.Try.f98) (c := bodyOf Go.Proofs.Try.f98) (by kernel_rfl) (by kernel_rfl) (by kernel_rfl) (nameB (by kernel_rfl)) con98 dec98 (fun rs r0 h => ?_) (fun vs r0 h => ?_)
  · unfold dec98 at h
    split at h
    · cases h; rfl
    · cases h
  · simp only [con98] at h
    split at h
    · rename_i y0
      exact ⟨Nat.le_of_ble_eq_true (by kernel_rfl), F98 fuel, (t98 fuel y0).trans h⟩
    · cases h
/-! ### f92 loop.example/wharfdesk/impl.nameBytes -/
noncomputable def X92 : Cx C := { K := KK, tk := lk tks, con := lkC [(98, con98)], conw := lkC [] }
def F92 (n : Nat) : Cf := { N := n, keep := [0, 2, 3, 5, 6, 7, 13], live := lk [(0, [0, 5, 6])] }
def dec92 (rs : List (Bool × List (Lf C))) : Option (Bool) := match rs with
  | [(false, [.bool z0])] => some z0
  | _ => none
abbrev A92_0 : Type := ByteArray × Int × Int
def s92_0 : A92_0 → St C := fun (x0_0, x0_1, x0_2) => { env := [(0, .one (.str x0_0)), (5, .one (.int .i64 x0_1)), (6, .one (.int .i64 x0_2))], objs := [], base := 0 }
noncomputable def r92_0 (n : Nat)  (rec0 : A92_0 → Option (Bool)) : A92_0 → Option (Bool) := fun (x0_0, x0_1, x0_2) =>
      cond (decide (x0_2 < x0_1))
      (cond (decide (0 ≤ x0_2)) (cond (decide (x0_2 < (x0_0.size : Int))) (Option.bind (G98 (sbt x0_0 x0_2)) fun r1 =>
      cond (!r1)
      (some (false))
      (rec0 (x0_0, x0_1, IntKind.i64.wrap (x0_2 + 1)))) none) none)
      (some (true))
noncomputable def LP92_0 (n : Nat)  (x : A92_0) : Option (Bool) := lpN (r92_0 n ) n x
noncomputable def MP92_0 (n : Nat)  (x : A92_0) : Option (Bool) := iter (fun rec S => run X92 (F92 n) (codeAt (bodyOf Go.Proofs.Try.f92) [1, 0, 1, 0, 0]) 0 S (lopK rec (blkK 0 (seqK (run X92 (F92 n) (codeAt (bodyOf Go.Proofs.Try.f92) [1, 1]) 0) (kTop X92 Go.Proofs.Try.f92 dec92))))) [0, 5, 6] n (s92_0 x)
theorem m92_0 (n : Nat)  (x : A92_0) : MP92_0 n  x = LP92_0 n  x := by
  refine iter_eq s92_0 (r92_0 n ) (fun rec0 x => ?_) n x
  obtain ⟨x0_0, x0_1, x0_2⟩ := x
  kernel_rfl
noncomputable def G92n (n : Nat) (a0 : ByteArray) : Option (Bool) :=
      LP92_0 n  (a0, (a0.size : Int), 0)
theorem t92 (n : Nat) (a0 : ByteArray) : runFn X92 (F92 n) Go.Proofs.Try.f92 [.one (.str a0)] dec92 = G92n n a0 := by
  have h : runFn X92 (F92 n) Go.Proofs.Try.f92 [.one (.str a0)] dec92 =
      MP92_0 n  (a0, (a0.size : Int), 0) := by kernel_rfl
  simp only [h, G92n, m92_0]
noncomputable def G92 (a0 : ByteArray) : Option (Bool) := G92n fuel a0
noncomputable def con92 : Con C := { R0 := Bool, ret := fun r => [(false, [.bool r])], g := fun vs => match vs with
  | [.one (.str y0)] => G92 y0
  | _ => none }
theorem x92 : XOk Go.Proofs.Try.prog X92 := ⟨tks_ok, els_ok⟩
theorem q92 : Cons Go.Proofs.Try.prog X92 := ⟨lkR_ok (l := [(98, con98)]) ⟨c98, trivial⟩, lkW_ok (l := []) trivial⟩
theorem c92 : ConOk Go.Proofs.Try.prog KK 92 con92 := by
  refine con_dec x92 q92 (by kernel_rfl) (f := 92) (fn := Go.Proofs.Try.f92) (c := bodyOf Go.Proofs.Try.f92) (by kernel_rfl) (by kernel_rfl) (by kernel_rfl) (nameB (by kernel_rfl)) con92 dec92 (fun rs r0 h => ?_) (fun vs r0 h => ?_)
  · unfold dec92 at h
    split at h
    · cases h; rfl
    · cases h
  · simp only [con92] at h
    split at h
    · rename_i y0
      exact ⟨Nat.le_of_ble_eq_true (by kernel_rfl), F92 fuel, (t92 fuel y0).trans h⟩
    · cases h
/-! ### f73 loop.example/wharfdesk/impl.isName -/
noncomputable def X73 : Cx C := { K := KK, tk := lk tks, con := lkC [(92, con92)], conw := lkC [] }
def F73 (n : Nat) : Cf := { N := n, keep := [0, 2], live := lk [] }
def dec73 (rs : List (Bool × List (Lf C))) : Option (Bool) := match rs with
  | [(false, [.bool z0])] => some z0
  | _ => none
noncomputable def G73n (n : Nat) (a0 : ByteArray) : Option (Bool) :=
      cond (decide ((a0.size : Int) ≥ 1))
      (cond (decide ((a0.size : Int) ≤ 16))
      (Option.bind (G92 a0) fun r1 =>
      some (r1))
      (some (false)))
      (some (false))
theorem t73 (n : Nat) (a0 : ByteArray) : runFn X73 (F73 n) Go.Proofs.Try.f73 [.one (.str a0)] dec73 = G73n n a0 := by
  kernel_rfl
noncomputable def G73 (a0 : ByteArray) : Option (Bool) := G73n fuel a0
noncomputable def con73 : Con C := { R0 := Bool, ret := fun r => [(false, [.bool r])], g := fun vs => match vs with
  | [.one (.str y0)] => G73 y0
  | _ => none }
theorem x73 : XOk Go.Proofs.Try.prog X73 := ⟨tks_ok, els_ok⟩
theorem q73 : Cons Go.Proofs.Try.prog X73 := ⟨lkR_ok (l := [(92, con92)]) ⟨c92, trivial⟩, lkW_ok (l := []) trivial⟩
theorem c73 : ConOk Go.Proofs.Try.prog KK 73 con73 := by
  refine con_dec x73 q73 (by kernel_rfl) (f := 73) (fn := Go.Proofs.Try.f73) (c := bodyOf Go.Proofs.Try.f73) (by kernel_rfl) (by kernel_rfl) (by kernel_rfl) (nameB (by kernel_rfl)) con73 dec73 (fun rs r0 h => ?_) (fun vs r0 h => ?_)
  · unfold dec73 at h
    split at h
    · cases h; rfl
    · cases h
  · simp only [con73] at h
    split at h
    · rename_i y0
      exact ⟨Nat.le_of_ble_eq_true (by kernel_rfl), F73 fuel, (t73 fuel y0).trans h⟩
    · cases h
/-! ### f74 loop.example/wharfdesk/impl.teamOf -/
noncomputable def X74 : Cx C := { K := KK, tk := lk tks, con := lkC [], conw := lkC [] }
def F74 (n : Nat) : Cf := { N := n, keep := [0, 1, 4, 5, 6, 7, 8, 9, 10, 17], live := lk [(0, [1, 7, 8, 9])] }
def dec74 (rs : List (Bool × List (Lf C))) : Option (Int) := match rs with
  | [(false, [.int .i64 z0])] => some z0
  | _ => none
abbrev A74_0 : Type := ByteArray × List (C .e86) × Int × Int
def s74_0 : A74_0 → St C := fun (x0_0, x0_1, x0_2, x0_3) => { env := [(1, .one (.str x0_0)), (7, .one (.row .e86 x0_1)), (8, .one (.int .i64 x0_2)), (9, .one (.int .i64 x0_3))], objs := [], base := 0 }
noncomputable def r74_0 (n : Nat)  (rec0 : A74_0 → Option (Int)) : A74_0 → Option (Int) := fun (x0_0, x0_1, x0_2, x0_3) =>
      cond (decide (x0_3 < x0_2))
      (cond (decide (0 ≤ x0_3)) (Option.bind x0_1[x0_3.toNat]? fun x1 => cond (decide (x1.Name = x0_0))
      (some (x0_3))
      (rec0 (x0_0, x0_1, x0_2, IntKind.i64.wrap (x0_3 + 1)))) none)
      (some ((-1)))
noncomputable def LP74_0 (n : Nat)  (x : A74_0) : Option (Int) := lpN (r74_0 n ) n x
noncomputable def MP74_0 (n : Nat)  (x : A74_0) : Option (Int) := iter (fun rec S => run X74 (F74 n) (codeAt (bodyOf Go.Proofs.Try.f74) [1, 0, 1, 0, 0]) 0 S (lopK rec (blkK 0 (seqK (run X74 (F74 n) (codeAt (bodyOf Go.Proofs.Try.f74) [1, 1]) 0) (kTop X74 Go.Proofs.Try.f74 dec74))))) [1, 7, 8, 9] n (s74_0 x)
theorem m74_0 (n : Nat)  (x : A74_0) : MP74_0 n  x = LP74_0 n  x := by
  refine iter_eq s74_0 (r74_0 n ) (fun rec0 x => ?_) n x
  obtain ⟨x0_0, x0_1, x0_2, x0_3⟩ := x
  kernel_rfl
noncomputable def G74n (n : Nat) (a0 : List (C .e86)) (a1 : ByteArray) : Option (Int) :=
      LP74_0 n  (a1, a0, (a0.length : Int), 0)
theorem t74 (n : Nat) (a0 : List (C .e86)) (a1 : ByteArray) : runFn X74 (F74 n) Go.Proofs.Try.f74 [.one (.row .e86 a0), .one (.str a1)] dec74 = G74n n a0 a1 := by
  have h : runFn X74 (F74 n) Go.Proofs.Try.f74 [.one (.row .e86 a0), .one (.str a1)] dec74 =
      MP74_0 n  (a1, a0, (a0.length : Int), 0) := by kernel_rfl
  simp only [h, G74n, m74_0]
noncomputable def G74 (a0 : List (C .e86)) (a1 : ByteArray) : Option (Int) := G74n fuel a0 a1
noncomputable def con74 : Con C := { R0 := Int, ret := fun r => [(false, [.int .i64 r])], g := fun vs => match vs with
  | [.one (.row .e86 y0), .one (.str y1)] => G74 y0 y1
  | _ => none }
theorem x74 : XOk Go.Proofs.Try.prog X74 := ⟨tks_ok, els_ok⟩
theorem q74 : Cons Go.Proofs.Try.prog X74 := ⟨lkR_ok (l := []) trivial, lkW_ok (l := []) trivial⟩
theorem c74 : ConOk Go.Proofs.Try.prog KK 74 con74 := by
  refine con_dec x74 q74 (by kernel_rfl) (f := 74) (fn := Go.Proofs.Try.f74) (c := bodyOf Go.Proofs.Try.f74) (by kernel_rfl) (by kernel_rfl) (by kernel_rfl) (nameB (by kernel_rfl)) con74 dec74 (fun rs r0 h => ?_) (fun vs r0 h => ?_)
  · unfold dec74 at h
    split at h
    · cases h; rfl
    · cases h
  · simp only [con74] at h
    split at h
    · rename_i y0 y1
      exact ⟨Nat.le_of_ble_eq_true (by kernel_rfl), F74 fuel, (t74 fuel y0 y1).trans h⟩
    · cases h
/-! ### f45 loop.example/wharfdesk/impl.GateTeamsOk -/
noncomputable def X45 : Cx C := { K := KK, tk := lk tks, con := lkC [(73, con73), (74, con74)], conw := lkC [] }
def F45 (n : Nat) : Cf := { N := n, keep := [0, 2, 3, 4, 6, 7, 8, 11, 12, 13, 14, 15, 49, 51, 52, 53, 54, 60, 71], live := lk [(4, [0, 7, 8, 51, 52, 53]), (2, [0, 51, 52, 53]), (0, [0, 12, 13, 14])] }
def dec45 (rs : List (Bool × List (Lf C))) : Option (Bool) := match rs with
  | [(false, [.bool z0])] => some z0
  | _ => none
abbrev A45_2 : Type := List (C .e86) × Int × ByteArray × List (C .e86) × Int × Int
def s45_2 : A45_2 → St C := fun (x2_0, x2_1, x2_2, x2_3, x2_4, x2_5) => { env := [(0, .one (.row .e86 x2_0)), (7, .one (.int .i64 x2_1)), (8, .one (.str x2_2)), (51, .one (.row .e86 x2_3)), (52, .one (.int .i64 x2_4)), (53, .one (.int .i64 x2_5))], objs := [], base := 0 }
abbrev A45_1 : Type := List (C .e86) × List (C .e86) × Int × Int
def s45_1 : A45_1 → St C := fun (x1_0, x1_1, x1_2, x1_3) => { env := [(0, .one (.row .e86 x1_0)), (51, .one (.row .e86 x1_1)), (52, .one (.int .i64 x1_2)), (53, .one (.int .i64 x1_3))], objs := [], base := 0 }
abbrev A45_0 : Type := List (C .e86) × List (C .e86) × Int × Int
def s45_0 : A45_0 → St C := fun (x0_0, x0_1, x0_2, x0_3) => { env := [(0, .one (.row .e86 x0_0)), (12, .one (.row .e86 x0_1)), (13, .one (.int .i64 x0_2)), (14, .one (.int .i64 x0_3))], objs := [], base := 0 }
noncomputable def r45_2 (n : Nat) (rec1 : A45_1 → Option (Bool)) (rec2 : A45_2 → Option (Bool)) : A45_2 → Option (Bool) := fun (x2_0, x2_1, x2_2, x2_3, x2_4, x2_5) =>
      cond (!decide (x2_2 = (⟨#[]⟩ : ByteArray)))
      (cond (decide ((IntKind.i64.wrap (x2_1 + 1)) > 4))
      (some (false))
      (Option.bind (G74 x2_0 x2_2) fun r7 =>
      cond (decide (0 ≤ r7)) (Option.bind x2_0[r7.toNat]? fun x8 => rec2 (x2_0, IntKind.i64.wrap (x2_1 + 1), x8.Over, x2_3, x2_4, x2_5)) none))
      (rec1 (x2_0, x2_3, x2_4, IntKind.i64.wrap (x2_5 + 1)))
noncomputable def LP45_2 (n : Nat) (rec1 : A45_1 → Option (Bool)) (x : A45_2) : Option (Bool) := lpN (r45_2 n rec1) n x
noncomputable def MP45_2 (n : Nat) (rec1 : St C → Option (Bool)) (x : A45_2) : Option (Bool) := iter (fun rec S => run X45 (F45 n) (codeAt (bodyOf Go.Proofs.Try.f45) [1, 1, 1, 0, 1, 0, 0, 1, 1, 0, 0, 1, 1, 1, 0, 0]) 4 S (lopK rec (blkK 4 (blkK 3 (seqK (run X45 (F45 n) (codeAt (bodyOf Go.Proofs.Try.f45) [1, 1, 1, 0, 1, 0, 0, 1, 1, 1]) 2) (lopK (canThen [0, 51, 52, 53] rec1) (blkK 2 (seqK (run X45 (F45 n) (codeAt (bodyOf Go.Proofs.Try.f45) [1, 1, 1, 1]) 0) (kTop X45 Go.Proofs.Try.f45 dec45))))))))) [0, 7, 8, 51, 52, 53] n (s45_2 x)
theorem m45_2 (n : Nat) (rec1 : St C → Option (Bool)) (x : A45_2) : MP45_2 n rec1 x = LP45_2 n (fun x => rec1 (s45_1 x)) x := by
  refine iter_eq s45_2 (r45_2 n (fun x => rec1 (s45_1 x))) (fun rec2 x => ?_) n x
  obtain ⟨x2_0, x2_1, x2_2, x2_3, x2_4, x2_5⟩ := x
  kernel_rfl
noncomputable def r45_1 (n : Nat)  (rec1 : A45_1 → Option (Bool)) : A45_1 → Option (Bool) := fun (x1_0, x1_1, x1_2, x1_3) =>
      cond (decide (x1_3 < x1_2))
      (cond (decide (0 ≤ x1_3)) (Option.bind x1_1[x1_3.toNat]? fun x6 => LP45_2 n rec1 (x1_0, 0, x6.Over, x1_1, x1_2, x1_3)) none)
      (some (true))
noncomputable def LP45_1 (n : Nat)  (x : A45_1) : Option (Bool) := lpN (r45_1 n ) n x
noncomputable def MP45_1 (n : Nat)  (x : A45_1) : Option (Bool) := iter (fun rec S => run X45 (F45 n) (codeAt (bodyOf Go.Proofs.Try.f45) [1, 1, 1, 0, 1, 0, 0]) 2 S (lopK rec (blkK 2 (seqK (run X45 (F45 n) (codeAt (bodyOf Go.Proofs.Try.f45) [1, 1, 1, 1]) 0) (kTop X45 Go.Proofs.Try.f45 dec45))))) [0, 51, 52, 53] n (s45_1 x)
theorem m45_1 (n : Nat)  (x : A45_1) : MP45_1 n  x = LP45_1 n  x := by
  refine iter_eq s45_1 (r45_1 n ) (fun rec1 x => ?_) n x
  obtain ⟨x1_0, x1_1, x1_2, x1_3⟩ := x
  have h : run X45 (F45 n) (codeAt (bodyOf Go.Proofs.Try.f45) [1, 1, 1, 0, 1, 0, 0]) 2 (s45_1 (x1_0, x1_1, x1_2, x1_3)) (lopK (canThen [0, 51, 52, 53] rec1) (blkK 2 (seqK (run X45 (F45 n) (codeAt (bodyOf Go.Proofs.Try.f45) [1, 1, 1, 1]) 0) (kTop X45 Go.Proofs.Try.f45 dec45)))) =
      cond (decide (x1_3 < x1_2))
      (cond (decide (0 ≤ x1_3)) (Option.bind x1_1[x1_3.toNat]? fun x6 => MP45_2 n rec1 (x1_0, 0, x6.Over, x1_1, x1_2, x1_3)) none)
      (some (true)) := by kernel_rfl
  simp only [m45_2] at h
  exact h
noncomputable def r45_0 (n : Nat)  (rec0 : A45_0 → Option (Bool)) : A45_0 → Option (Bool) := fun (x0_0, x0_1, x0_2, x0_3) =>
      cond (decide (x0_3 < x0_2))
      (cond (decide (0 ≤ x0_3)) (Option.bind x0_1[x0_3.toNat]? fun x1 => Option.bind (G73 x1.Name) fun r2 =>
      cond (!r2)
      (some (false))
      (cond (decide (x0_3 > 0))
      (cond (decide (0 ≤ IntKind.i64.wrap (x0_3 - 1))) (Option.bind x0_0[(IntKind.i64.wrap (x0_3 - 1)).toNat]? fun x3 => cond (!slt x3.Name x1.Name)
      (some (false))
      (cond (!decide (x1.Over = (⟨#[]⟩ : ByteArray)))
      (Option.bind (G74 x0_0 x1.Over) fun r4 =>
      cond (decide (r4 < 0))
      (some (false))
      (rec0 (x0_0, x0_1, x0_2, IntKind.i64.wrap (x0_3 + 1))))
      (rec0 (x0_0, x0_1, x0_2, IntKind.i64.wrap (x0_3 + 1))))) none)
      (cond (!decide (x1.Over = (⟨#[]⟩ : ByteArray)))
      (Option.bind (G74 x0_0 x1.Over) fun r5 =>
      cond (decide (r5 < 0))
      (some (false))
      (rec0 (x0_0, x0_1, x0_2, IntKind.i64.wrap (x0_3 + 1))))
      (rec0 (x0_0, x0_1, x0_2, IntKind.i64.wrap (x0_3 + 1)))))) none)
      (LP45_1 n  (x0_0, x0_0, (x0_0.length : Int), 0))
noncomputable def LP45_0 (n : Nat)  (x : A45_0) : Option (Bool) := lpN (r45_0 n ) n x
noncomputable def MP45_0 (n : Nat)  (x : A45_0) : Option (Bool) := iter (fun rec S => run X45 (F45 n) (codeAt (bodyOf Go.Proofs.Try.f45) [1, 1, 0, 1, 0, 0]) 0 S (lopK rec (blkK 0 (seqK (run X45 (F45 n) (codeAt (bodyOf Go.Proofs.Try.f45) [1, 1, 1]) 0) (kTop X45 Go.Proofs.Try.f45 dec45))))) [0, 12, 13, 14] n (s45_0 x)
theorem m45_0 (n : Nat)  (x : A45_0) : MP45_0 n  x = LP45_0 n  x := by
  refine iter_eq s45_0 (r45_0 n ) (fun rec0 x => ?_) n x
  obtain ⟨x0_0, x0_1, x0_2, x0_3⟩ := x
  have h : run X45 (F45 n) (codeAt (bodyOf Go.Proofs.Try.f45) [1, 1, 0, 1, 0, 0]) 0 (s45_0 (x0_0, x0_1, x0_2, x0_3)) (lopK (canThen [0, 12, 13, 14] rec0) (blkK 0 (seqK (run X45 (F45 n) (codeAt (bodyOf Go.Proofs.Try.f45) [1, 1, 1]) 0) (kTop X45 Go.Proofs.Try.f45 dec45)))) =
      cond (decide (x0_3 < x0_2))
      (cond (decide (0 ≤ x0_3)) (Option.bind x0_1[x0_3.toNat]? fun x1 => Option.bind (G73 x1.Name) fun r2 =>
      cond (!r2)
      (some (false))
      (cond (decide (x0_3 > 0))
      (cond (decide (0 ≤ IntKind.i64.wrap (x0_3 - 1))) (Option.bind x0_0[(IntKind.i64.wrap (x0_3 - 1)).toNat]? fun x3 => cond (!slt x3.Name x1.Name)
      (some (false))
      (cond (!decide (x1.Over = (⟨#[]⟩ : ByteArray)))
      (Option.bind (G74 x0_0 x1.Over) fun r4 =>
      cond (decide (r4 < 0))
      (some (false))
      ((fun x => rec0 (s45_0 x)) (x0_0, x0_1, x0_2, IntKind.i64.wrap (x0_3 + 1))))
      ((fun x => rec0 (s45_0 x)) (x0_0, x0_1, x0_2, IntKind.i64.wrap (x0_3 + 1))))) none)
      (cond (!decide (x1.Over = (⟨#[]⟩ : ByteArray)))
      (Option.bind (G74 x0_0 x1.Over) fun r5 =>
      cond (decide (r5 < 0))
      (some (false))
      ((fun x => rec0 (s45_0 x)) (x0_0, x0_1, x0_2, IntKind.i64.wrap (x0_3 + 1))))
      ((fun x => rec0 (s45_0 x)) (x0_0, x0_1, x0_2, IntKind.i64.wrap (x0_3 + 1)))))) none)
      (MP45_1 n  (x0_0, x0_0, (x0_0.length : Int), 0)) := by kernel_rfl
  simp only [m45_1] at h
  exact h
noncomputable def G45n (n : Nat) (a0 : List (C .e86)) : Option (Bool) :=
      cond (decide ((a0.length : Int) > 12))
      (some (false))
      (LP45_0 n  (a0, a0, (a0.length : Int), 0))
theorem t45 (n : Nat) (a0 : List (C .e86)) : runFn X45 (F45 n) Go.Proofs.Try.f45 [.one (.row .e86 a0)] dec45 = G45n n a0 := by
  have h : runFn X45 (F45 n) Go.Proofs.Try.f45 [.one (.row .e86 a0)] dec45 =
      cond (decide ((a0.length : Int) > 12))
      (some (false))
      (MP45_0 n  (a0, a0, (a0.length : Int), 0)) := by kernel_rfl
  simp only [h, G45n, m45_0]
noncomputable def G45 (a0 : List (C .e86)) : Option (Bool) := G45n fuel a0
noncomputable def con45 : Con C := { R0 := Bool, ret := fun r => [(false, [.bool r])], g := fun vs => match vs with
  | [.one (.row .e86 y0)] => G45 y0
  | _ => none }
theorem x45 : XOk Go.Proofs.Try.prog X45 := ⟨tks_ok, els_ok⟩
theorem q45 : Cons Go.Proofs.Try.prog X45 := ⟨lkR_ok (l := [(73, con73), (74, con74)]) ⟨c73, c74, trivial⟩, lkW_ok (l := []) trivial⟩
theorem c45 : ConOk Go.Proofs.Try.prog KK 45 con45 := by
  refine con_dec x45 q45 (by kernel_rfl) (f := 45) (fn := Go.Proofs.Try.f45) (c := bodyOf Go.Proofs.Try.f45) (by kernel_rfl) (by kernel_rfl) (by kernel_rfl) (nameB (by kernel_rfl)) con45 dec45 (fun rs r0 h => ?_) (fun vs r0 h => ?_)
  · unfold dec45 at h
    split at h
    · cases h; rfl
    · cases h
  · simp only [con45] at h
    split at h
    · rename_i y0
      exact ⟨Nat.le_of_ble_eq_true (by kernel_rfl), F45 fuel, (t45 fuel y0).trans h⟩
    · cases h
/-! ### f75 loop.example/wharfdesk/impl.hwLetters -/
noncomputable def X75 : Cx C := { K := KK, tk := lk tks, con := lkC [], conw := lkC [] }
def F75 (n : Nat) : Cf := { N := n, keep := [0, 2, 3, 4, 6, 7, 8, 30], live := lk [(0, [0, 6, 7])] }
def dec75 (rs : List (Bool × List (Lf C))) : Option (Bool) := match rs with
  | [(false, [.bool z0])] => some z0
  | _ => none
abbrev A75_0 : Type := ByteArray × Int × Int
def s75_0 : A75_0 → St C := fun (x0_0, x0_1, x0_2) => { env := [(0, .one (.str x0_0)), (6, .one (.int .i64 x0_1)), (7, .one (.int .i64 x0_2))], objs := [], base := 0 }
noncomputable def r75_0 (n : Nat)  (rec0 : A75_0 → Option (Bool)) : A75_0 → Option (Bool) := fun (x0_0, x0_1, x0_2) =>
      cond (decide (x0_2 < x0_1))
      (cond (decide (0 ≤ x0_2)) (cond (decide (x0_2 < (x0_0.size : Int))) (cond (decide ((sbt x0_0 x0_2) < 97))
      (cond (decide ((sbt x0_0 x0_2) < 48))
      (cond ((sbt x0_0 x0_2) != 45)
      (some (false))
      (rec0 (x0_0, x0_1, IntKind.i64.wrap (x0_2 + 1))))
      (cond (decide ((sbt x0_0 x0_2) > 57))
      (cond ((sbt x0_0 x0_2) != 45)
      (some (false))
      (rec0 (x0_0, x0_1, IntKind.i64.wrap (x0_2 + 1))))
      (rec0 (x0_0, x0_1, IntKind.i64.wrap (x0_2 + 1)))))
      (cond (decide ((sbt x0_0 x0_2) > 122))
      (cond (decide ((sbt x0_0 x0_2) < 48))
      (cond ((sbt x0_0 x0_2) != 45)
      (some (false))
      (rec0 (x0_0, x0_1, IntKind.i64.wrap (x0_2 + 1))))
      (cond (decide ((sbt x0_0 x0_2) > 57))
      (cond ((sbt x0_0 x0_2) != 45)
      (some (false))
      (rec0 (x0_0, x0_1, IntKind.i64.wrap (x0_2 + 1))))
      (rec0 (x0_0, x0_1, IntKind.i64.wrap (x0_2 + 1)))))
      (rec0 (x0_0, x0_1, IntKind.i64.wrap (x0_2 + 1))))) none) none)
      (some (true))
noncomputable def LP75_0 (n : Nat)  (x : A75_0) : Option (Bool) := lpN (r75_0 n ) n x
noncomputable def MP75_0 (n : Nat)  (x : A75_0) : Option (Bool) := iter (fun rec S => run X75 (F75 n) (codeAt (bodyOf Go.Proofs.Try.f75) [1, 0, 1, 0, 0]) 0 S (lopK rec (blkK 0 (seqK (run X75 (F75 n) (codeAt (bodyOf Go.Proofs.Try.f75) [1, 1]) 0) (kTop X75 Go.Proofs.Try.f75 dec75))))) [0, 6, 7] n (s75_0 x)
theorem m75_0 (n : Nat)  (x : A75_0) : MP75_0 n  x = LP75_0 n  x := by
  refine iter_eq s75_0 (r75_0 n ) (fun rec0 x => ?_) n x
  obtain ⟨x0_0, x0_1, x0_2⟩ := x
  kernel_rfl
noncomputable def G75n (n : Nat) (a0 : ByteArray) : Option (Bool) :=
      LP75_0 n  (a0, (a0.size : Int), 0)
theorem t75 (n : Nat) (a0 : ByteArray) : runFn X75 (F75 n) Go.Proofs.Try.f75 [.one (.str a0)] dec75 = G75n n a0 := by
  have h : runFn X75 (F75 n) Go.Proofs.Try.f75 [.one (.str a0)] dec75 =
      MP75_0 n  (a0, (a0.size : Int), 0) := by kernel_rfl
  simp only [h, G75n, m75_0]
noncomputable def G75 (a0 : ByteArray) : Option (Bool) := G75n fuel a0
noncomputable def con75 : Con C := { R0 := Bool, ret := fun r => [(false, [.bool r])], g := fun vs => match vs with
  | [.one (.str y0)] => G75 y0
  | _ => none }
theorem x75 : XOk Go.Proofs.Try.prog X75 := ⟨tks_ok, els_ok⟩
theorem q75 : Cons Go.Proofs.Try.prog X75 := ⟨lkR_ok (l := []) trivial, lkW_ok (l := []) trivial⟩
theorem c75 : ConOk Go.Proofs.Try.prog KK 75 con75 := by
  refine con_dec x75 q75 (by kernel_rfl) (f := 75) (fn := Go.Proofs.Try.f75) (c := bodyOf Go.Proofs.Try.f75) (by kernel_rfl) (by kernel_rfl) (by kernel_rfl) (nameB (by kernel_rfl)) con75 dec75 (fun rs r0 h => ?_) (fun vs r0 h => ?_)
  · unfold dec75 at h
    split at h
    · cases h; rfl
    · cases h
  · simp only [con75] at h
    split at h
    · rename_i y0
      exact ⟨Nat.le_of_ble_eq_true (by kernel_rfl), F75 fuel, (t75 fuel y0).trans h⟩
    · cases h
/-! ### f46 loop.example/wharfdesk/impl.hwName -/
noncomputable def X46 : Cx C := { K := KK, tk := lk tks, con := lkC [(75, con75)], conw := lkC [] }
def F46 (n : Nat) : Cf := { N := n, keep := [0, 2], live := lk [] }
def dec46 (rs : List (Bool × List (Lf C))) : Option (Bool) := match rs with
  | [(false, [.bool z0])] => some z0
  | _ => none
noncomputable def G46n (n : Nat) (a0 : ByteArray) : Option (Bool) :=
      cond (decide ((a0.size : Int) ≥ 1))
      (cond (decide ((a0.size : Int) ≤ 16))
      (Option.bind (G75 a0) fun r1 =>
      some (r1))
      (some (false)))
      (some (false))
theorem t46 (n : Nat) (a0 : ByteArray) : runFn X46 (F46 n) Go.Proofs.Try.f46 [.one (.str a0)] dec46 = G46n n a0 := by
  kernel_rfl
noncomputable def G46 (a0 : ByteArray) : Option (Bool) := G46n fuel a0
noncomputable def con46 : Con C := { R0 := Bool, ret := fun r => [(false, [.bool r])], g := fun vs => match vs with
  | [.one (.str y0)] => G46 y0
  | _ => none }
theorem x46 : XOk Go.Proofs.Try.prog X46 := ⟨tks_ok, els_ok⟩
theorem q46 : Cons Go.Proofs.Try.prog X46 := ⟨lkR_ok (l := [(75, con75)]) ⟨c75, trivial⟩, lkW_ok (l := []) trivial⟩
theorem c46 : ConOk Go.Proofs.Try.prog KK 46 con46 := by
  refine con_dec x46 q46 (by kernel_rfl) (f := 46) (fn := Go.Proofs.Try.f46) (c := bodyOf Go.Proofs.Try.f46) (by kernel_rfl) (by kernel_rfl) (by kernel_rfl) (nameB (by kernel_rfl)) con46 dec46 (fun rs r0 h => ?_) (fun vs r0 h => ?_)
  · unfold dec46 at h
    split at h
    · cases h; rfl
    · cases h
  · simp only [con46] at h
    split at h
    · rename_i y0
      exact ⟨Nat.le_of_ble_eq_true (by kernel_rfl), F46 fuel, (t46 fuel y0).trans h⟩
    · cases h
/-! ### f47 loop.example/wharfdesk/impl.hwRuleOk -/
noncomputable def X47 : Cx C := { K := KK, tk := lk tks, con := lkC [(46, con46), (75, con75)], conw := lkC [] }
def F47 (n : Nat) : Cf := { N := n, keep := [0, 1, 2, 3, 4, 20, 22, 23, 24, 25, 48], live := lk [(0, [1, 22, 23, 24])] }
def dec47 (rs : List (Bool × List (Lf C))) : Option (Bool) := match rs with
  | [(false, [.bool z0])] => some z0
  | _ => none
abbrev A47_0 : Type := List (C .e3) × ByteArray × ByteArray × ByteArray × List (C .e3) × Int × Int
def s47_0 : A47_0 → St C := fun (x0_0, x0_1, x0_2, x0_3, x0_4, x0_5, x0_6) => { env := [(1, .one (.ptr 64 0)), (22, .one (.row .e3 x0_4)), (23, .one (.int .i64 x0_5)), (24, .one (.int .i64 x0_6))], objs := [(64, .box [.row .e3 x0_0, .str x0_1, .str x0_2, .str x0_3])], base := 0 }
noncomputable def r47_0 (n : Nat)  (rec0 : A47_0 → Option (Bool)) : A47_0 → Option (Bool) := fun (x0_0, x0_1, x0_2, x0_3, x0_4, x0_5, x0_6) =>
      cond (decide (x0_6 < x0_5))
      (cond (decide (0 ≤ x0_6)) (Option.bind x0_4[x0_6.toNat]? fun x2 => cond (decide (x2 < 1))
      (some (false))
      (cond (decide (x2 > 5))
      (some (false))
      (cond (decide (x0_6 > 0))
      (cond (decide (0 ≤ IntKind.i64.wrap (x0_6 - 1))) (Option.bind x0_0[(IntKind.i64.wrap (x0_6 - 1)).toNat]? fun x3 => cond (decide (x3 ≥ x2))
      (some (false))
      (rec0 (x0_0, x0_1, x0_2, x0_3, x0_4, x0_5, IntKind.i64.wrap (x0_6 + 1)))) none)
      (rec0 (x0_0, x0_1, x0_2, x0_3, x0_4, x0_5, IntKind.i64.wrap (x0_6 + 1)))))) none)
      (cond (decide (x0_1 = (⟨#[]⟩ : ByteArray)))
      (cond (decide (x0_2 = (⟨#[]⟩ : ByteArray)))
      (some (true))
      (Option.bind (G46 x0_2) fun r4 =>
      some (r4)))
      (Option.bind (G46 x0_1) fun r5 =>
      cond r5
      (cond (decide (x0_2 = (⟨#[]⟩ : ByteArray)))
      (some (true))
      (Option.bind (G46 x0_2) fun r6 =>
      some (r6)))
      (some (false))))
noncomputable def LP47_0 (n : Nat)  (x : A47_0) : Option (Bool) := lpN (r47_0 n ) n x
noncomputable def MP47_0 (n : Nat)  (x : A47_0) : Option (Bool) := iter (fun rec S => run X47 (F47 n) (codeAt (bodyOf Go.Proofs.Try.f47) [1, 1, 0, 1, 0, 0]) 0 S (lopK rec (blkK 0 (seqK (run X47 (F47 n) (codeAt (bodyOf Go.Proofs.Try.f47) [1, 1, 1]) 0) (kTop X47 Go.Proofs.Try.f47 dec47))))) [1, 22, 23, 24] n (s47_0 x)
theorem m47_0 (n : Nat)  (x : A47_0) : MP47_0 n  x = LP47_0 n  x := by
  refine iter_eq s47_0 (r47_0 n ) (fun rec0 x => ?_) n x
  obtain ⟨x0_0, x0_1, x0_2, x0_3, x0_4, x0_5, x0_6⟩ := x
  kernel_rfl
noncomputable def G47n (n : Nat) (a0 : VGateRule) : Option (Bool) :=
      cond ((a0.Verbs.length : Int) == 0)
      (some (false))
      (cond (decide ((a0.Prefix.size : Int) > 16))
      (some (false))
      (Option.bind (G75 a0.Prefix) fun r1 =>
      cond (!r1)
      (some (false))
      (LP47_0 n  (a0.Verbs, a0.Kind, a0.Team, a0.Prefix, a0.Verbs, (a0.Verbs.length : Int), 0))))
theorem t47 (n : Nat) (a0 : VGateRule) : runFn X47 (F47 n) Go.Proofs.Try.f47 [.agg [.row .e3 a0.Verbs, .str a0.Kind, .str a0.Team, .str a0.Prefix]] dec47 = G47n n a0 := by
  have h : runFn X47 (F47 n) Go.Proofs.Try.f47 [.agg [.row .e3 a0.Verbs, .str a0.Kind, .str a0.Team, .str a0.Prefix]] dec47 =
      cond ((a0.Verbs.length : Int) == 0)
      (some (false))
      (cond (decide ((a0.Prefix.size : Int) > 16))
      (some (false))
      (Option.bind (G75 a0.Prefix) fun r1 =>
      cond (!r1)
      (some (false))
      (MP47_0 n  (a0.Verbs, a0.Kind, a0.Team, a0.Prefix, a0.Verbs, (a0.Verbs.length : Int), 0)))) := by kernel_rfl
  simp only [h, G47n, m47_0]
noncomputable def G47 (a0 : VGateRule) : Option (Bool) := G47n fuel a0
noncomputable def con47 : Con C := { R0 := Bool, ret := fun r => [(false, [.bool r])], g := fun vs => match vs with
  | [.agg [.row .e3 y0_0, .str y0_1, .str y0_2, .str y0_3]] => G47 ⟨y0_0, y0_1, y0_2, y0_3⟩
  | _ => none }
theorem x47 : XOk Go.Proofs.Try.prog X47 := ⟨tks_ok, els_ok⟩
theorem q47 : Cons Go.Proofs.Try.prog X47 := ⟨lkR_ok (l := [(46, con46), (75, con75)]) ⟨c46, c75, trivial⟩, lkW_ok (l := []) trivial⟩
theorem c47 : ConOk Go.Proofs.Try.prog KK 47 con47 := by
  refine con_dec x47 q47 (by kernel_rfl) (f := 47) (fn := Go.Proofs.Try.f47) (c := bodyOf Go.Proofs.Try.f47) (by kernel_rfl) (by kernel_rfl) (by kernel_rfl) (nameB (by kernel_rfl)) con47 dec47 (fun rs r0 h => ?_) (fun vs r0 h => ?_)
  · unfold dec47 at h
    split at h
    · cases h; rfl
    · cases h
  · simp only [con47] at h
    split at h
    · rename_i y0_0 y0_1 y0_2 y0_3
      exact ⟨Nat.le_of_ble_eq_true (by kernel_rfl), F47 fuel, (t47 fuel ⟨y0_0, y0_1, y0_2, y0_3⟩).trans h⟩
    · cases h
/-! ### f21 loop.example/wharfdesk/impl.HallHouseOk -/
noncomputable def X21 : Cx C := { K := KK, tk := lk tks, con := lkC [(45, con45), (46, con46), (47, con47)], conw := lkC [] }
def F21 (n : Nat) : Cf := { N := n, keep := [0, 1, 2, 3, 4, 14, 16, 17, 18, 19, 44], live := lk [(0, [16, 17, 18])] }
def dec21 (rs : List (Bool × List (Lf C))) : Option (Bool) := match rs with
  | [(false, [.bool z0])] => some z0
  | _ => none
abbrev A21_0 : Type := List (C .e74) × Int × Int
def s21_0 : A21_0 → St C := fun (x0_0, x0_1, x0_2) => { env := [(16, .one (.row .e74 x0_0)), (17, .one (.int .i64 x0_1)), (18, .one (.int .i64 x0_2))], objs := [], base := 0 }
noncomputable def r21_0 (n : Nat)  (rec0 : A21_0 → Option (Bool)) : A21_0 → Option (Bool) := fun (x0_0, x0_1, x0_2) =>
      cond (decide (x0_2 < x0_1))
      (cond (decide (0 ≤ x0_2)) (Option.bind x0_0[x0_2.toNat]? fun x2 => cond (x2.Number != (IntKind.i64.wrap (x0_2 + 1)))
      (some (false))
      (Option.bind (G46 x2.To) fun r3 =>
      cond (!r3)
      (some (false))
      (cond (!decide (x2.By = (⟨#[]⟩ : ByteArray)))
      (some (false))
      (Option.bind (G47 (⟨x2.Rule_Verbs, x2.Rule_Kind, x2.Rule_Team, x2.Rule_Prefix⟩ : VGateRule)) fun r4 =>
      cond (!r4)
      (some (false))
      (rec0 (x0_0, x0_1, IntKind.i64.wrap (x0_2 + 1))))))) none)
      (some (true))
noncomputable def LP21_0 (n : Nat)  (x : A21_0) : Option (Bool) := lpN (r21_0 n ) n x
noncomputable def MP21_0 (n : Nat)  (x : A21_0) : Option (Bool) := iter (fun rec S => run X21 (F21 n) (codeAt (bodyOf Go.Proofs.Try.f21) [1, 1, 0, 1, 0, 0]) 0 S (lopK rec (blkK 0 (seqK (run X21 (F21 n) (codeAt (bodyOf Go.Proofs.Try.f21) [1, 1, 1]) 0) (kTop X21 Go.Proofs.Try.f21 dec21))))) [16, 17, 18] n (s21_0 x)
theorem m21_0 (n : Nat)  (x : A21_0) : MP21_0 n  x = LP21_0 n  x := by
  refine iter_eq s21_0 (r21_0 n ) (fun rec0 x => ?_) n x
  obtain ⟨x0_0, x0_1, x0_2⟩ := x
  kernel_rfl
noncomputable def G21n (n : Nat) (a0 : VHallHouse) : Option (Bool) :=
      Option.bind (G45 a0.Teams) fun r1 =>
      cond (!r1)
      (some (false))
      (cond (decide ((a0.Grants.length : Int) > 24))
      (some (false))
      (LP21_0 n  (a0.Grants, (a0.Grants.length : Int), 0)))
theorem t21 (n : Nat) (a0 : VHallHouse) : runFn X21 (F21 n) Go.Proofs.Try.f21 [.agg [.row .e86 a0.Teams, .row .e74 a0.Grants]] dec21 = G21n n a0 := by
  have h : runFn X21 (F21 n) Go.Proofs.Try.f21 [.agg [.row .e86 a0.Teams, .row .e74 a0.Grants]] dec21 =
      Option.bind (G45 a0.Teams) fun r1 =>
      cond (!r1)
      (some (false))
      (cond (decide ((a0.Grants.length : Int) > 24))
      (some (false))
      (MP21_0 n  (a0.Grants, (a0.Grants.length : Int), 0))) := by kernel_rfl
  simp only [h, G21n, m21_0]
noncomputable def G21 (a0 : VHallHouse) : Option (Bool) := G21n fuel a0
noncomputable def con21 : Con C := { R0 := Bool, ret := fun r => [(false, [.bool r])], g := fun vs => match vs with
  | [.agg [.row .e86 y0_0, .row .e74 y0_1]] => G21 ⟨y0_0, y0_1⟩
  | _ => none }
theorem x21 : XOk Go.Proofs.Try.prog X21 := ⟨tks_ok, els_ok⟩
theorem q21 : Cons Go.Proofs.Try.prog X21 := ⟨lkR_ok (l := [(45, con45), (46, con46), (47, con47)]) ⟨c45, c46, c47, trivial⟩, lkW_ok (l := []) trivial⟩
theorem c21 : ConOk Go.Proofs.Try.prog KK 21 con21 := by
  refine con_dec x21 q21 (by kernel_rfl) (f := 21) (fn := Go.Proofs.Try.f21) (c := bodyOf Go.Proofs.Try.f21) (by kernel_rfl) (by kernel_rfl) (by kernel_rfl) (nameB (by kernel_rfl)) con21 dec21 (fun rs r0 h => ?_) (fun vs r0 h => ?_)
  · unfold dec21 at h
    split at h
    · cases h; rfl
    · cases h
  · simp only [con21] at h
    split at h
    · rename_i y0_0 y0_1
      exact ⟨Nat.le_of_ble_eq_true (by kernel_rfl), F21 fuel, (t21 fuel ⟨y0_0, y0_1⟩).trans h⟩
    · cases h
/-! ### f48 slices.Clone[[]loop.example/wharfdesk/impl.GateTeam,loop.example/wharfdesk/impl.GateTeam] -/
noncomputable def X48 : Cx C := { K := KK, tk := lk tks, con := lkC [], conw := lkC [] }
def F48 (n : Nat) : Cf := { N := n, keep := [0, 2, 4], live := lk [] }
def dec48 (rs : List (Bool × List (Lf C))) : Option (List (C .e86)) := match rs with
  | [(false, [.row .e86 z0])] => some z0
  | _ => none
noncomputable def G48n (n : Nat) (a0 : List (C .e86)) : Option (List (C .e86)) :=
      nilq a0.isEmpty
      (some (([] : List (C .e86))))
      (cond (decide (((([] : List (C .e86))).length + a0.length) * 32 ≤ 140737488355328)) (some ((([] : List (C .e86))) ++ a0)) none)
theorem t48 (n : Nat) (a0 : List (C .e86)) : runFn X48 (F48 n) Go.Proofs.Try.f48 [.one (.row .e86 a0)] dec48 = G48n n a0 := by
  kernel_rfl
noncomputable def G48 (a0 : List (C .e86)) : Option (List (C .e86)) := G48n fuel a0
noncomputable def con48 : Con C := { R0 := List (C .e86), ret := fun r => [(false, [.row .e86 r])], g := fun vs => match vs with
  | [.one (.row .e86 y0)] => G48 y0
  | _ => none }
theorem x48 : XOk Go.Proofs.Try.prog X48 := ⟨tks_ok, els_ok⟩
theorem q48 : Cons Go.Proofs.Try.prog X48 := ⟨lkR_ok (l := []) trivial, lkW_ok (l := []) trivial⟩
theorem c48 : ConOk Go.Proofs.Try.prog KK 48 con48 := by
  refine con_dec x48 q48 (by kernel_rfl) (f := 48) (fn := Go.Proofs.Try.f48) (c := bodyOf Go.Proofs.Try.f48) (by kernel_rfl) (by kernel_rfl) (by kernel_rfl) (nameB (by kernel_rfl)) con48 dec48 (fun rs r0 h => ?_) (fun vs r0 h => ?_)
  · unfold dec48 at h
    split at h
    · cases h; rfl
    · cases h
  · simp only [con48] at h
    split at h
    · rename_i y0
      exact ⟨Nat.le_of_ble_eq_true (by kernel_rfl), F48 fuel, (t48 fuel y0).trans h⟩
    · cases h
/-! ### f77 slices.Clone[[]int,int] -/
noncomputable def X77 : Cx C := { K := KK, tk := lk tks, con := lkC [], conw := lkC [] }
def F77 (n : Nat) : Cf := { N := n, keep := [0, 2, 4], live := lk [] }
def dec77 (rs : List (Bool × List (Lf C))) : Option (List (C .e3)) := match rs with
  | [(false, [.row .e3 z0])] => some z0
  | _ => none
noncomputable def G77n (n : Nat) (a0 : List (C .e3)) : Option (List (C .e3)) :=
      nilq a0.isEmpty
      (some (([] : List (C .e3))))
      (cond (decide (((([] : List (C .e3))).length + a0.length) * 8 ≤ 140737488355328)) (some ((([] : List (C .e3))) ++ a0)) none)
theorem t77 (n : Nat) (a0 : List (C .e3)) : runFn X77 (F77 n) Go.Proofs.Try.f77 [.one (.row .e3 a0)] dec77 = G77n n a0 := by
  kernel_rfl
noncomputable def G77 (a0 : List (C .e3)) : Option (List (C .e3)) := G77n fuel a0
noncomputable def con77 : Con C := { R0 := List (C .e3), ret := fun r => [(false, [.row .e3 r])], g := fun vs => match vs with
  | [.one (.row .e3 y0)] => G77 y0
  | _ => none }
theorem x77 : XOk Go.Proofs.Try.prog X77 := ⟨tks_ok, els_ok⟩
theorem q77 : Cons Go.Proofs.Try.prog X77 := ⟨lkR_ok (l := []) trivial, lkW_ok (l := []) trivial⟩
theorem c77 : ConOk Go.Proofs.Try.prog KK 77 con77 := by
  refine con_dec x77 q77 (by kernel_rfl) (f := 77) (fn := Go.Proofs.Try.f77) (c := bodyOf Go.Proofs.Try.f77) (by kernel_rfl) (by kernel_rfl) (by kernel_rfl) (nameB (by kernel_rfl)) con77 dec77 (fun rs r0 h => ?_) (fun vs r0 h => ?_)
  · unfold dec77 at h
    split at h
    · cases h; rfl
    · cases h
  · simp only [con77] at h
    split at h
    · rename_i y0
      exact ⟨Nat.le_of_ble_eq_true (by kernel_rfl), F77 fuel, (t77 fuel y0).trans h⟩
    · cases h

end Go.Proofs.Ytgpopgfidphheaa.Ab
