/- The functions that the law calls, written plainly, and their contracts: each call answers what its plain function answers. No conditions. -/
import Derived.Test.YtpdindhlnehfcaaKd
import Derived.Test.YtpdindhlnehfcaaAw4
set_option linter.unusedVariables false
namespace Go.Proofs.Ytpdindhlnehfcaa.Ab
open Go Go.RowKit
def fuel : Nat := 4611686018427387904
def lkC {α : Type 1} : List (Nat × α) → Nat → Option α
  | [], _ => none
  | (m, v) :: r, n => cond (Nat.beq n m) (some v) (lkC r n)
def allR (P : Program) (K : Cd C) : List (Nat × Con C) → Prop
  | [] => True
  | (f, c) :: r => ConOk P K f c ∧ allR P K r
def allW (P : Program) (K : Cd C) : List (Nat × ConW C) → Prop
  | [] => True
  | (f, c) :: r => ConWOk P K f c ∧ allW P K r
theorem lkR_ok {P : Program} {K : Cd C} : ∀ {l : List (Nat × Con C)}, allR P K l → ∀ f c, lkC l f = some c → ConOk P K f c
  | [], _, f, c, h => by cases h
  | (m, v) :: r, ha, f, c, h => by
    simp only [lkC] at h
    cases hb : Nat.beq f m with
    | true => rw [hb] at h; cases h; have := Nat.eq_of_beq_eq_true hb; subst this; exact ha.1
    | false => rw [hb] at h; exact lkR_ok ha.2 f c h
theorem lkW_ok {P : Program} {K : Cd C} : ∀ {l : List (Nat × ConW C)}, allW P K l → ∀ f c, lkC l f = some c → ConWOk P K f c
  | [], _, f, c, h => by cases h
  | (m, v) :: r, ha, f, c, h => by
    simp only [lkC] at h
    cases hb : Nat.beq f m with
    | true => rw [hb] at h; cases h; have := Nat.eq_of_beq_eq_true hb; subst this; exact ha.1
    | false => rw [hb] at h; exact lkW_ok ha.2 f c h
theorem nameB {s t : String} (h : (s == t) = false) : s ≠ t := by simpa using h
/-! ### f31 loop.example/wharfdesk/laws.szGateTeam -/
noncomputable def X31 : Cx C := { K := KK, tk := lk tks, con := lkC [], conw := lkC [] }
def F31 (n : Nat) : Cf := { N := n, keep := [0, 1, 2, 4, 11, 18], live := lk [] }
def dec31 (rs : List (Bool × List (Lf C))) : Option (Int) := match rs with
  | [(false, [.int .i64 z0])] => some z0
  | _ => none
noncomputable def G31n (n : Nat) (a0 : VGateTeam) (a1 : Int) : Option (Int) :=
      cond (decide ((IntKind.i64.wrap (a1 - (a0.Name.size : Int))) < 0))
      (some ((-1)))
      (cond (decide ((IntKind.i64.wrap ((IntKind.i64.wrap (a1 - (a0.Name.size : Int))) - (a0.Over.size : Int))) < 0))
      (some ((-1)))
      (some (IntKind.i64.wrap ((IntKind.i64.wrap (a1 - (a0.Name.size : Int))) - (a0.Over.size : Int)))))
theorem t31 (n : Nat) (a0 : VGateTeam) (a1 : Int) : runFn X31 (F31 n) Go.Proofs.Try.f31 [.agg [.str a0.Name, .str a0.Over], .one (.int .i64 a1)] dec31 = G31n n a0 a1 := by
  kernel_rfl
noncomputable def G31 (a0 : VGateTeam) (a1 : Int) : Option (Int) := G31n fuel a0 a1
noncomputable def con31 : Con C := { R0 := Int, ret := fun r => [(false, [.int .i64 r])], g := fun vs => match vs with
  | [.agg [.str y0_0, .str y0_1], .one (.int .i64 y1)] => G31 ⟨y0_0, y0_1⟩ y1
  | _ => none }
theorem x31 : XOk Go.Proofs.Try.prog X31 := ⟨tks_ok, els_ok⟩
theorem q31 : Cons Go.Proofs.Try.prog X31 := ⟨lkR_ok (l := []) trivial, lkW_ok (l := []) trivial⟩
theorem c31 : ConOk Go.Proofs.Try.prog KK 31 con31 := by
  refine con_dec x31 q31 (by kernel_rfl) (f := 31) (fn := Go.Proofs.Try.f31) (c := bodyOf Go.Proofs.Try.f31) (by kernel_rfl) (by kernel_rfl) (by kernel_rfl) (nameB (by kernel_rfl)) con31 dec31 (fun rs r0 h => ?_) (fun vs r0 h => ?_)
  · unfold dec31 at h
    split at h
    · cases h; rfl
    · cases h
  · simp only [con31] at h
    split at h
    · rename_i y0_0 y0_1 y1
      exact ⟨Nat.le_of_ble_eq_true (by kernel_rfl), F31 fuel, (t31 fuel ⟨y0_0, y0_1⟩ y1).trans h⟩
    · cases h
/-! ### f13 loop.example/wharfdesk/laws.szGateTeamS -/
noncomputable def X13 : Cx C := { K := KK, tk := lk tks, con := lkC [(31, con31)], conw := lkC [] }
def F13 (n : Nat) : Cf := { N := n, keep := [0, 1, 4, 5, 11, 15, 25], live := lk [(0, [0, 1, 5])] }
def dec13 (rs : List (Bool × List (Lf C))) : Option (Int) := match rs with
  | [(false, [.int .i64 z0])] => some z0
  | _ => none
abbrev A13_0 : Type := List (C .e67) × Int × Int
def s13_0 : A13_0 → St C := fun (x0_0, x0_1, x0_2) => { env := [(0, .one (.row .e67 x0_0)), (1, .one (.int .i64 x0_1)), (5, .one (.int .i64 x0_2))], objs := [], base := 0 }
noncomputable def r13_0 (n : Nat)  (rec0 : A13_0 → Option (Int)) : A13_0 → Option (Int) := fun (x0_0, x0_1, x0_2) =>
      cond (decide (x0_2 < (x0_0.length : Int)))
      (cond (decide (0 ≤ x0_2)) (Option.bind x0_0[x0_2.toNat]? fun x1 => Option.bind (G31 x1 x0_1) fun r2 =>
      cond (decide (r2 < 0))
      (some ((-1)))
      (rec0 (x0_0, r2, IntKind.i64.wrap (x0_2 + 1)))) none)
      (some (x0_1))
noncomputable def LP13_0 (n : Nat)  (x : A13_0) : Option (Int) := lpN (r13_0 n ) n x
noncomputable def MP13_0 (n : Nat)  (x : A13_0) : Option (Int) := iter (fun rec S => run X13 (F13 n) (codeAt (bodyOf Go.Proofs.Try.f13) [1, 1, 1, 0, 1, 0, 0]) 0 S (lopK rec (blkK 0 (seqK (run X13 (F13 n) (codeAt (bodyOf Go.Proofs.Try.f13) [1, 1, 1, 1]) 0) (kTop X13 Go.Proofs.Try.f13 dec13))))) [0, 1, 5] n (s13_0 x)
theorem m13_0 (n : Nat)  (x : A13_0) : MP13_0 n  x = LP13_0 n  x := by
  refine iter_eq s13_0 (r13_0 n ) (fun rec0 x => ?_) n x
  obtain ⟨x0_0, x0_1, x0_2⟩ := x
  kernel_rfl
noncomputable def G13n (n : Nat) (a0 : List (C .e67)) (a1 : Int) : Option (Int) :=
      cond (decide ((IntKind.i64.wrap (a1 - (a0.length : Int))) < 0))
      (some ((-1)))
      (LP13_0 n  (a0, IntKind.i64.wrap (a1 - (a0.length : Int)), 0))
theorem t13 (n : Nat) (a0 : List (C .e67)) (a1 : Int) : runFn X13 (F13 n) Go.Proofs.Try.f13 [.one (.row .e67 a0), .one (.int .i64 a1)] dec13 = G13n n a0 a1 := by
  have h : runFn X13 (F13 n) Go.Proofs.Try.f13 [.one (.row .e67 a0), .one (.int .i64 a1)] dec13 =
      cond (decide ((IntKind.i64.wrap (a1 - (a0.length : Int))) < 0))
      (some ((-1)))
      (MP13_0 n  (a0, IntKind.i64.wrap (a1 - (a0.length : Int)), 0)) := by kernel_rfl
  simp only [h, G13n, m13_0]
noncomputable def G13 (a0 : List (C .e67)) (a1 : Int) : Option (Int) := G13n fuel a0 a1
noncomputable def con13 : Con C := { R0 := Int, ret := fun r => [(false, [.int .i64 r])], g := fun vs => match vs with
  | [.one (.row .e67 y0), .one (.int .i64 y1)] => G13 y0 y1
  | _ => none }
theorem x13 : XOk Go.Proofs.Try.prog X13 := ⟨tks_ok, els_ok⟩
theorem q13 : Cons Go.Proofs.Try.prog X13 := ⟨lkR_ok (l := [(31, con31)]) ⟨c31, trivial⟩, lkW_ok (l := []) trivial⟩
theorem c13 : ConOk Go.Proofs.Try.prog KK 13 con13 := by
  refine con_dec x13 q13 (by kernel_rfl) (f := 13) (fn := Go.Proofs.Try.f13) (c := bodyOf Go.Proofs.Try.f13) (by kernel_rfl) (by kernel_rfl) (by kernel_rfl) (nameB (by kernel_rfl)) con13 dec13 (fun rs r0 h => ?_) (fun vs r0 h => ?_)
  · unfold dec13 at h
    split at h
    · cases h; rfl
    · cases h
  · simp only [con13] at h
    split at h
    · rename_i y0 y1
      exact ⟨Nat.le_of_ble_eq_true (by kernel_rfl), F13 fuel, (t13 fuel y0 y1).trans h⟩
    · cases h
/-! ### f87 loop.example/wharfdesk/laws.szIntS -/
noncomputable def X87 : Cx C := { K := KK, tk := lk tks, con := lkC [], conw := lkC [] }
def F87 (n : Nat) : Cf := { N := n, keep := [0, 1, 4, 10], live := lk [] }
def dec87 (rs : List (Bool × List (Lf C))) : Option (Int) := match rs with
  | [(false, [.int .i64 z0])] => some z0
  | _ => none
noncomputable def G87n (n : Nat) (a0 : List (C .e3)) (a1 : Int) : Option (Int) :=
      cond (decide ((IntKind.i64.wrap (a1 - (a0.length : Int))) < 0))
      (some ((-1)))
      (some (IntKind.i64.wrap (a1 - (a0.length : Int))))
theorem t87 (n : Nat) (a0 : List (C .e3)) (a1 : Int) : runFn X87 (F87 n) Go.Proofs.Try.f87 [.one (.row .e3 a0), .one (.int .i64 a1)] dec87 = G87n n a0 a1 := by
  kernel_rfl
noncomputable def G87 (a0 : List (C .e3)) (a1 : Int) : Option (Int) := G87n fuel a0 a1
noncomputable def con87 : Con C := { R0 := Int, ret := fun r => [(false, [.int .i64 r])], g := fun vs => match vs with
  | [.one (.row .e3 y0), .one (.int .i64 y1)] => G87 y0 y1
  | _ => none }
theorem x87 : XOk Go.Proofs.Try.prog X87 := ⟨tks_ok, els_ok⟩
theorem q87 : Cons Go.Proofs.Try.prog X87 := ⟨lkR_ok (l := []) trivial, lkW_ok (l := []) trivial⟩
theorem c87 : ConOk Go.Proofs.Try.prog KK 87 con87 := by
  refine con_dec x87 q87 (by kernel_rfl) (f := 87) (fn := Go.Proofs.Try.f87) (c := bodyOf Go.Proofs.Try.f87) (by kernel_rfl) (by kernel_rfl) (by kernel_rfl) (nameB (by kernel_rfl)) con87 dec87 (fun rs r0 h => ?_) (fun vs r0 h => ?_)
  · unfold dec87 at h
    split at h
    · cases h; rfl
    · cases h
  · simp only [con87] at h
    split at h
    · rename_i y0 y1
      exact ⟨Nat.le_of_ble_eq_true (by kernel_rfl), F87 fuel, (t87 fuel y0 y1).trans h⟩
    · cases h
/-! ### f68 loop.example/wharfdesk/laws.szGateRule -/
noncomputable def X68 : Cx C := { K := KK, tk := lk tks, con := lkC [(87, con87)], conw := lkC [] }
def F68 (n : Nat) : Cf := { N := n, keep := [0, 1, 2, 4, 10, 17, 24, 31], live := lk [] }
def dec68 (rs : List (Bool × List (Lf C))) : Option (Int) := match rs with
  | [(false, [.int .i64 z0])] => some z0
  | _ => none
noncomputable def G68n (n : Nat) (a0 : VGateRule) (a1 : Int) : Option (Int) :=
      Option.bind (G87 a0.Verbs a1) fun r1 =>
      cond (decide (r1 < 0))
      (some ((-1)))
      (cond (decide ((IntKind.i64.wrap (r1 - (a0.Kind.size : Int))) < 0))
      (some ((-1)))
      (cond (decide ((IntKind.i64.wrap ((IntKind.i64.wrap (r1 - (a0.Kind.size : Int))) - (a0.Team.size : Int))) < 0))
      (some ((-1)))
      (cond (decide ((IntKind.i64.wrap ((IntKind.i64.wrap ((IntKind.i64.wrap (r1 - (a0.Kind.size : Int))) - (a0.Team.size : Int))) - (a0.Prefix.size : Int))) < 0))
      (some ((-1)))
      (some (IntKind.i64.wrap ((IntKind.i64.wrap ((IntKind.i64.wrap (r1 - (a0.Kind.size : Int))) - (a0.Team.size : Int))) - (a0.Prefix.size : Int)))))))
theorem t68 (n : Nat) (a0 : VGateRule) (a1 : Int) : runFn X68 (F68 n) Go.Proofs.Try.f68 [.agg [.row .e3 a0.Verbs, .str a0.Kind, .str a0.Team, .str a0.Prefix], .one (.int .i64 a1)] dec68 = G68n n a0 a1 := by
  kernel_rfl
noncomputable def G68 (a0 : VGateRule) (a1 : Int) : Option (Int) := G68n fuel a0 a1
noncomputable def con68 : Con C := { R0 := Int, ret := fun r => [(false, [.int .i64 r])], g := fun vs => match vs with
  | [.agg [.row .e3 y0_0, .str y0_1, .str y0_2, .str y0_3], .one (.int .i64 y1)] => G68 ⟨y0_0, y0_1, y0_2, y0_3⟩ y1
  | _ => none }
theorem x68 : XOk Go.Proofs.Try.prog X68 := ⟨tks_ok, els_ok⟩
theorem q68 : Cons Go.Proofs.Try.prog X68 := ⟨lkR_ok (l := [(87, con87)]) ⟨c87, trivial⟩, lkW_ok (l := []) trivial⟩
theorem c68 : ConOk Go.Proofs.Try.prog KK 68 con68 := by
  refine con_dec x68 q68 (by kernel_rfl) (f := 68) (fn := Go.Proofs.Try.f68) (c := bodyOf Go.Proofs.Try.f68) (by kernel_rfl) (by kernel_rfl) (by kernel_rfl) (nameB (by kernel_rfl)) con68 dec68 (fun rs r0 h => ?_) (fun vs r0 h => ?_)
  · unfold dec68 at h
    split at h
    · cases h; rfl
    · cases h
  · simp only [con68] at h
    split at h
    · rename_i y0_0 y0_1 y0_2 y0_3 y1
      exact ⟨Nat.le_of_ble_eq_true (by kernel_rfl), F68 fuel, (t68 fuel ⟨y0_0, y0_1, y0_2, y0_3⟩ y1).trans h⟩
    · cases h
/-! ### f32 loop.example/wharfdesk/laws.szGateGrant -/
noncomputable def X32 : Cx C := { K := KK, tk := lk tks, con := lkC [(68, con68)], conw := lkC [] }
def F32 (n : Nat) : Cf := { N := n, keep := [0, 1, 2, 4, 11, 18, 24], live := lk [] }
def dec32 (rs : List (Bool × List (Lf C))) : Option (Int) := match rs with
  | [(false, [.int .i64 z0])] => some z0
  | _ => none
noncomputable def G32n (n : Nat) (a0 : VGateGrant) (a1 : Int) : Option (Int) :=
      cond (decide ((IntKind.i64.wrap (a1 - (a0.To.size : Int))) < 0))
      (some ((-1)))
      (cond (decide ((IntKind.i64.wrap ((IntKind.i64.wrap (a1 - (a0.To.size : Int))) - (a0.By.size : Int))) < 0))
      (some ((-1)))
      (Option.bind (G68 (⟨a0.Rule_Verbs, a0.Rule_Kind, a0.Rule_Team, a0.Rule_Prefix⟩ : VGateRule) (IntKind.i64.wrap ((IntKind.i64.wrap (a1 - (a0.To.size : Int))) - (a0.By.size : Int)))) fun r1 =>
      cond (decide (r1 < 0))
      (some ((-1)))
      (some (r1))))
theorem t32 (n : Nat) (a0 : VGateGrant) (a1 : Int) : runFn X32 (F32 n) Go.Proofs.Try.f32 [.agg [.int .i64 a0.Number, .str a0.To, .str a0.By, .row .e3 a0.Rule_Verbs, .str a0.Rule_Kind, .str a0.Rule_Team, .str a0.Rule_Prefix], .one (.int .i64 a1)] dec32 = G32n n a0 a1 := by
  kernel_rfl
noncomputable def G32 (a0 : VGateGrant) (a1 : Int) : Option (Int) := G32n fuel a0 a1
noncomputable def con32 : Con C := { R0 := Int, ret := fun r => [(false, [.int .i64 r])], g := fun vs => match vs with
  | [.agg [.int .i64 y0_0, .str y0_1, .str y0_2, .row .e3 y0_3, .str y0_4, .str y0_5, .str y0_6], .one (.int .i64 y1)] => G32 ⟨y0_0, y0_1, y0_2, y0_3, y0_4, y0_5, y0_6⟩ y1
  | _ => none }
theorem x32 : XOk Go.Proofs.Try.prog X32 := ⟨tks_ok, els_ok⟩
theorem q32 : Cons Go.Proofs.Try.prog X32 := ⟨lkR_ok (l := [(68, con68)]) ⟨c68, trivial⟩, lkW_ok (l := []) trivial⟩
theorem c32 : ConOk Go.Proofs.Try.prog KK 32 con32 := by
  refine con_dec x32 q32 (by kernel_rfl) (f := 32) (fn := Go.Proofs.Try.f32) (c := bodyOf Go.Proofs.Try.f32) (by kernel_rfl) (by kernel_rfl) (by kernel_rfl) (nameB (by kernel_rfl)) con32 dec32 (fun rs r0 h => ?_) (fun vs r0 h => ?_)
  · unfold dec32 at h
    split at h
    · cases h; rfl
    · cases h
  · simp only [con32] at h
    split at h
    · rename_i y0_0 y0_1 y0_2 y0_3 y0_4 y0_5 y0_6 y1
      exact ⟨Nat.le_of_ble_eq_true (by kernel_rfl), F32 fuel, (t32 fuel ⟨y0_0, y0_1, y0_2, y0_3, y0_4, y0_5, y0_6⟩ y1).trans h⟩
    · cases h
/-! ### f14 loop.example/wharfdesk/laws.szGateGrantS -/
noncomputable def X14 : Cx C := { K := KK, tk := lk tks, con := lkC [(32, con32)], conw := lkC [] }
def F14 (n : Nat) : Cf := { N := n, keep := [0, 1, 4, 5, 11, 15, 25], live := lk [(0, [0, 1, 5])] }
def dec14 (rs : List (Bool × List (Lf C))) : Option (Int) := match rs with
  | [(false, [.int .i64 z0])] => some z0
  | _ => none
abbrev A14_0 : Type := List (C .e73) × Int × Int
def s14_0 : A14_0 → St C := fun (x0_0, x0_1, x0_2) => { env := [(0, .one (.row .e73 x0_0)), (1, .one (.int .i64 x0_1)), (5, .one (.int .i64 x0_2))], objs := [], base := 0 }
noncomputable def r14_0 (n : Nat)  (rec0 : A14_0 → Option (Int)) : A14_0 → Option (Int) := fun (x0_0, x0_1, x0_2) =>
      cond (decide (x0_2 < (x0_0.length : Int)))
      (cond (decide (0 ≤ x0_2)) (Option.bind x0_0[x0_2.toNat]? fun x1 => Option.bind (G32 x1 x0_1) fun r2 =>
      cond (decide (r2 < 0))
      (some ((-1)))
      (rec0 (x0_0, r2, IntKind.i64.wrap (x0_2 + 1)))) none)
      (some (x0_1))
noncomputable def LP14_0 (n : Nat)  (x : A14_0) : Option (Int) := lpN (r14_0 n ) n x
noncomputable def MP14_0 (n : Nat)  (x : A14_0) : Option (Int) := iter (fun rec S => run X14 (F14 n) (codeAt (bodyOf Go.Proofs.Try.f14) [1, 1, 1, 0, 1, 0, 0]) 0 S (lopK rec (blkK 0 (seqK (run X14 (F14 n) (codeAt (bodyOf Go.Proofs.Try.f14) [1, 1, 1, 1]) 0) (kTop X14 Go.Proofs.Try.f14 dec14))))) [0, 1, 5] n (s14_0 x)
theorem m14_0 (n : Nat)  (x : A14_0) : MP14_0 n  x = LP14_0 n  x := by
  refine iter_eq s14_0 (r14_0 n ) (fun rec0 x => ?_) n x
  obtain ⟨x0_0, x0_1, x0_2⟩ := x
  kernel_rfl
noncomputable def G14n (n : Nat) (a0 : List (C .e73)) (a1 : Int) : Option (Int) :=
      cond (decide ((IntKind.i64.wrap (a1 - (a0.length : Int))) < 0))
      (some ((-1)))
      (LP14_0 n  (a0, IntKind.i64.wrap (a1 - (a0.length : Int)), 0))
theorem t14 (n : Nat) (a0 : List (C .e73)) (a1 : Int) : runFn X14 (F14 n) Go.Proofs.Try.f14 [.one (.row .e73 a0), .one (.int .i64 a1)] dec14 = G14n n a0 a1 := by
  have h : runFn X14 (F14 n) Go.Proofs.Try.f14 [.one (.row .e73 a0), .one (.int .i64 a1)] dec14 =
      cond (decide ((IntKind.i64.wrap (a1 - (a0.length : Int))) < 0))
      (some ((-1)))
      (MP14_0 n  (a0, IntKind.i64.wrap (a1 - (a0.length : Int)), 0)) := by kernel_rfl
  simp only [h, G14n, m14_0]
noncomputable def G14 (a0 : List (C .e73)) (a1 : Int) : Option (Int) := G14n fuel a0 a1
noncomputable def con14 : Con C := { R0 := Int, ret := fun r => [(false, [.int .i64 r])], g := fun vs => match vs with
  | [.one (.row .e73 y0), .one (.int .i64 y1)] => G14 y0 y1
  | _ => none }
theorem x14 : XOk Go.Proofs.Try.prog X14 := ⟨tks_ok, els_ok⟩
theorem q14 : Cons Go.Proofs.Try.prog X14 := ⟨lkR_ok (l := [(32, con32)]) ⟨c32, trivial⟩, lkW_ok (l := []) trivial⟩
theorem c14 : ConOk Go.Proofs.Try.prog KK 14 con14 := by
  refine con_dec x14 q14 (by kernel_rfl) (f := 14) (fn := Go.Proofs.Try.f14) (c := bodyOf Go.Proofs.Try.f14) (by kernel_rfl) (by kernel_rfl) (by kernel_rfl) (nameB (by kernel_rfl)) con14 dec14 (fun rs r0 h => ?_) (fun vs r0 h => ?_)
  · unfold dec14 at h
    split at h
    · cases h; rfl
    · cases h
  · simp only [con14] at h
    split at h
    · rename_i y0 y1
      exact ⟨Nat.le_of_ble_eq_true (by kernel_rfl), F14 fuel, (t14 fuel y0 y1).trans h⟩
    · cases h
/-! ### f4 loop.example/wharfdesk/laws.szHallHouse -/
noncomputable def X4 : Cx C := { K := KK, tk := lk tks, con := lkC [(13, con13), (14, con14)], conw := lkC [] }
def F4 (n : Nat) : Cf := { N := n, keep := [0, 1, 2, 4, 10, 16], live := lk [] }
def dec4 (rs : List (Bool × List (Lf C))) : Option (Int) := match rs with
  | [(false, [.int .i64 z0])] => some z0
  | _ => none
noncomputable def G4n (n : Nat) (a0 : VHallHouse) (a1 : Int) : Option (Int) :=
      Option.bind (G13 a0.Teams a1) fun r1 =>
      cond (decide (r1 < 0))
      (some ((-1)))
      (Option.bind (G14 a0.Grants r1) fun r2 =>
      cond (decide (r2 < 0))
      (some ((-1)))
      (some (r2)))
theorem t4 (n : Nat) (a0 : VHallHouse) (a1 : Int) : runFn X4 (F4 n) Go.Proofs.Try.f4 [.agg [.row .e67 a0.Teams, .row .e73 a0.Grants], .one (.int .i64 a1)] dec4 = G4n n a0 a1 := by
  kernel_rfl
noncomputable def G4 (a0 : VHallHouse) (a1 : Int) : Option (Int) := G4n fuel a0 a1
noncomputable def con4 : Con C := { R0 := Int, ret := fun r => [(false, [.int .i64 r])], g := fun vs => match vs with
  | [.agg [.row .e67 y0_0, .row .e73 y0_1], .one (.int .i64 y1)] => G4 ⟨y0_0, y0_1⟩ y1
  | _ => none }
theorem x4 : XOk Go.Proofs.Try.prog X4 := ⟨tks_ok, els_ok⟩
theorem q4 : Cons Go.Proofs.Try.prog X4 := ⟨lkR_ok (l := [(13, con13), (14, con14)]) ⟨c13, c14, trivial⟩, lkW_ok (l := []) trivial⟩
theorem c4 : ConOk Go.Proofs.Try.prog KK 4 con4 := by
  refine con_dec x4 q4 (by kernel_rfl) (f := 4) (fn := Go.Proofs.Try.f4) (c := bodyOf Go.Proofs.Try.f4) (by kernel_rfl) (by kernel_rfl) (by kernel_rfl) (nameB (by kernel_rfl)) con4 dec4 (fun rs r0 h => ?_) (fun vs r0 h => ?_)
  · unfold dec4 at h
    split at h
    · cases h; rfl
    · cases h
  · simp only [con4] at h
    split at h
    · rename_i y0_0 y0_1 y1
      exact ⟨Nat.le_of_ble_eq_true (by kernel_rfl), F4 fuel, (t4 fuel ⟨y0_0, y0_1⟩ y1).trans h⟩
    · cases h
/-! ### f71 loop.example/wharfdesk/spec.l1In -/
noncomputable def X71 : Cx C := { K := KK, tk := lk tks, con := lkC [], conw := lkC [] }
def F71 (n : Nat) : Cf := { N := n, keep := [0, 1, 2, 6], live := lk [] }
def dec71 (rs : List (Bool × List (Lf C))) : Option (Bool) := match rs with
  | [(false, [.bool z0])] => some z0
  | _ => none
noncomputable def G71n (n : Nat) (a0 : Int) (a1 : Int) (a2 : Int) : Option (Bool) :=
      cond (decide (a0 ≥ a1))
      (some (decide (a0 ≤ a2)))
      (some (false))
theorem t71 (n : Nat) (a0 : Int) (a1 : Int) (a2 : Int) : runFn X71 (F71 n) Go.Proofs.Try.f71 [.one (.int .i64 a0), .one (.int .i64 a1), .one (.int .i64 a2)] dec71 = G71n n a0 a1 a2 := by
  kernel_rfl
noncomputable def G71 (a0 : Int) (a1 : Int) (a2 : Int) : Option (Bool) := G71n fuel a0 a1 a2
noncomputable def con71 : Con C := { R0 := Bool, ret := fun r => [(false, [.bool r])], g := fun vs => match vs with
  | [.one (.int .i64 y0), .one (.int .i64 y1), .one (.int .i64 y2)] => G71 y0 y1 y2
  | _ => none }
theorem x71 : XOk Go.Proofs.Try.prog X71 := ⟨tks_ok, els_ok⟩
theorem q71 : Cons Go.Proofs.Try.prog X71 := ⟨lkR_ok (l := []) trivial, lkW_ok (l := []) trivial⟩
theorem c71 : ConOk Go.Proofs.Try.prog KK 71 con71 := by
  refine con_dec x71 q71 (by kernel_rfl) (f := 71) (fn := Go.Proofs.Try.f71) (c := bodyOf Go.Proofs.Try.f71) (by kernel_rfl) (by kernel_rfl) (by kernel_rfl) (nameB (by kernel_rfl)) con71 dec71 (fun rs r0 h => ?_) (fun vs r0 h => ?_)
  · unfold dec71 at h
    split at h
    · cases h; rfl
    · cases h
  · simp only [con71] at h
    split at h
    · rename_i y0 y1 y2
      exact ⟨Nat.le_of_ble_eq_true (by kernel_rfl), F71 fuel, (t71 fuel y0 y1 y2).trans h⟩
    · cases h
/-! ### f72 loop.example/wharfdesk/spec.l1Byte -/
noncomputable def X72 : Cx C := { K := KK, tk := lk tks, con := lkC [], conw := lkC [] }
def F72 (n : Nat) : Cf := { N := n, keep := [0, 2], live := lk [] }
def dec72 (rs : List (Bool × List (Lf C))) : Option (Bool) := match rs with
  | [(false, [.bool z0])] => some z0
  | _ => none
noncomputable def G72n (n : Nat) (a0 : Int) : Option (Bool) :=
      cond (decide (a0 ≥ 97))
      (cond (decide (a0 ≤ 122))
      (some (true))
      (cond (decide (a0 ≥ 48))
      (cond (decide (a0 ≤ 57))
      (some (true))
      (some (a0 == 45)))
      (some (a0 == 45))))
      (cond (decide (a0 ≥ 48))
      (cond (decide (a0 ≤ 57))
      (some (true))
      (some (a0 == 45)))
      (some (a0 == 45)))
theorem t72 (n : Nat) (a0 : Int) : runFn X72 (F72 n) Go.Proofs.Try.f72 [.one (.int .u8 a0)] dec72 = G72n n a0 := by
  kernel_rfl
noncomputable def G72 (a0 : Int) : Option (Bool) := G72n fuel a0
noncomputable def con72 : Con C := { R0 := Bool, ret := fun r => [(false, [.bool r])], g := fun vs => match vs with
  | [.one (.int .u8 y0)] => G72 y0
  | _ => none }
theorem x72 : XOk Go.Proofs.Try.prog X72 := ⟨tks_ok, els_ok⟩
theorem q72 : Cons Go.Proofs.Try.prog X72 := ⟨lkR_ok (l := []) trivial, lkW_ok (l := []) trivial⟩
theorem c72 : ConOk Go.Proofs.Try.prog KK 72 con72 := by
  refine con_dec x72 q72 (by kernel_rfl) (f := 72) (fn := Go.Proofs.Try.f72) (c := bodyOf Go.Proofs.Try.f72) (by kernel_rfl) (by kernel_rfl) (by kernel_rfl) (nameB (by kernel_rfl)) con72 dec72 (fun rs r0 h => ?_) (fun vs r0 h => ?_)
  · unfold dec72 at h
    split at h
    · cases h; rfl
    · cases h
  · simp only [con72] at h
    split at h
    · rename_i y0
      exact ⟨Nat.le_of_ble_eq_true (by kernel_rfl), F72 fuel, (t72 fuel y0).trans h⟩
    · cases h
/-! ### f34 loop.example/wharfdesk/spec.l1NameOk -/
noncomputable def X34 : Cx C := { K := KK, tk := lk tks, con := lkC [(71, con71), (72, con72)], conw := lkC [] }
def F34 (n : Nat) : Cf := { N := n, keep := [0, 2, 3, 7, 11, 18], live := lk [(0, [0, 3])] }
def dec34 (rs : List (Bool × List (Lf C))) : Option (Bool) := match rs with
  | [(false, [.bool z0])] => some z0
  | _ => none
abbrev A34_0 : Type := ByteArray × Int
def s34_0 : A34_0 → St C := fun (x0_0, x0_1) => { env := [(0, .one (.str x0_0)), (3, .one (.int .i64 x0_1))], objs := [], base := 0 }
noncomputable def r34_0 (n : Nat)  (rec0 : A34_0 → Option (Bool)) : A34_0 → Option (Bool) := fun (x0_0, x0_1) =>
      cond (decide (x0_1 < (x0_0.size : Int)))
      (cond (decide (0 ≤ x0_1)) (cond (decide (x0_1 < (x0_0.size : Int))) (Option.bind (G72 (sbt x0_0 x0_1)) fun r2 =>
      cond (!r2)
      (some (false))
      (rec0 (x0_0, IntKind.i64.wrap (x0_1 + 1)))) none) none)
      (some (true))
noncomputable def LP34_0 (n : Nat)  (x : A34_0) : Option (Bool) := lpN (r34_0 n ) n x
noncomputable def MP34_0 (n : Nat)  (x : A34_0) : Option (Bool) := iter (fun rec S => run X34 (F34 n) (codeAt (bodyOf Go.Proofs.Try.f34) [1, 1, 0, 1, 0, 0]) 0 S (lopK rec (blkK 0 (seqK (run X34 (F34 n) (codeAt (bodyOf Go.Proofs.Try.f34) [1, 1, 1]) 0) (kTop X34 Go.Proofs.Try.f34 dec34))))) [0, 3] n (s34_0 x)
theorem m34_0 (n : Nat)  (x : A34_0) : MP34_0 n  x = LP34_0 n  x := by
  refine iter_eq s34_0 (r34_0 n ) (fun rec0 x => ?_) n x
  obtain ⟨x0_0, x0_1⟩ := x
  kernel_rfl
noncomputable def G34n (n : Nat) (a0 : ByteArray) : Option (Bool) :=
      Option.bind (G71 (a0.size : Int) 1 16) fun r1 =>
      cond (!r1)
      (some (false))
      (LP34_0 n  (a0, 0))
theorem t34 (n : Nat) (a0 : ByteArray) : runFn X34 (F34 n) Go.Proofs.Try.f34 [.one (.str a0)] dec34 = G34n n a0 := by
  have h : runFn X34 (F34 n) Go.Proofs.Try.f34 [.one (.str a0)] dec34 =
      Option.bind (G71 (a0.size : Int) 1 16) fun r1 =>
      cond (!r1)
      (some (false))
      (MP34_0 n  (a0, 0)) := by kernel_rfl
  simp only [h, G34n, m34_0]
noncomputable def G34 (a0 : ByteArray) : Option (Bool) := G34n fuel a0
noncomputable def con34 : Con C := { R0 := Bool, ret := fun r => [(false, [.bool r])], g := fun vs => match vs with
  | [.one (.str y0)] => G34 y0
  | _ => none }
theorem x34 : XOk Go.Proofs.Try.prog X34 := ⟨tks_ok, els_ok⟩
theorem q34 : Cons Go.Proofs.Try.prog X34 := ⟨lkR_ok (l := [(71, con71), (72, con72)]) ⟨c71, c72, trivial⟩, lkW_ok (l := []) trivial⟩
theorem c34 : ConOk Go.Proofs.Try.prog KK 34 con34 := by
  refine con_dec x34 q34 (by kernel_rfl) (f := 34) (fn := Go.Proofs.Try.f34) (c := bodyOf Go.Proofs.Try.f34) (by kernel_rfl) (by kernel_rfl) (by kernel_rfl) (nameB (by kernel_rfl)) con34 dec34 (fun rs r0 h => ?_) (fun vs r0 h => ?_)
  · unfold dec34 at h
    split at h
    · cases h; rfl
    · cases h
  · simp only [con34] at h
    split at h
    · rename_i y0
      exact ⟨Nat.le_of_ble_eq_true (by kernel_rfl), F34 fuel, (t34 fuel y0).trans h⟩
    · cases h
/-! ### f69 loop.example/wharfdesk/spec.l4Team -/
noncomputable def X69 : Cx C := { K := KK, tk := lk tks, con := lkC [], conw := lkC [] }
def F69 (n : Nat) : Cf := { N := n, keep := [0, 1, 4, 5, 9, 18], live := lk [(0, [0, 1, 5])] }
def dec69 (rs : List (Bool × List (Lf C))) : Option (Bool) := match rs with
  | [(false, [.bool z0])] => some z0
  | _ => none
abbrev A69_0 : Type := List (C .e85) × ByteArray × Int
def s69_0 : A69_0 → St C := fun (x0_0, x0_1, x0_2) => { env := [(0, .one (.row .e85 x0_0)), (1, .one (.str x0_1)), (5, .one (.int .i64 x0_2))], objs := [], base := 0 }
noncomputable def r69_0 (n : Nat)  (rec0 : A69_0 → Option (Bool)) : A69_0 → Option (Bool) := fun (x0_0, x0_1, x0_2) =>
      cond (decide (x0_2 < (x0_0.length : Int)))
      (cond (decide (0 ≤ x0_2)) (Option.bind x0_0[x0_2.toNat]? fun x1 => cond (decide (x1.Name = x0_1))
      (some (true))
      (rec0 (x0_0, x0_1, IntKind.i64.wrap (x0_2 + 1)))) none)
      (some (false))
noncomputable def LP69_0 (n : Nat)  (x : A69_0) : Option (Bool) := lpN (r69_0 n ) n x
noncomputable def MP69_0 (n : Nat)  (x : A69_0) : Option (Bool) := iter (fun rec S => run X69 (F69 n) (codeAt (bodyOf Go.Proofs.Try.f69) [1, 0, 1, 0, 0]) 0 S (lopK rec (blkK 0 (seqK (run X69 (F69 n) (codeAt (bodyOf Go.Proofs.Try.f69) [1, 1]) 0) (kTop X69 Go.Proofs.Try.f69 dec69))))) [0, 1, 5] n (s69_0 x)
theorem m69_0 (n : Nat)  (x : A69_0) : MP69_0 n  x = LP69_0 n  x := by
  refine iter_eq s69_0 (r69_0 n ) (fun rec0 x => ?_) n x
  obtain ⟨x0_0, x0_1, x0_2⟩ := x
  kernel_rfl
noncomputable def G69n (n : Nat) (a0 : List (C .e85)) (a1 : ByteArray) : Option (Bool) :=
      LP69_0 n  (a0, a1, 0)
theorem t69 (n : Nat) (a0 : List (C .e85)) (a1 : ByteArray) : runFn X69 (F69 n) Go.Proofs.Try.f69 [.one (.row .e85 a0), .one (.str a1)] dec69 = G69n n a0 a1 := by
  have h : runFn X69 (F69 n) Go.Proofs.Try.f69 [.one (.row .e85 a0), .one (.str a1)] dec69 =
      MP69_0 n  (a0, a1, 0) := by kernel_rfl
  simp only [h, G69n, m69_0]
noncomputable def G69 (a0 : List (C .e85)) (a1 : ByteArray) : Option (Bool) := G69n fuel a0 a1
noncomputable def con69 : Con C := { R0 := Bool, ret := fun r => [(false, [.bool r])], g := fun vs => match vs with
  | [.one (.row .e85 y0), .one (.str y1)] => G69 y0 y1
  | _ => none }
theorem x69 : XOk Go.Proofs.Try.prog X69 := ⟨tks_ok, els_ok⟩
theorem q69 : Cons Go.Proofs.Try.prog X69 := ⟨lkR_ok (l := []) trivial, lkW_ok (l := []) trivial⟩
theorem c69 : ConOk Go.Proofs.Try.prog KK 69 con69 := by
  refine con_dec x69 q69 (by kernel_rfl) (f := 69) (fn := Go.Proofs.Try.f69) (c := bodyOf Go.Proofs.Try.f69) (by kernel_rfl) (by kernel_rfl) (by kernel_rfl) (nameB (by kernel_rfl)) con69 dec69 (fun rs r0 h => ?_) (fun vs r0 h => ?_)
  · unfold dec69 at h
    split at h
    · cases h; rfl
    · cases h
  · simp only [con69] at h
    split at h
    · rename_i y0 y1
      exact ⟨Nat.le_of_ble_eq_true (by kernel_rfl), F69 fuel, (t69 fuel y0 y1).trans h⟩
    · cases h
/-! ### f70 loop.example/wharfdesk/spec.l4Over -/
noncomputable def X70 : Cx C := { K := KK, tk := lk tks, con := lkC [], conw := lkC [] }
def F70 (n : Nat) : Cf := { N := n, keep := [0, 1, 4, 5, 9, 18], live := lk [(0, [0, 1, 5])] }
def dec70 (rs : List (Bool × List (Lf C))) : Option (ByteArray) := match rs with
  | [(false, [.str z0])] => some z0
  | _ => none
abbrev A70_0 : Type := List (C .e85) × ByteArray × Int
def s70_0 : A70_0 → St C := fun (x0_0, x0_1, x0_2) => { env := [(0, .one (.row .e85 x0_0)), (1, .one (.str x0_1)), (5, .one (.int .i64 x0_2))], objs := [], base := 0 }
noncomputable def r70_0 (n : Nat)  (rec0 : A70_0 → Option (ByteArray)) : A70_0 → Option (ByteArray) := fun (x0_0, x0_1, x0_2) =>
      cond (decide (x0_2 < (x0_0.length : Int)))
      (cond (decide (0 ≤ x0_2)) (Option.bind x0_0[x0_2.toNat]? fun x1 => cond (decide (x1.Name = x0_1))
      (cond (decide (0 ≤ x0_2)) (Option.bind x0_0[x0_2.toNat]? fun x2 => some (x2.Over)) none)
      (rec0 (x0_0, x0_1, IntKind.i64.wrap (x0_2 + 1)))) none)
      (some ((⟨#[]⟩ : ByteArray)))
noncomputable def LP70_0 (n : Nat)  (x : A70_0) : Option (ByteArray) := lpN (r70_0 n ) n x
noncomputable def MP70_0 (n : Nat)  (x : A70_0) : Option (ByteArray) := iter (fun rec S => run X70 (F70 n) (codeAt (bodyOf Go.Proofs.Try.f70) [1, 0, 1, 0, 0]) 0 S (lopK rec (blkK 0 (seqK (run X70 (F70 n) (codeAt (bodyOf Go.Proofs.Try.f70) [1, 1]) 0) (kTop X70 Go.Proofs.Try.f70 dec70))))) [0, 1, 5] n (s70_0 x)
theorem m70_0 (n : Nat)  (x : A70_0) : MP70_0 n  x = LP70_0 n  x := by
  refine iter_eq s70_0 (r70_0 n ) (fun rec0 x => ?_) n x
  obtain ⟨x0_0, x0_1, x0_2⟩ := x
  kernel_rfl
noncomputable def G70n (n : Nat) (a0 : List (C .e85)) (a1 : ByteArray) : Option (ByteArray) :=
      LP70_0 n  (a0, a1, 0)
theorem t70 (n : Nat) (a0 : List (C .e85)) (a1 : ByteArray) : runFn X70 (F70 n) Go.Proofs.Try.f70 [.one (.row .e85 a0), .one (.str a1)] dec70 = G70n n a0 a1 := by
  have h : runFn X70 (F70 n) Go.Proofs.Try.f70 [.one (.row .e85 a0), .one (.str a1)] dec70 =
      MP70_0 n  (a0, a1, 0) := by kernel_rfl
  simp only [h, G70n, m70_0]
noncomputable def G70 (a0 : List (C .e85)) (a1 : ByteArray) : Option (ByteArray) := G70n fuel a0 a1
noncomputable def con70 : Con C := { R0 := ByteArray, ret := fun r => [(false, [.str r])], g := fun vs => match vs with
  | [.one (.row .e85 y0), .one (.str y1)] => G70 y0 y1
  | _ => none }
theorem x70 : XOk Go.Proofs.Try.prog X70 := ⟨tks_ok, els_ok⟩
theorem q70 : Cons Go.Proofs.Try.prog X70 := ⟨lkR_ok (l := []) trivial, lkW_ok (l := []) trivial⟩
theorem c70 : ConOk Go.Proofs.Try.prog KK 70 con70 := by
  refine con_dec x70 q70 (by kernel_rfl) (f := 70) (fn := Go.Proofs.Try.f70) (c := bodyOf Go.Proofs.Try.f70) (by kernel_rfl) (by kernel_rfl) (by kernel_rfl) (nameB (by kernel_rfl)) con70 dec70 (fun rs r0 h => ?_) (fun vs r0 h => ?_)
  · unfold dec70 at h
    split at h
    · cases h; rfl
    · cases h
  · simp only [con70] at h
    split at h
    · rename_i y0 y1
      exact ⟨Nat.le_of_ble_eq_true (by kernel_rfl), F70 fuel, (t70 fuel y0 y1).trans h⟩
    · cases h
/-! ### f33 loop.example/wharfdesk/spec.GateTeamsOk -/
noncomputable def X33 : Cx C := { K := KK, tk := lk tks, con := lkC [(34, con34), (69, con69), (70, con70)], conw := lkC [] }
def F33 (n : Nat) : Cf := { N := n, keep := [0, 2, 3, 4, 5, 6, 9, 13, 50, 58, 65], live := lk [(2, [0, 3, 5, 6]), (0, [0, 3])] }
def dec33 (rs : List (Bool × List (Lf C))) : Option (Bool) := match rs with
  | [(false, [.bool z0])] => some z0
  | _ => none
abbrev A33_1 : Type := List (C .e85) × Int × ByteArray × Int
def s33_1 : A33_1 → St C := fun (x1_0, x1_1, x1_2, x1_3) => { env := [(0, .one (.row .e85 x1_0)), (3, .one (.int .i64 x1_1)), (5, .one (.str x1_2)), (6, .one (.int .i64 x1_3))], objs := [], base := 0 }
abbrev A33_0 : Type := List (C .e85) × Int
def s33_0 : A33_0 → St C := fun (x0_0, x0_1) => { env := [(0, .one (.row .e85 x0_0)), (3, .one (.int .i64 x0_1))], objs := [], base := 0 }
noncomputable def r33_1 (n : Nat) (rec0 : A33_0 → Option (Bool)) (rec1 : A33_1 → Option (Bool)) : A33_1 → Option (Bool) := fun (x1_0, x1_1, x1_2, x1_3) =>
      cond (decide (x1_3 ≤ 4))
      (cond (!decide (x1_2 = (⟨#[]⟩ : ByteArray)))
      (Option.bind (G70 x1_0 x1_2) fun r5 =>
      rec1 (x1_0, x1_1, r5, IntKind.i64.wrap (x1_3 + 1)))
      (cond (!decide (x1_2 = (⟨#[]⟩ : ByteArray)))
      (some (false))
      (rec0 (x1_0, IntKind.i64.wrap (x1_1 + 1)))))
      (cond (!decide (x1_2 = (⟨#[]⟩ : ByteArray)))
      (some (false))
      (rec0 (x1_0, IntKind.i64.wrap (x1_1 + 1))))
noncomputable def LP33_1 (n : Nat) (rec0 : A33_0 → Option (Bool)) (x : A33_1) : Option (Bool) := lpN (r33_1 n rec0) n x
noncomputable def MP33_1 (n : Nat) (rec0 : St C → Option (Bool)) (x : A33_1) : Option (Bool) := iter (fun rec S => run X33 (F33 n) (codeAt (bodyOf Go.Proofs.Try.f33) [1, 1, 0, 1, 0, 0, 1, 0, 0, 1, 1, 1, 0, 1, 0, 0]) 2 S (lopK rec (blkK 2 (seqK (run X33 (F33 n) (codeAt (bodyOf Go.Proofs.Try.f33) [1, 1, 0, 1, 0, 0, 1, 0, 0, 1, 1, 1, 1]) 1) (blkK 1 (seqK (run X33 (F33 n) (codeAt (bodyOf Go.Proofs.Try.f33) [1, 1, 0, 1, 0, 0, 1, 1]) 0) (lopK (canThen [0, 3] rec0) (blkK 0 (seqK (run X33 (F33 n) (codeAt (bodyOf Go.Proofs.Try.f33) [1, 1, 1]) 0) (kTop X33 Go.Proofs.Try.f33 dec33)))))))))) [0, 3, 5, 6] n (s33_1 x)
theorem m33_1 (n : Nat) (rec0 : St C → Option (Bool)) (x : A33_1) : MP33_1 n rec0 x = LP33_1 n (fun x => rec0 (s33_0 x)) x := by
  refine iter_eq s33_1 (r33_1 n (fun x => rec0 (s33_0 x))) (fun rec1 x => ?_) n x
  obtain ⟨x1_0, x1_1, x1_2, x1_3⟩ := x
  kernel_rfl
noncomputable def r33_0 (n : Nat)  (rec0 : A33_0 → Option (Bool)) : A33_0 → Option (Bool) := fun (x0_0, x0_1) =>
      cond (decide (x0_1 < (x0_0.length : Int)))
      (cond (decide (0 ≤ x0_1)) (Option.bind x0_0[x0_1.toNat]? fun x1 => Option.bind (G34 x1.Name) fun r2 =>
      cond (!r2)
      (some (false))
      (cond (decide (x0_1 > 0))
      (cond (decide (0 ≤ IntKind.i64.wrap (x0_1 - 1))) (Option.bind x0_0[(IntKind.i64.wrap (x0_1 - 1)).toNat]? fun x3 => cond (!slt x3.Name x1.Name)
      (some (false))
      (cond (!decide (x1.Over = (⟨#[]⟩ : ByteArray)))
      (Option.bind (G69 x0_0 x1.Over) fun r4 =>
      cond (!r4)
      (some (false))
      (LP33_1 n rec0 (x0_0, x0_1, x1.Name, 0)))
      (LP33_1 n rec0 (x0_0, x0_1, x1.Name, 0)))) none)
      (cond (!decide (x1.Over = (⟨#[]⟩ : ByteArray)))
      (Option.bind (G69 x0_0 x1.Over) fun r6 =>
      cond (!r6)
      (some (false))
      (LP33_1 n rec0 (x0_0, x0_1, x1.Name, 0)))
      (LP33_1 n rec0 (x0_0, x0_1, x1.Name, 0))))) none)
      (some (true))
noncomputable def LP33_0 (n : Nat)  (x : A33_0) : Option (Bool) := lpN (r33_0 n ) n x
noncomputable def MP33_0 (n : Nat)  (x : A33_0) : Option (Bool) := iter (fun rec S => run X33 (F33 n) (codeAt (bodyOf Go.Proofs.Try.f33) [1, 1, 0, 1, 0, 0]) 0 S (lopK rec (blkK 0 (seqK (run X33 (F33 n) (codeAt (bodyOf Go.Proofs.Try.f33) [1, 1, 1]) 0) (kTop X33 Go.Proofs.Try.f33 dec33))))) [0, 3] n (s33_0 x)
theorem m33_0 (n : Nat)  (x : A33_0) : MP33_0 n  x = LP33_0 n  x := by
  refine iter_eq s33_0 (r33_0 n ) (fun rec0 x => ?_) n x
  obtain ⟨x0_0, x0_1⟩ := x
  have h : run X33 (F33 n) (codeAt (bodyOf Go.Proofs.Try.f33) [1, 1, 0, 1, 0, 0]) 0 (s33_0 (x0_0, x0_1)) (lopK (canThen [0, 3] rec0) (blkK 0 (seqK (run X33 (F33 n) (codeAt (bodyOf Go.Proofs.Try.f33) [1, 1, 1]) 0) (kTop X33 Go.Proofs.Try.f33 dec33)))) =
      cond (decide (x0_1 < (x0_0.length : Int)))
      (cond (decide (0 ≤ x0_1)) (Option.bind x0_0[x0_1.toNat]? fun x1 => Option.bind (G34 x1.Name) fun r2 =>
      cond (!r2)
      (some (false))
      (cond (decide (x0_1 > 0))
      (cond (decide (0 ≤ IntKind.i64.wrap (x0_1 - 1))) (Option.bind x0_0[(IntKind.i64.wrap (x0_1 - 1)).toNat]? fun x3 => cond (!slt x3.Name x1.Name)
      (some (false))
      (cond (!decide (x1.Over = (⟨#[]⟩ : ByteArray)))
      (Option.bind (G69 x0_0 x1.Over) fun r4 =>
      cond (!r4)
      (some (false))
      (MP33_1 n rec0 (x0_0, x0_1, x1.Name, 0)))
      (MP33_1 n rec0 (x0_0, x0_1, x1.Name, 0)))) none)
      (cond (!decide (x1.Over = (⟨#[]⟩ : ByteArray)))
      (Option.bind (G69 x0_0 x1.Over) fun r6 =>
      cond (!r6)
      (some (false))
      (MP33_1 n rec0 (x0_0, x0_1, x1.Name, 0)))
      (MP33_1 n rec0 (x0_0, x0_1, x1.Name, 0))))) none)
      (some (true)) := by kernel_rfl
  simp only [m33_1] at h
  exact h
noncomputable def G33n (n : Nat) (a0 : List (C .e85)) : Option (Bool) :=
      cond (decide ((a0.length : Int) > 12))
      (some (false))
      (LP33_0 n  (a0, 0))
theorem t33 (n : Nat) (a0 : List (C .e85)) : runFn X33 (F33 n) Go.Proofs.Try.f33 [.one (.row .e85 a0)] dec33 = G33n n a0 := by
  have h : runFn X33 (F33 n) Go.Proofs.Try.f33 [.one (.row .e85 a0)] dec33 =
      cond (decide ((a0.length : Int) > 12))
      (some (false))
      (MP33_0 n  (a0, 0)) := by kernel_rfl
  simp only [h, G33n, m33_0]
noncomputable def G33 (a0 : List (C .e85)) : Option (Bool) := G33n fuel a0
noncomputable def con33 : Con C := { R0 := Bool, ret := fun r => [(false, [.bool r])], g := fun vs => match vs with
  | [.one (.row .e85 y0)] => G33 y0
  | _ => none }
theorem x33 : XOk Go.Proofs.Try.prog X33 := ⟨tks_ok, els_ok⟩
theorem q33 : Cons Go.Proofs.Try.prog X33 := ⟨lkR_ok (l := [(34, con34), (69, con69), (70, con70)]) ⟨c34, c69, c70, trivial⟩, lkW_ok (l := []) trivial⟩
theorem c33 : ConOk Go.Proofs.Try.prog KK 33 con33 := by
  refine con_dec x33 q33 (by kernel_rfl) (f := 33) (fn := Go.Proofs.Try.f33) (c := bodyOf Go.Proofs.Try.f33) (by kernel_rfl) (by kernel_rfl) (by kernel_rfl) (nameB (by kernel_rfl)) con33 dec33 (fun rs r0 h => ?_) (fun vs r0 h => ?_)
  · unfold dec33 at h
    split at h
    · cases h; rfl
    · cases h
  · simp only [con33] at h
    split at h
    · rename_i y0
      exact ⟨Nat.le_of_ble_eq_true (by kernel_rfl), F33 fuel, (t33 fuel y0).trans h⟩
    · cases h
/-! ### f35 loop.example/wharfdesk/spec.l4RuleOk -/
noncomputable def X35 : Cx C := { K := KK, tk := lk tks, con := lkC [(34, con34), (71, con71), (72, con72)], conw := lkC [] }
def F35 (n : Nat) : Cf := { N := n, keep := [0, 1, 2, 3, 4, 36, 41, 68, 73, 81], live := lk [(2, [1, 4]), (0, [1, 3])] }
def dec35 (rs : List (Bool × List (Lf C))) : Option (Bool) := match rs with
  | [(false, [.bool z0])] => some z0
  | _ => none
abbrev A35_1 : Type := List (C .e3) × ByteArray × ByteArray × ByteArray × Int
def s35_1 : A35_1 → St C := fun (x1_0, x1_1, x1_2, x1_3, x1_4) => { env := [(1, .one (.ptr 64 0)), (4, .one (.int .i64 x1_4))], objs := [(64, .box [.row .e3 x1_0, .str x1_1, .str x1_2, .str x1_3])], base := 0 }
abbrev A35_0 : Type := List (C .e3) × ByteArray × ByteArray × ByteArray × Int
def s35_0 : A35_0 → St C := fun (x0_0, x0_1, x0_2, x0_3, x0_4) => { env := [(1, .one (.ptr 64 0)), (3, .one (.int .i64 x0_4))], objs := [(64, .box [.row .e3 x0_0, .str x0_1, .str x0_2, .str x0_3])], base := 0 }
noncomputable def r35_1 (n : Nat)  (rec1 : A35_1 → Option (Bool)) : A35_1 → Option (Bool) := fun (x1_0, x1_1, x1_2, x1_3, x1_4) =>
      cond (decide (x1_4 < (x1_3.size : Int)))
      (cond (decide (0 ≤ x1_4)) (cond (decide (x1_4 < (x1_3.size : Int))) (Option.bind (G72 (sbt x1_3 x1_4)) fun r7 =>
      cond (!r7)
      (some (false))
      (rec1 (x1_0, x1_1, x1_2, x1_3, IntKind.i64.wrap (x1_4 + 1)))) none) none)
      (some (true))
noncomputable def LP35_1 (n : Nat)  (x : A35_1) : Option (Bool) := lpN (r35_1 n ) n x
noncomputable def MP35_1 (n : Nat)  (x : A35_1) : Option (Bool) := iter (fun rec S => run X35 (F35 n) (codeAt (bodyOf Go.Proofs.Try.f35) [1, 1, 1, 0, 1, 0, 0]) 2 S (lopK rec (blkK 2 (seqK (run X35 (F35 n) (codeAt (bodyOf Go.Proofs.Try.f35) [1, 1, 1, 1]) 0) (kTop X35 Go.Proofs.Try.f35 dec35))))) [1, 4] n (s35_1 x)
theorem m35_1 (n : Nat)  (x : A35_1) : MP35_1 n  x = LP35_1 n  x := by
  refine iter_eq s35_1 (r35_1 n ) (fun rec1 x => ?_) n x
  obtain ⟨x1_0, x1_1, x1_2, x1_3, x1_4⟩ := x
  kernel_rfl
noncomputable def r35_0 (n : Nat)  (rec0 : A35_0 → Option (Bool)) : A35_0 → Option (Bool) := fun (x0_0, x0_1, x0_2, x0_3, x0_4) =>
      cond (decide (x0_4 < (x0_0.length : Int)))
      (cond (decide (0 ≤ x0_4)) (Option.bind x0_0[x0_4.toNat]? fun x3 => Option.bind (G71 x3 1 5) fun r4 =>
      cond (!r4)
      (some (false))
      (cond (decide (x0_4 > 0))
      (cond (decide (0 ≤ IntKind.i64.wrap (x0_4 - 1))) (Option.bind x0_0[(IntKind.i64.wrap (x0_4 - 1)).toNat]? fun x5 => cond (decide (0 ≤ x0_4)) (Option.bind x0_0[x0_4.toNat]? fun x6 => cond (decide (x5 ≥ x6))
      (some (false))
      (rec0 (x0_0, x0_1, x0_2, x0_3, IntKind.i64.wrap (x0_4 + 1)))) none) none)
      (rec0 (x0_0, x0_1, x0_2, x0_3, IntKind.i64.wrap (x0_4 + 1))))) none)
      (LP35_1 n  (x0_0, x0_1, x0_2, x0_3, 0))
noncomputable def LP35_0 (n : Nat)  (x : A35_0) : Option (Bool) := lpN (r35_0 n ) n x
noncomputable def MP35_0 (n : Nat)  (x : A35_0) : Option (Bool) := iter (fun rec S => run X35 (F35 n) (codeAt (bodyOf Go.Proofs.Try.f35) [1, 1, 0, 1, 0, 0]) 0 S (lopK rec (blkK 0 (seqK (run X35 (F35 n) (codeAt (bodyOf Go.Proofs.Try.f35) [1, 1, 1]) 0) (kTop X35 Go.Proofs.Try.f35 dec35))))) [1, 3] n (s35_0 x)
theorem m35_0 (n : Nat)  (x : A35_0) : MP35_0 n  x = LP35_0 n  x := by
  refine iter_eq s35_0 (r35_0 n ) (fun rec0 x => ?_) n x
  obtain ⟨x0_0, x0_1, x0_2, x0_3, x0_4⟩ := x
  have h : run X35 (F35 n) (codeAt (bodyOf Go.Proofs.Try.f35) [1, 1, 0, 1, 0, 0]) 0 (s35_0 (x0_0, x0_1, x0_2, x0_3, x0_4)) (lopK (canThen [1, 3] rec0) (blkK 0 (seqK (run X35 (F35 n) (codeAt (bodyOf Go.Proofs.Try.f35) [1, 1, 1]) 0) (kTop X35 Go.Proofs.Try.f35 dec35)))) =
      cond (decide (x0_4 < (x0_0.length : Int)))
      (cond (decide (0 ≤ x0_4)) (Option.bind x0_0[x0_4.toNat]? fun x3 => Option.bind (G71 x3 1 5) fun r4 =>
      cond (!r4)
      (some (false))
      (cond (decide (x0_4 > 0))
      (cond (decide (0 ≤ IntKind.i64.wrap (x0_4 - 1))) (Option.bind x0_0[(IntKind.i64.wrap (x0_4 - 1)).toNat]? fun x5 => cond (decide (0 ≤ x0_4)) (Option.bind x0_0[x0_4.toNat]? fun x6 => cond (decide (x5 ≥ x6))
      (some (false))
      ((fun x => rec0 (s35_0 x)) (x0_0, x0_1, x0_2, x0_3, IntKind.i64.wrap (x0_4 + 1)))) none) none)
      ((fun x => rec0 (s35_0 x)) (x0_0, x0_1, x0_2, x0_3, IntKind.i64.wrap (x0_4 + 1))))) none)
      (MP35_1 n  (x0_0, x0_1, x0_2, x0_3, 0)) := by kernel_rfl
  simp only [m35_1] at h
  exact h
noncomputable def G35n (n : Nat) (a0 : VGateRule) : Option (Bool) :=
      cond ((a0.Verbs.length : Int) == 0)
      (some (false))
      (cond (decide ((a0.Prefix.size : Int) > 16))
      (some (false))
      (cond (!decide (a0.Kind = (⟨#[]⟩ : ByteArray)))
      (Option.bind (G34 a0.Kind) fun r1 =>
      cond (!r1)
      (some (false))
      (cond (!decide (a0.Team = (⟨#[]⟩ : ByteArray)))
      (Option.bind (G34 a0.Team) fun r2 =>
      cond (!r2)
      (some (false))
      (LP35_0 n  (a0.Verbs, a0.Kind, a0.Team, a0.Prefix, 0)))
      (LP35_0 n  (a0.Verbs, a0.Kind, a0.Team, a0.Prefix, 0))))
      (cond (!decide (a0.Team = (⟨#[]⟩ : ByteArray)))
      (Option.bind (G34 a0.Team) fun r8 =>
      cond (!r8)
      (some (false))
      (LP35_0 n  (a0.Verbs, a0.Kind, a0.Team, a0.Prefix, 0)))
      (LP35_0 n  (a0.Verbs, a0.Kind, a0.Team, a0.Prefix, 0)))))
theorem t35 (n : Nat) (a0 : VGateRule) : runFn X35 (F35 n) Go.Proofs.Try.f35 [.agg [.row .e3 a0.Verbs, .str a0.Kind, .str a0.Team, .str a0.Prefix]] dec35 = G35n n a0 := by
  have h : runFn X35 (F35 n) Go.Proofs.Try.f35 [.agg [.row .e3 a0.Verbs, .str a0.Kind, .str a0.Team, .str a0.Prefix]] dec35 =
      cond ((a0.Verbs.length : Int) == 0)
      (some (false))
      (cond (decide ((a0.Prefix.size : Int) > 16))
      (some (false))
      (cond (!decide (a0.Kind = (⟨#[]⟩ : ByteArray)))
      (Option.bind (G34 a0.Kind) fun r1 =>
      cond (!r1)
      (some (false))
      (cond (!decide (a0.Team = (⟨#[]⟩ : ByteArray)))
      (Option.bind (G34 a0.Team) fun r2 =>
      cond (!r2)
      (some (false))
      (MP35_0 n  (a0.Verbs, a0.Kind, a0.Team, a0.Prefix, 0)))
      (MP35_0 n  (a0.Verbs, a0.Kind, a0.Team, a0.Prefix, 0))))
      (cond (!decide (a0.Team = (⟨#[]⟩ : ByteArray)))
      (Option.bind (G34 a0.Team) fun r8 =>
      cond (!r8)
      (some (false))
      (MP35_0 n  (a0.Verbs, a0.Kind, a0.Team, a0.Prefix, 0)))
      (MP35_0 n  (a0.Verbs, a0.Kind, a0.Team, a0.Prefix, 0))))) := by kernel_rfl
  simp only [h, G35n, m35_0]
noncomputable def G35 (a0 : VGateRule) : Option (Bool) := G35n fuel a0
noncomputable def con35 : Con C := { R0 := Bool, ret := fun r => [(false, [.bool r])], g := fun vs => match vs with
  | [.agg [.row .e3 y0_0, .str y0_1, .str y0_2, .str y0_3]] => G35 ⟨y0_0, y0_1, y0_2, y0_3⟩
  | _ => none }
theorem x35 : XOk Go.Proofs.Try.prog X35 := ⟨tks_ok, els_ok⟩
theorem q35 : Cons Go.Proofs.Try.prog X35 := ⟨lkR_ok (l := [(34, con34), (71, con71), (72, con72)]) ⟨c34, c71, c72, trivial⟩, lkW_ok (l := []) trivial⟩
theorem c35 : ConOk Go.Proofs.Try.prog KK 35 con35 := by
  refine con_dec x35 q35 (by kernel_rfl) (f := 35) (fn := Go.Proofs.Try.f35) (c := bodyOf Go.Proofs.Try.f35) (by kernel_rfl) (by kernel_rfl) (by kernel_rfl) (nameB (by kernel_rfl)) con35 dec35 (fun rs r0 h => ?_) (fun vs r0 h => ?_)
  · unfold dec35 at h
    split at h
    · cases h; rfl
    · cases h
  · simp only [con35] at h
    split at h
    · rename_i y0_0 y0_1 y0_2 y0_3
      exact ⟨Nat.le_of_ble_eq_true (by kernel_rfl), F35 fuel, (t35 fuel ⟨y0_0, y0_1, y0_2, y0_3⟩).trans h⟩
    · cases h
/-! ### f15 loop.example/wharfdesk/spec.HallHouseOk -/
noncomputable def X15 : Cx C := { K := KK, tk := lk tks, con := lkC [(33, con33), (34, con34), (35, con35)], conw := lkC [] }
def F15 (n : Nat) : Cf := { N := n, keep := [0, 1, 2, 3, 4, 14, 19, 48], live := lk [(0, [1, 3])] }
def dec15 (rs : List (Bool × List (Lf C))) : Option (Bool) := match rs with
  | [(false, [.bool z0])] => some z0
  | _ => none
abbrev A15_0 : Type := List (C .e85) × List (C .e77) × Int
def s15_0 : A15_0 → St C := fun (x0_0, x0_1, x0_2) => { env := [(1, .one (.ptr 64 0)), (3, .one (.int .i64 x0_2))], objs := [(64, .box [.row .e85 x0_0, .row .e77 x0_1])], base := 0 }
noncomputable def r15_0 (n : Nat)  (rec0 : A15_0 → Option (Bool)) : A15_0 → Option (Bool) := fun (x0_0, x0_1, x0_2) =>
      cond (decide (x0_2 < (x0_1.length : Int)))
      (cond (decide (0 ≤ x0_2)) (Option.bind x0_1[x0_2.toNat]? fun x2 => cond (x2.Number != (IntKind.i64.wrap (x0_2 + 1)))
      (some (false))
      (Option.bind (G34 x2.To) fun r3 =>
      cond (!r3)
      (some (false))
      (cond (!decide (x2.By = (⟨#[]⟩ : ByteArray)))
      (some (false))
      (Option.bind (G35 (⟨x2.Rule_Verbs, x2.Rule_Kind, x2.Rule_Team, x2.Rule_Prefix⟩ : VGateRule)) fun r4 =>
      cond (!r4)
      (some (false))
      (rec0 (x0_0, x0_1, IntKind.i64.wrap (x0_2 + 1))))))) none)
      (some (true))
noncomputable def LP15_0 (n : Nat)  (x : A15_0) : Option (Bool) := lpN (r15_0 n ) n x
noncomputable def MP15_0 (n : Nat)  (x : A15_0) : Option (Bool) := iter (fun rec S => run X15 (F15 n) (codeAt (bodyOf Go.Proofs.Try.f15) [1, 1, 0, 1, 0, 0]) 0 S (lopK rec (blkK 0 (seqK (run X15 (F15 n) (codeAt (bodyOf Go.Proofs.Try.f15) [1, 1, 1]) 0) (kTop X15 Go.Proofs.Try.f15 dec15))))) [1, 3] n (s15_0 x)
theorem m15_0 (n : Nat)  (x : A15_0) : MP15_0 n  x = LP15_0 n  x := by
  refine iter_eq s15_0 (r15_0 n ) (fun rec0 x => ?_) n x
  obtain ⟨x0_0, x0_1, x0_2⟩ := x
  kernel_rfl
noncomputable def G15n (n : Nat) (a0 : VHallHouse) : Option (Bool) :=
      Option.bind (G33 a0.Teams) fun r1 =>
      cond (!r1)
      (some (false))
      (cond (decide ((a0.Grants.length : Int) > 24))
      (some (false))
      (LP15_0 n  (a0.Teams, a0.Grants, 0)))
theorem t15 (n : Nat) (a0 : VHallHouse) : runFn X15 (F15 n) Go.Proofs.Try.f15 [.agg [.row .e85 a0.Teams, .row .e77 a0.Grants]] dec15 = G15n n a0 := by
  have h : runFn X15 (F15 n) Go.Proofs.Try.f15 [.agg [.row .e85 a0.Teams, .row .e77 a0.Grants]] dec15 =
      Option.bind (G33 a0.Teams) fun r1 =>
      cond (!r1)
      (some (false))
      (cond (decide ((a0.Grants.length : Int) > 24))
      (some (false))
      (MP15_0 n  (a0.Teams, a0.Grants, 0))) := by kernel_rfl
  simp only [h, G15n, m15_0]
noncomputable def G15 (a0 : VHallHouse) : Option (Bool) := G15n fuel a0
noncomputable def con15 : Con C := { R0 := Bool, ret := fun r => [(false, [.bool r])], g := fun vs => match vs with
  | [.agg [.row .e85 y0_0, .row .e77 y0_1]] => G15 ⟨y0_0, y0_1⟩
  | _ => none }
theorem x15 : XOk Go.Proofs.Try.prog X15 := ⟨tks_ok, els_ok⟩
theorem q15 : Cons Go.Proofs.Try.prog X15 := ⟨lkR_ok (l := [(33, con33), (34, con34), (35, con35)]) ⟨c33, c34, c35, trivial⟩, lkW_ok (l := []) trivial⟩
theorem c15 : ConOk Go.Proofs.Try.prog KK 15 con15 := by
  refine con_dec x15 q15 (by kernel_rfl) (f := 15) (fn := Go.Proofs.Try.f15) (c := bodyOf Go.Proofs.Try.f15) (by kernel_rfl) (by kernel_rfl) (by kernel_rfl) (nameB (by kernel_rfl)) con15 dec15 (fun rs r0 h => ?_) (fun vs r0 h => ?_)
  · unfold dec15 at h
    split at h
    · cases h; rfl
    · cases h
  · simp only [con15] at h
    split at h
    · rename_i y0_0 y0_1
      exact ⟨Nat.le_of_ble_eq_true (by kernel_rfl), F15 fuel, (t15 fuel ⟨y0_0, y0_1⟩).trans h⟩
    · cases h
/-! ### f36 loop.example/wharfdesk/spec.l2Copy -/
noncomputable def X36 : Cx C := { K := KK, tk := lk tks, con := lkC [], conw := lkC [] }
def F36 (n : Nat) : Cf := { N := n, keep := [0, 1, 2], live := lk [] }
def dec36 (rs : List (Bool × List (Lf C))) : Option (VGateObject) := match rs with
  | [(true, [.str z0, .str z1, .str z2, .row .e9 z3, .bool z4, .row .e9 z5, .int .i64 z6])] => some ⟨z0, z1, z2, z3, z4, z5, z6⟩
  | _ => none
noncomputable def G36n (n : Nat) (a0 : VGateObject) : Option (VGateObject) :=
      cond (decide (((([] : List (C .e9))).length + a0.Values.length) * 16 ≤ 140737488355328)) (cond (decide (((([] : List (C .e9))).length + a0.Holds.length) * 16 ≤ 140737488355328)) (some ((⟨a0.Kind, a0.Name, a0.Team, (([] : List (C .e9))) ++ a0.Values, a0.Ending, (([] : List (C .e9))) ++ a0.Holds, a0.Version⟩ : VGateObject))) none) none
theorem t36 (n : Nat) (a0 : VGateObject) : runFn X36 (F36 n) Go.Proofs.Try.f36 [.agg [.str a0.Kind, .str a0.Name, .str a0.Team, .row .e9 a0.Values, .bool a0.Ending, .row .e9 a0.Holds, .int .i64 a0.Version]] dec36 = G36n n a0 := by
  kernel_rfl
noncomputable def G36 (a0 : VGateObject) : Option (VGateObject) := G36n fuel a0
noncomputable def con36 : Con C := { R0 := VGateObject, ret := fun r => [(true, [.str r.Kind, .str r.Name, .str r.Team, .row .e9 r.Values, .bool r.Ending, .row .e9 r.Holds, .int .i64 r.Version])], g := fun vs => match vs with
  | [.agg [.str y0_0, .str y0_1, .str y0_2, .row .e9 y0_3, .bool y0_4, .row .e9 y0_5, .int .i64 y0_6]] => G36 ⟨y0_0, y0_1, y0_2, y0_3, y0_4, y0_5, y0_6⟩
  | _ => none }
theorem x36 : XOk Go.Proofs.Try.prog X36 := ⟨tks_ok, els_ok⟩
theorem q36 : Cons Go.Proofs.Try.prog X36 := ⟨lkR_ok (l := []) trivial, lkW_ok (l := []) trivial⟩
theorem c36 : ConOk Go.Proofs.Try.prog KK 36 con36 := by
  refine con_dec x36 q36 (by kernel_rfl) (f := 36) (fn := Go.Proofs.Try.f36) (c := bodyOf Go.Proofs.Try.f36) (by kernel_rfl) (by kernel_rfl) (by kernel_rfl) (nameB (by kernel_rfl)) con36 dec36 (fun rs r0 h => ?_) (fun vs r0 h => ?_)
  · unfold dec36 at h
    split at h
    · cases h; rfl
    · cases h
  · simp only [con36] at h
    split at h
    · rename_i y0_0 y0_1 y0_2 y0_3 y0_4 y0_5 y0_6
      exact ⟨Nat.le_of_ble_eq_true (by kernel_rfl), F36 fuel, (t36 fuel ⟨y0_0, y0_1, y0_2, y0_3, y0_4, y0_5, y0_6⟩).trans h⟩
    · cases h
/-! ### f37 loop.example/wharfdesk/spec.l5Rule -/
noncomputable def X37 : Cx C := { K := KK, tk := lk tks, con := lkC [], conw := lkC [] }
def F37 (n : Nat) : Cf := { N := n, keep := [0, 1, 2], live := lk [] }
def dec37 (rs : List (Bool × List (Lf C))) : Option (VGateRule) := match rs with
  | [(true, [.row .e3 z0, .str z1, .str z2, .str z3])] => some ⟨z0, z1, z2, z3⟩
  | _ => none
noncomputable def G37n (n : Nat) (a0 : VGateRule) : Option (VGateRule) :=
      cond (decide (((([] : List (C .e3))).length + a0.Verbs.length) * 8 ≤ 140737488355328)) (some ((⟨(([] : List (C .e3))) ++ a0.Verbs, a0.Kind, a0.Team, a0.Prefix⟩ : VGateRule))) none
theorem t37 (n : Nat) (a0 : VGateRule) : runFn X37 (F37 n) Go.Proofs.Try.f37 [.agg [.row .e3 a0.Verbs, .str a0.Kind, .str a0.Team, .str a0.Prefix]] dec37 = G37n n a0 := by
  kernel_rfl
noncomputable def G37 (a0 : VGateRule) : Option (VGateRule) := G37n fuel a0
noncomputable def con37 : Con C := { R0 := VGateRule, ret := fun r => [(true, [.row .e3 r.Verbs, .str r.Kind, .str r.Team, .str r.Prefix])], g := fun vs => match vs with
  | [.agg [.row .e3 y0_0, .str y0_1, .str y0_2, .str y0_3]] => G37 ⟨y0_0, y0_1, y0_2, y0_3⟩
  | _ => none }
theorem x37 : XOk Go.Proofs.Try.prog X37 := ⟨tks_ok, els_ok⟩
theorem q37 : Cons Go.Proofs.Try.prog X37 := ⟨lkR_ok (l := []) trivial, lkW_ok (l := []) trivial⟩
theorem c37 : ConOk Go.Proofs.Try.prog KK 37 con37 := by
  refine con_dec x37 q37 (by kernel_rfl) (f := 37) (fn := Go.Proofs.Try.f37) (c := bodyOf Go.Proofs.Try.f37) (by kernel_rfl) (by kernel_rfl) (by kernel_rfl) (nameB (by kernel_rfl)) con37 dec37 (fun rs r0 h => ?_) (fun vs r0 h => ?_)
  · unfold dec37 at h
    split at h
    · cases h; rfl
    · cases h
  · simp only [con37] at h
    split at h
    · rename_i y0_0 y0_1 y0_2 y0_3
      exact ⟨Nat.le_of_ble_eq_true (by kernel_rfl), F37 fuel, (t37 fuel ⟨y0_0, y0_1, y0_2, y0_3⟩).trans h⟩
    · cases h
/-! ### f16 loop.example/wharfdesk/spec.l5Copy -/
noncomputable def X16 : Cx C := { K := KK, tk := lk tks, con := lkC [(36, con36), (37, con37)], conw := lkC [] }
def F16 (n : Nat) : Cf := { N := n, keep := [0, 1, 2, 3, 4, 5, 6, 18, 36], live := lk [(2, [1, 2, 3, 5]), (0, [1, 2, 3, 4])] }
def dec16 (rs : List (Bool × List (Lf C))) : Option (VGateBook) := match rs with
  | [(true, [.int .i64 z0, .int .i64 z1, .int .i64 z2, .row .e82 z3, .row .e77 z4, .row .e115 z5, .row .e118 z6])] => some ⟨z0, z1, z2, z3, z4, z5, z6⟩
  | _ => none
abbrev A16_1 : Type := Int × Int × Int × List (C .e82) × List (C .e77) × List (C .e115) × List (C .e118) × Int × Int × Int × List (C .e82) × List (C .e77) × List (C .e115) × List (C .e118) × Int × Int × Int × List (C .e82) × List (C .e77) × List (C .e115) × List (C .e118) × Int
def s16_1 : A16_1 → St C := fun (x1_0, x1_1, x1_2, x1_3, x1_4, x1_5, x1_6, x1_7, x1_8, x1_9, x1_10, x1_11, x1_12, x1_13, x1_14, x1_15, x1_16, x1_17, x1_18, x1_19, x1_20, x1_21) => { env := [(1, .one (.ptr 64 0)), (2, .one (.ptr 128 0)), (3, .one (.ptr 192 0)), (5, .one (.int .i64 x1_21))], objs := [(64, .box [.int .i64 x1_0, .int .i64 x1_1, .int .i64 x1_2, .row .e82 x1_3, .row .e77 x1_4, .row .e115 x1_5, .row .e118 x1_6]), (128, .box [.int .i64 x1_7, .int .i64 x1_8, .int .i64 x1_9, .ref 1012803 [], .ref 1012804 [], .ref 1012805 [], .ref 1012806 []]), (1012803, .row .e82 x1_10 false), (1012804, .row .e77 x1_11 false), (1012805, .row .e115 x1_12 false), (1012806, .row .e118 x1_13 false), (192, .box [.int .i64 x1_14, .int .i64 x1_15, .int .i64 x1_16, .ref 1019203 [], .ref 1019204 [], .ref 1019205 [], .ref 1019206 []]), (1019203, .row .e82 x1_17 false), (1019204, .row .e77 x1_18 false), (1019205, .row .e115 x1_19 false), (1019206, .row .e118 x1_20 false)], base := 0 }
abbrev A16_0 : Type := Int × Int × Int × List (C .e82) × List (C .e77) × List (C .e115) × List (C .e118) × Int × Int × Int × List (C .e82) × List (C .e77) × List (C .e115) × List (C .e118) × Int × Int × Int × List (C .e82) × List (C .e77) × List (C .e115) × List (C .e118) × Int
def s16_0 : A16_0 → St C := fun (x0_0, x0_1, x0_2, x0_3, x0_4, x0_5, x0_6, x0_7, x0_8, x0_9, x0_10, x0_11, x0_12, x0_13, x0_14, x0_15, x0_16, x0_17, x0_18, x0_19, x0_20, x0_21) => { env := [(1, .one (.ptr 64 0)), (2, .one (.ptr 128 0)), (3, .one (.ptr 192 0)), (4, .one (.int .i64 x0_21))], objs := [(64, .box [.int .i64 x0_0, .int .i64 x0_1, .int .i64 x0_2, .row .e82 x0_3, .row .e77 x0_4, .row .e115 x0_5, .row .e118 x0_6]), (128, .box [.int .i64 x0_7, .int .i64 x0_8, .int .i64 x0_9, .ref 1012803 [], .ref 1012804 [], .ref 1012805 [], .ref 1012806 []]), (1012803, .row .e82 x0_10 false), (1012804, .row .e77 x0_11 false), (1012805, .row .e115 x0_12 false), (1012806, .row .e118 x0_13 false), (192, .box [.int .i64 x0_14, .int .i64 x0_15, .int .i64 x0_16, .ref 1019203 [], .ref 1019204 [], .ref 1019205 [], .ref 1019206 []]), (1019203, .row .e82 x0_17 false), (1019204, .row .e77 x0_18 false), (1019205, .row .e115 x0_19 false), (1019206, .row .e118 x0_20 false)], base := 0 }
noncomputable def r16_1 (n : Nat)  (rec1 : A16_1 → Option (VGateBook)) : A16_1 → Option (VGateBook) := fun (x1_0, x1_1, x1_2, x1_3, x1_4, x1_5, x1_6, x1_7, x1_8, x1_9, x1_10, x1_11, x1_12, x1_13, x1_14, x1_15, x1_16, x1_17, x1_18, x1_19, x1_20, x1_21) =>
      cond (decide (x1_21 < (x1_4.length : Int)))
      (cond (decide (0 ≤ x1_21)) (Option.bind x1_4[x1_21.toNat]? fun x3 => Option.bind (G37 (⟨x3.Rule_Verbs, x3.Rule_Kind, x3.Rule_Team, x3.Rule_Prefix⟩ : VGateRule)) fun r4 =>
      cond (decide ((x1_18.length + (([(⟨x3.Number, x3.To, x3.By, r4.Verbs, r4.Kind, r4.Team, r4.Prefix⟩ : VGateGrant)] : List (C .e77))).length) * 112 ≤ 140737488355328)) (rec1 (x1_0, x1_1, x1_2, x1_3, x1_4, x1_5, x1_6, x1_7, x1_8, x1_9, x1_10, x1_11, x1_12, x1_13, x1_14, x1_15, x1_16, x1_17, x1_18 ++ (([(⟨x3.Number, x3.To, x3.By, r4.Verbs, r4.Kind, r4.Team, r4.Prefix⟩ : VGateGrant)] : List (C .e77))), x1_19, x1_20, IntKind.i64.wrap (x1_21 + 1))) none) none)
      (cond (decide ((x1_19.length + x1_5.length) * 48 ≤ 140737488355328)) (cond (decide ((x1_20.length + x1_6.length) * 64 ≤ 140737488355328)) (some ((⟨x1_14, x1_15, x1_16, x1_17, x1_18, x1_19 ++ x1_5, x1_20 ++ x1_6⟩ : VGateBook))) none) none)
noncomputable def LP16_1 (n : Nat)  (x : A16_1) : Option (VGateBook) := lpN (r16_1 n ) n x
noncomputable def MP16_1 (n : Nat)  (x : A16_1) : Option (VGateBook) := iter (fun rec S => run X16 (F16 n) (codeAt (bodyOf Go.Proofs.Try.f16) [1, 1, 1, 0, 1, 0, 0]) 2 S (lopK rec (blkK 2 (seqK (run X16 (F16 n) (codeAt (bodyOf Go.Proofs.Try.f16) [1, 1, 1, 1]) 0) (kTop X16 Go.Proofs.Try.f16 dec16))))) [1, 2, 3, 5] n (s16_1 x)
theorem m16_1 (n : Nat)  (x : A16_1) : MP16_1 n  x = LP16_1 n  x := by
  refine iter_eq s16_1 (r16_1 n ) (fun rec1 x => ?_) n x
  obtain ⟨x1_0, x1_1, x1_2, x1_3, x1_4, x1_5, x1_6, x1_7, x1_8, x1_9, x1_10, x1_11, x1_12, x1_13, x1_14, x1_15, x1_16, x1_17, x1_18, x1_19, x1_20, x1_21⟩ := x
  kernel_rfl
noncomputable def r16_0 (n : Nat)  (rec0 : A16_0 → Option (VGateBook)) : A16_0 → Option (VGateBook) := fun (x0_0, x0_1, x0_2, x0_3, x0_4, x0_5, x0_6, x0_7, x0_8, x0_9, x0_10, x0_11, x0_12, x0_13, x0_14, x0_15, x0_16, x0_17, x0_18, x0_19, x0_20, x0_21) =>
      cond (decide (x0_21 < (x0_3.length : Int)))
      (cond (decide (0 ≤ x0_21)) (Option.bind x0_3[x0_21.toNat]? fun x1 => Option.bind (G36 x1) fun r2 =>
      cond (decide ((x0_17.length + (([r2] : List (C .e82))).length) * 112 ≤ 140737488355328)) (rec0 (x0_0, x0_1, x0_2, x0_3, x0_4, x0_5, x0_6, x0_7, x0_8, x0_9, x0_10, x0_11, x0_12, x0_13, x0_14, x0_15, x0_16, x0_17 ++ (([r2] : List (C .e82))), x0_18, x0_19, x0_20, IntKind.i64.wrap (x0_21 + 1))) none) none)
      (LP16_1 n  (x0_0, x0_1, x0_2, x0_3, x0_4, x0_5, x0_6, x0_7, x0_8, x0_9, x0_10, x0_11, x0_12, x0_13, x0_14, x0_15, x0_16, x0_17, x0_18, x0_19, x0_20, 0))
noncomputable def LP16_0 (n : Nat)  (x : A16_0) : Option (VGateBook) := lpN (r16_0 n ) n x
noncomputable def MP16_0 (n : Nat)  (x : A16_0) : Option (VGateBook) := iter (fun rec S => run X16 (F16 n) (codeAt (bodyOf Go.Proofs.Try.f16) [1, 1, 0, 1, 0, 0]) 0 S (lopK rec (blkK 0 (seqK (run X16 (F16 n) (codeAt (bodyOf Go.Proofs.Try.f16) [1, 1, 1]) 0) (kTop X16 Go.Proofs.Try.f16 dec16))))) [1, 2, 3, 4] n (s16_0 x)
theorem m16_0 (n : Nat)  (x : A16_0) : MP16_0 n  x = LP16_0 n  x := by
  refine iter_eq s16_0 (r16_0 n ) (fun rec0 x => ?_) n x
  obtain ⟨x0_0, x0_1, x0_2, x0_3, x0_4, x0_5, x0_6, x0_7, x0_8, x0_9, x0_10, x0_11, x0_12, x0_13, x0_14, x0_15, x0_16, x0_17, x0_18, x0_19, x0_20, x0_21⟩ := x
  have h : run X16 (F16 n) (codeAt (bodyOf Go.Proofs.Try.f16) [1, 1, 0, 1, 0, 0]) 0 (s16_0 (x0_0, x0_1, x0_2, x0_3, x0_4, x0_5, x0_6, x0_7, x0_8, x0_9, x0_10, x0_11, x0_12, x0_13, x0_14, x0_15, x0_16, x0_17, x0_18, x0_19, x0_20, x0_21)) (lopK (canThen [1, 2, 3, 4] rec0) (blkK 0 (seqK (run X16 (F16 n) (codeAt (bodyOf Go.Proofs.Try.f16) [1, 1, 1]) 0) (kTop X16 Go.Proofs.Try.f16 dec16)))) =
      cond (decide (x0_21 < (x0_3.length : Int)))
      (cond (decide (0 ≤ x0_21)) (Option.bind x0_3[x0_21.toNat]? fun x1 => Option.bind (G36 x1) fun r2 =>
      cond (decide ((x0_17.length + (([r2] : List (C .e82))).length) * 112 ≤ 140737488355328)) ((fun x => rec0 (s16_0 x)) (x0_0, x0_1, x0_2, x0_3, x0_4, x0_5, x0_6, x0_7, x0_8, x0_9, x0_10, x0_11, x0_12, x0_13, x0_14, x0_15, x0_16, x0_17 ++ (([r2] : List (C .e82))), x0_18, x0_19, x0_20, IntKind.i64.wrap (x0_21 + 1))) none) none)
      (MP16_1 n  (x0_0, x0_1, x0_2, x0_3, x0_4, x0_5, x0_6, x0_7, x0_8, x0_9, x0_10, x0_11, x0_12, x0_13, x0_14, x0_15, x0_16, x0_17, x0_18, x0_19, x0_20, 0)) := by kernel_rfl
  simp only [m16_1] at h
  exact h
noncomputable def G16n (n : Nat) (a0 : VGateBook) : Option (VGateBook) :=
      LP16_0 n  (a0.Now, a0.Tick, a0.Given, a0.Objects, a0.Grants, a0.Ledgers, a0.Purses, 0, 0, 0, ([] : List (C .e82)), ([] : List (C .e77)), ([] : List (C .e115)), ([] : List (C .e118)), a0.Now, a0.Tick, a0.Given, ([] : List (C .e82)), ([] : List (C .e77)), ([] : List (C .e115)), ([] : List (C .e118)), 0)
theorem t16 (n : Nat) (a0 : VGateBook) : runFn X16 (F16 n) Go.Proofs.Try.f16 [.agg [.int .i64 a0.Now, .int .i64 a0.Tick, .int .i64 a0.Given, .row .e82 a0.Objects, .row .e77 a0.Grants, .row .e115 a0.Ledgers, .row .e118 a0.Purses]] dec16 = G16n n a0 := by
  have h : runFn X16 (F16 n) Go.Proofs.Try.f16 [.agg [.int .i64 a0.Now, .int .i64 a0.Tick, .int .i64 a0.Given, .row .e82 a0.Objects, .row .e77 a0.Grants, .row .e115 a0.Ledgers, .row .e118 a0.Purses]] dec16 =
      MP16_0 n  (a0.Now, a0.Tick, a0.Given, a0.Objects, a0.Grants, a0.Ledgers, a0.Purses, 0, 0, 0, ([] : List (C .e82)), ([] : List (C .e77)), ([] : List (C .e115)), ([] : List (C .e118)), a0.Now, a0.Tick, a0.Given, ([] : List (C .e82)), ([] : List (C .e77)), ([] : List (C .e115)), ([] : List (C .e118)), 0) := by kernel_rfl
  simp only [h, G16n, m16_0]
noncomputable def G16 (a0 : VGateBook) : Option (VGateBook) := G16n fuel a0
noncomputable def con16 : Con C := { R0 := VGateBook, ret := fun r => [(true, [.int .i64 r.Now, .int .i64 r.Tick, .int .i64 r.Given, .row .e82 r.Objects, .row .e77 r.Grants, .row .e115 r.Ledgers, .row .e118 r.Purses])], g := fun vs => match vs with
  | [.agg [.int .i64 y0_0, .int .i64 y0_1, .int .i64 y0_2, .row .e82 y0_3, .row .e77 y0_4, .row .e115 y0_5, .row .e118 y0_6]] => G16 ⟨y0_0, y0_1, y0_2, y0_3, y0_4, y0_5, y0_6⟩
  | _ => none }
theorem x16 : XOk Go.Proofs.Try.prog X16 := ⟨tks_ok, els_ok⟩
theorem q16 : Cons Go.Proofs.Try.prog X16 := ⟨lkR_ok (l := [(36, con36), (37, con37)]) ⟨c36, c37, trivial⟩, lkW_ok (l := []) trivial⟩
theorem c16 : ConOk Go.Proofs.Try.prog KK 16 con16 := by
  refine con_dec x16 q16 (by kernel_rfl) (f := 16) (fn := Go.Proofs.Try.f16) (c := bodyOf Go.Proofs.Try.f16) (by kernel_rfl) (by kernel_rfl) (by kernel_rfl) (nameB (by kernel_rfl)) con16 dec16 (fun rs r0 h => ?_) (fun vs r0 h => ?_)
  · unfold dec16 at h
    split at h
    · cases h; rfl
    · cases h
  · simp only [con16] at h
    split at h
    · rename_i y0_0 y0_1 y0_2 y0_3 y0_4 y0_5 y0_6
      exact ⟨Nat.le_of_ble_eq_true (by kernel_rfl), F16 fuel, (t16 fuel ⟨y0_0, y0_1, y0_2, y0_3, y0_4, y0_5, y0_6⟩).trans h⟩
    · cases h
/-! ### f5 loop.example/wharfdesk/spec.HallFirst -/
noncomputable def X5 : Cx C := { K := KK, tk := lk tks, con := lkC [(15, con15), (16, con16)], conw := lkC [] }
def F5 (n : Nat) : Cf := { N := n, keep := [0, 1, 2, 3, 6], live := lk [] }
def dec5 (rs : List (Bool × List (Lf C))) : Option (VHallBook) := match rs with
  | [(true, [.int .i64 z0, .int .i64 z1, .int .i64 z2, .row .e82 z3, .row .e77 z4, .row .e115 z5, .row .e118 z6, .int .i64 z7, .row .e121 z8, .row .e124 z9, .row .e127 z10])] => some ⟨z0, z1, z2, z3, z4, z5, z6, z7, z8, z9, z10⟩
  | _ => none
noncomputable def G5n (n : Nat) (a0 : VHallHouse) : Option (VHallBook) :=
      Option.bind (G15 a0) fun r1 =>
      cond (!r1)
      (some ((⟨0, 0, 0, ([] : List (C .e82)), ([] : List (C .e77)), ([] : List (C .e115)), ([] : List (C .e118)), 0, ([] : List (C .e121)), ([] : List (C .e124)), ([] : List (C .e127))⟩ : VHallBook)))
      (Option.bind (G16 ((⟨(a0.Grants.length : Int), 0, (a0.Grants.length : Int), ([] : List (C .e82)), a0.Grants, ([] : List (C .e115)), ([] : List (C .e118))⟩ : VGateBook))) fun r2 =>
      some ((⟨r2.Now, r2.Tick, r2.Given, r2.Objects, r2.Grants, r2.Ledgers, r2.Purses, 0, ([] : List (C .e121)), ([] : List (C .e124)), ([] : List (C .e127))⟩ : VHallBook)))
theorem t5 (n : Nat) (a0 : VHallHouse) : runFn X5 (F5 n) Go.Proofs.Try.f5 [.agg [.row .e85 a0.Teams, .row .e77 a0.Grants]] dec5 = G5n n a0 := by
  kernel_rfl
noncomputable def G5 (a0 : VHallHouse) : Option (VHallBook) := G5n fuel a0
noncomputable def con5 : Con C := { R0 := VHallBook, ret := fun r => [(true, [.int .i64 r.Gate_Now, .int .i64 r.Gate_Tick, .int .i64 r.Gate_Given, .row .e82 r.Gate_Objects, .row .e77 r.Gate_Grants, .row .e115 r.Gate_Ledgers, .row .e118 r.Gate_Purses, .int .i64 r.Stew_Now, .row .e121 r.Stew_Services, .row .e124 r.Stew_Copies, .row .e127 r.Stew_Berths])], g := fun vs => match vs with
  | [.agg [.row .e85 y0_0, .row .e77 y0_1]] => G5 ⟨y0_0, y0_1⟩
  | _ => none }
theorem x5 : XOk Go.Proofs.Try.prog X5 := ⟨tks_ok, els_ok⟩
theorem q5 : Cons Go.Proofs.Try.prog X5 := ⟨lkR_ok (l := [(15, con15), (16, con16)]) ⟨c15, c16, trivial⟩, lkW_ok (l := []) trivial⟩
theorem c5 : ConOk Go.Proofs.Try.prog KK 5 con5 := by
  refine con_dec x5 q5 (by kernel_rfl) (f := 5) (fn := Go.Proofs.Try.f5) (c := bodyOf Go.Proofs.Try.f5) (by kernel_rfl) (by kernel_rfl) (by kernel_rfl) (nameB (by kernel_rfl)) con5 dec5 (fun rs r0 h => ?_) (fun vs r0 h => ?_)
  · unfold dec5 at h
    split at h
    · cases h; rfl
    · cases h
  · simp only [con5] at h
    split at h
    · rename_i y0_0 y0_1
      exact ⟨Nat.le_of_ble_eq_true (by kernel_rfl), F5 fuel, (t5 fuel ⟨y0_0, y0_1⟩).trans h⟩
    · cases h
/-! ### f38 loop.example/wharfdesk/laws.toGateTeam -/
noncomputable def X38 : Cx C := { K := KK, tk := lk tks, con := lkC [], conw := lkC [] }
def F38 (n : Nat) : Cf := { N := n, keep := [0, 1, 2, 3], live := lk [] }
def dec38 (rs : List (Bool × List (Lf C))) : Option (VGateTeam) := match rs with
  | [(true, [.str z0, .str z1])] => some ⟨z0, z1⟩
  | _ => none
noncomputable def G38n (n : Nat) (a0 : VGateTeam) : Option (VGateTeam) :=
      some (a0)
theorem t38 (n : Nat) (a0 : VGateTeam) : runFn X38 (F38 n) Go.Proofs.Try.f38 [.agg [.str a0.Name, .str a0.Over]] dec38 = G38n n a0 := by
  kernel_rfl
noncomputable def G38 (a0 : VGateTeam) : Option (VGateTeam) := G38n fuel a0
noncomputable def con38 : Con C := { R0 := VGateTeam, ret := fun r => [(true, [.str r.Name, .str r.Over])], g := fun vs => match vs with
  | [.agg [.str y0_0, .str y0_1]] => G38 ⟨y0_0, y0_1⟩
  | _ => none }
theorem x38 : XOk Go.Proofs.Try.prog X38 := ⟨tks_ok, els_ok⟩
theorem q38 : Cons Go.Proofs.Try.prog X38 := ⟨lkR_ok (l := []) trivial, lkW_ok (l := []) trivial⟩
theorem c38 : ConOk Go.Proofs.Try.prog KK 38 con38 := by
  refine con_dec x38 q38 (by kernel_rfl) (f := 38) (fn := Go.Proofs.Try.f38) (c := bodyOf Go.Proofs.Try.f38) (by kernel_rfl) (by kernel_rfl) (by kernel_rfl) (nameB (by kernel_rfl)) con38 dec38 (fun rs r0 h => ?_) (fun vs r0 h => ?_)
  · unfold dec38 at h
    split at h
    · cases h; rfl
    · cases h
  · simp only [con38] at h
    split at h
    · rename_i y0_0 y0_1
      exact ⟨Nat.le_of_ble_eq_true (by kernel_rfl), F38 fuel, (t38 fuel ⟨y0_0, y0_1⟩).trans h⟩
    · cases h
/-! ### f17 loop.example/wharfdesk/laws.toGateTeamS -/
noncomputable def X17 : Cx C := { K := KK, tk := lk tks, con := lkC [(38, con38)], conw := lkC [] }
def F17 (n : Nat) : Cf := { N := n, keep := [0, 2, 3, 4, 11], live := lk [(0, [0, 3, 4])] }
def dec17 (rs : List (Bool × List (Lf C))) : Option (List (C .e85)) := match rs with
  | [(false, [.row .e85 z0])] => some z0
  | _ => none
abbrev A17_0 : Type := List (C .e67) × List (C .e85) × Int
def s17_0 : A17_0 → St C := fun (x0_0, x0_1, x0_2) => { env := [(0, .one (.row .e67 x0_0)), (3, .one (.ref 100003 [])), (4, .one (.int .i64 x0_2))], objs := [(100003, .row .e85 x0_1 false)], base := 0 }
noncomputable def r17_0 (n : Nat)  (rec0 : A17_0 → Option (List (C .e85))) : A17_0 → Option (List (C .e85)) := fun (x0_0, x0_1, x0_2) =>
      cond (decide (x0_2 < (x0_0.length : Int)))
      (cond (decide (0 ≤ x0_2)) (Option.bind x0_0[x0_2.toNat]? fun x1 => Option.bind (G38 x1) fun r2 =>
      cond (decide (0 ≤ x0_2)) (cond (decide (x0_2 < (x0_1.length : Int))) (Option.bind x0_1[x0_2.toNat]? fun x3 => rec0 (x0_0, x0_1.set x0_2.toNat r2, IntKind.i64.wrap (x0_2 + 1))) none) none) none)
      (some (x0_1))
noncomputable def LP17_0 (n : Nat)  (x : A17_0) : Option (List (C .e85)) := lpN (r17_0 n ) n x
noncomputable def MP17_0 (n : Nat)  (x : A17_0) : Option (List (C .e85)) := iter (fun rec S => run X17 (F17 n) (codeAt (bodyOf Go.Proofs.Try.f17) [1, 1, 0, 1, 0, 0]) 0 S (lopK rec (blkK 0 (seqK (run X17 (F17 n) (codeAt (bodyOf Go.Proofs.Try.f17) [1, 1, 1]) 0) (kTop X17 Go.Proofs.Try.f17 dec17))))) [0, 3, 4] n (s17_0 x)
theorem m17_0 (n : Nat)  (x : A17_0) : MP17_0 n  x = LP17_0 n  x := by
  refine iter_eq s17_0 (r17_0 n ) (fun rec0 x => ?_) n x
  obtain ⟨x0_0, x0_1, x0_2⟩ := x
  kernel_rfl
noncomputable def G17n (n : Nat) (a0 : List (C .e67)) : Option (List (C .e85)) :=
      cond (decide ((a0.length : Int) = (a0.length : Int))) (cond (decide (0 ≤ (a0.length : Int))) (cond (decide ((a0.length : Int) * 32 ≤ 140737488355328)) (LP17_0 n  (a0, List.replicate (a0.length : Int).toNat (⟨⟨#[]⟩, ⟨#[]⟩⟩ : C .e85), 0)) none) none) none
theorem t17 (n : Nat) (a0 : List (C .e67)) : runFn X17 (F17 n) Go.Proofs.Try.f17 [.one (.row .e67 a0)] dec17 = G17n n a0 := by
  have h : runFn X17 (F17 n) Go.Proofs.Try.f17 [.one (.row .e67 a0)] dec17 =
      cond (decide ((a0.length : Int) = (a0.length : Int))) (cond (decide (0 ≤ (a0.length : Int))) (cond (decide ((a0.length : Int) * 32 ≤ 140737488355328)) (MP17_0 n  (a0, List.replicate (a0.length : Int).toNat (⟨⟨#[]⟩, ⟨#[]⟩⟩ : C .e85), 0)) none) none) none := by kernel_rfl
  simp only [h, G17n, m17_0]
noncomputable def G17 (a0 : List (C .e67)) : Option (List (C .e85)) := G17n fuel a0
noncomputable def con17 : Con C := { R0 := List (C .e85), ret := fun r => [(false, [.row .e85 r])], g := fun vs => match vs with
  | [.one (.row .e67 y0)] => G17 y0
  | _ => none }
theorem x17 : XOk Go.Proofs.Try.prog X17 := ⟨tks_ok, els_ok⟩
theorem q17 : Cons Go.Proofs.Try.prog X17 := ⟨lkR_ok (l := [(38, con38)]) ⟨c38, trivial⟩, lkW_ok (l := []) trivial⟩
theorem c17 : ConOk Go.Proofs.Try.prog KK 17 con17 := by
  refine con_dec x17 q17 (by kernel_rfl) (f := 17) (fn := Go.Proofs.Try.f17) (c := bodyOf Go.Proofs.Try.f17) (by kernel_rfl) (by kernel_rfl) (by kernel_rfl) (nameB (by kernel_rfl)) con17 dec17 (fun rs r0 h => ?_) (fun vs r0 h => ?_)
  · unfold dec17 at h
    split at h
    · cases h; rfl
    · cases h
  · simp only [con17] at h
    split at h
    · rename_i y0
      exact ⟨Nat.le_of_ble_eq_true (by kernel_rfl), F17 fuel, (t17 fuel y0).trans h⟩
    · cases h
/-! ### f88 loop.example/wharfdesk/laws.toIntS -/
noncomputable def X88 : Cx C := { K := KK, tk := lk tks, con := lkC [], conw := lkC [] }
def F88 (n : Nat) : Cf := { N := n, keep := [0, 2, 3, 4, 11], live := lk [(0, [0, 3, 4])] }
def dec88 (rs : List (Bool × List (Lf C))) : Option (List (C .e3)) := match rs with
  | [(false, [.row .e3 z0])] => some z0
  | _ => none
abbrev A88_0 : Type := List (C .e3) × List (C .e3) × Int
def s88_0 : A88_0 → St C := fun (x0_0, x0_1, x0_2) => { env := [(0, .one (.row .e3 x0_0)), (3, .one (.ref 100003 [])), (4, .one (.int .i64 x0_2))], objs := [(100003, .row .e3 x0_1 false)], base := 0 }
noncomputable def r88_0 (n : Nat)  (rec0 : A88_0 → Option (List (C .e3))) : A88_0 → Option (List (C .e3)) := fun (x0_0, x0_1, x0_2) =>
      cond (decide (x0_2 < (x0_0.length : Int)))
      (cond (decide (0 ≤ x0_2)) (Option.bind x0_0[x0_2.toNat]? fun x1 => cond (decide (0 ≤ x0_2)) (cond (decide (x0_2 < (x0_1.length : Int))) (Option.bind x0_1[x0_2.toNat]? fun x2 => rec0 (x0_0, x0_1.set x0_2.toNat x1, IntKind.i64.wrap (x0_2 + 1))) none) none) none)
      (some (x0_1))
noncomputable def LP88_0 (n : Nat)  (x : A88_0) : Option (List (C .e3)) := lpN (r88_0 n ) n x
noncomputable def MP88_0 (n : Nat)  (x : A88_0) : Option (List (C .e3)) := iter (fun rec S => run X88 (F88 n) (codeAt (bodyOf Go.Proofs.Try.f88) [1, 1, 0, 1, 0, 0]) 0 S (lopK rec (blkK 0 (seqK (run X88 (F88 n) (codeAt (bodyOf Go.Proofs.Try.f88) [1, 1, 1]) 0) (kTop X88 Go.Proofs.Try.f88 dec88))))) [0, 3, 4] n (s88_0 x)
theorem m88_0 (n : Nat)  (x : A88_0) : MP88_0 n  x = LP88_0 n  x := by
  refine iter_eq s88_0 (r88_0 n ) (fun rec0 x => ?_) n x
  obtain ⟨x0_0, x0_1, x0_2⟩ := x
  kernel_rfl
noncomputable def G88n (n : Nat) (a0 : List (C .e3)) : Option (List (C .e3)) :=
      cond (decide ((a0.length : Int) = (a0.length : Int))) (cond (decide (0 ≤ (a0.length : Int))) (cond (decide ((a0.length : Int) * 8 ≤ 140737488355328)) (LP88_0 n  (a0, List.replicate (a0.length : Int).toNat (0 : C .e3), 0)) none) none) none
theorem t88 (n : Nat) (a0 : List (C .e3)) : runFn X88 (F88 n) Go.Proofs.Try.f88 [.one (.row .e3 a0)] dec88 = G88n n a0 := by
  have h : runFn X88 (F88 n) Go.Proofs.Try.f88 [.one (.row .e3 a0)] dec88 =
      cond (decide ((a0.length : Int) = (a0.length : Int))) (cond (decide (0 ≤ (a0.length : Int))) (cond (decide ((a0.length : Int) * 8 ≤ 140737488355328)) (MP88_0 n  (a0, List.replicate (a0.length : Int).toNat (0 : C .e3), 0)) none) none) none := by kernel_rfl
  simp only [h, G88n, m88_0]
noncomputable def G88 (a0 : List (C .e3)) : Option (List (C .e3)) := G88n fuel a0
noncomputable def con88 : Con C := { R0 := List (C .e3), ret := fun r => [(false, [.row .e3 r])], g := fun vs => match vs with
  | [.one (.row .e3 y0)] => G88 y0
  | _ => none }
theorem x88 : XOk Go.Proofs.Try.prog X88 := ⟨tks_ok, els_ok⟩
theorem q88 : Cons Go.Proofs.Try.prog X88 := ⟨lkR_ok (l := []) trivial, lkW_ok (l := []) trivial⟩
theorem c88 : ConOk Go.Proofs.Try.prog KK 88 con88 := by
  refine con_dec x88 q88 (by kernel_rfl) (f := 88) (fn := Go.Proofs.Try.f88) (c := bodyOf Go.Proofs.Try.f88) (by kernel_rfl) (by kernel_rfl) (by kernel_rfl) (nameB (by kernel_rfl)) con88 dec88 (fun rs r0 h => ?_) (fun vs r0 h => ?_)
  · unfold dec88 at h
    split at h
    · cases h; rfl
    · cases h
  · simp only [con88] at h
    split at h
    · rename_i y0
      exact ⟨Nat.le_of_ble_eq_true (by kernel_rfl), F88 fuel, (t88 fuel y0).trans h⟩
    · cases h
/-! ### f73 loop.example/wharfdesk/laws.toGateRule -/
noncomputable def X73 : Cx C := { K := KK, tk := lk tks, con := lkC [(88, con88)], conw := lkC [] }
def F73 (n : Nat) : Cf := { N := n, keep := [0, 1, 2, 3], live := lk [] }
def dec73 (rs : List (Bool × List (Lf C))) : Option (VGateRule) := match rs with
  | [(true, [.row .e3 z0, .str z1, .str z2, .str z3])] => some ⟨z0, z1, z2, z3⟩
  | _ => none
noncomputable def G73n (n : Nat) (a0 : VGateRule) : Option (VGateRule) :=
      Option.bind (G88 a0.Verbs) fun r1 =>
      some ((⟨r1, a0.Kind, a0.Team, a0.Prefix⟩ : VGateRule))
theorem t73 (n : Nat) (a0 : VGateRule) : runFn X73 (F73 n) Go.Proofs.Try.f73 [.agg [.row .e3 a0.Verbs, .str a0.Kind, .str a0.Team, .str a0.Prefix]] dec73 = G73n n a0 := by
  kernel_rfl
noncomputable def G73 (a0 : VGateRule) : Option (VGateRule) := G73n fuel a0
noncomputable def con73 : Con C := { R0 := VGateRule, ret := fun r => [(true, [.row .e3 r.Verbs, .str r.Kind, .str r.Team, .str r.Prefix])], g := fun vs => match vs with
  | [.agg [.row .e3 y0_0, .str y0_1, .str y0_2, .str y0_3]] => G73 ⟨y0_0, y0_1, y0_2, y0_3⟩
  | _ => none }
theorem x73 : XOk Go.Proofs.Try.prog X73 := ⟨tks_ok, els_ok⟩
theorem q73 : Cons Go.Proofs.Try.prog X73 := ⟨lkR_ok (l := [(88, con88)]) ⟨c88, trivial⟩, lkW_ok (l := []) trivial⟩
theorem c73 : ConOk Go.Proofs.Try.prog KK 73 con73 := by
  refine con_dec x73 q73 (by kernel_rfl) (f := 73) (fn := Go.Proofs.Try.f73) (c := bodyOf Go.Proofs.Try.f73) (by kernel_rfl) (by kernel_rfl) (by kernel_rfl) (nameB (by kernel_rfl)) con73 dec73 (fun rs r0 h => ?_) (fun vs r0 h => ?_)
  · unfold dec73 at h
    split at h
    · cases h; rfl
    · cases h
  · simp only [con73] at h
    split at h
    · rename_i y0_0 y0_1 y0_2 y0_3
      exact ⟨Nat.le_of_ble_eq_true (by kernel_rfl), F73 fuel, (t73 fuel ⟨y0_0, y0_1, y0_2, y0_3⟩).trans h⟩
    · cases h
/-! ### f39 loop.example/wharfdesk/laws.toGateGrant -/
noncomputable def X39 : Cx C := { K := KK, tk := lk tks, con := lkC [(73, con73)], conw := lkC [] }
def F39 (n : Nat) : Cf := { N := n, keep := [0, 1, 2, 3], live := lk [] }
def dec39 (rs : List (Bool × List (Lf C))) : Option (VGateGrant) := match rs with
  | [(true, [.int .i64 z0, .str z1, .str z2, .row .e3 z3, .str z4, .str z5, .str z6])] => some ⟨z0, z1, z2, z3, z4, z5, z6⟩
  | _ => none
noncomputable def G39n (n : Nat) (a0 : VGateGrant) : Option (VGateGrant) :=
      Option.bind (G73 (⟨a0.Rule_Verbs, a0.Rule_Kind, a0.Rule_Team, a0.Rule_Prefix⟩ : VGateRule)) fun r1 =>
      some ((⟨a0.Number, a0.To, a0.By, r1.Verbs, r1.Kind, r1.Team, r1.Prefix⟩ : VGateGrant))
theorem t39 (n : Nat) (a0 : VGateGrant) : runFn X39 (F39 n) Go.Proofs.Try.f39 [.agg [.int .i64 a0.Number, .str a0.To, .str a0.By, .row .e3 a0.Rule_Verbs, .str a0.Rule_Kind, .str a0.Rule_Team, .str a0.Rule_Prefix]] dec39 = G39n n a0 := by
  kernel_rfl
noncomputable def G39 (a0 : VGateGrant) : Option (VGateGrant) := G39n fuel a0
noncomputable def con39 : Con C := { R0 := VGateGrant, ret := fun r => [(true, [.int .i64 r.Number, .str r.To, .str r.By, .row .e3 r.Rule_Verbs, .str r.Rule_Kind, .str r.Rule_Team, .str r.Rule_Prefix])], g := fun vs => match vs with
  | [.agg [.int .i64 y0_0, .str y0_1, .str y0_2, .row .e3 y0_3, .str y0_4, .str y0_5, .str y0_6]] => G39 ⟨y0_0, y0_1, y0_2, y0_3, y0_4, y0_5, y0_6⟩
  | _ => none }
theorem x39 : XOk Go.Proofs.Try.prog X39 := ⟨tks_ok, els_ok⟩
theorem q39 : Cons Go.Proofs.Try.prog X39 := ⟨lkR_ok (l := [(73, con73)]) ⟨c73, trivial⟩, lkW_ok (l := []) trivial⟩
theorem c39 : ConOk Go.Proofs.Try.prog KK 39 con39 := by
  refine con_dec x39 q39 (by kernel_rfl) (f := 39) (fn := Go.Proofs.Try.f39) (c := bodyOf Go.Proofs.Try.f39) (by kernel_rfl) (by kernel_rfl) (by kernel_rfl) (nameB (by kernel_rfl)) con39 dec39 (fun rs r0 h => ?_) (fun vs r0 h => ?_)
  · unfold dec39 at h
    split at h
    · cases h; rfl
    · cases h
  · simp only [con39] at h
    split at h
    · rename_i y0_0 y0_1 y0_2 y0_3 y0_4 y0_5 y0_6
      exact ⟨Nat.le_of_ble_eq_true (by kernel_rfl), F39 fuel, (t39 fuel ⟨y0_0, y0_1, y0_2, y0_3, y0_4, y0_5, y0_6⟩).trans h⟩
    · cases h
/-! ### f18 loop.example/wharfdesk/laws.toGateGrantS -/
noncomputable def X18 : Cx C := { K := KK, tk := lk tks, con := lkC [(39, con39)], conw := lkC [] }
def F18 (n : Nat) : Cf := { N := n, keep := [0, 2, 3, 4, 11], live := lk [(0, [0, 3, 4])] }
def dec18 (rs : List (Bool × List (Lf C))) : Option (List (C .e77)) := match rs with
  | [(false, [.row .e77 z0])] => some z0
  | _ => none
abbrev A18_0 : Type := List (C .e73) × List (C .e77) × Int
def s18_0 : A18_0 → St C := fun (x0_0, x0_1, x0_2) => { env := [(0, .one (.row .e73 x0_0)), (3, .one (.ref 100003 [])), (4, .one (.int .i64 x0_2))], objs := [(100003, .row .e77 x0_1 false)], base := 0 }
noncomputable def r18_0 (n : Nat)  (rec0 : A18_0 → Option (List (C .e77))) : A18_0 → Option (List (C .e77)) := fun (x0_0, x0_1, x0_2) =>
      cond (decide (x0_2 < (x0_0.length : Int)))
      (cond (decide (0 ≤ x0_2)) (Option.bind x0_0[x0_2.toNat]? fun x1 => Option.bind (G39 x1) fun r2 =>
      cond (decide (0 ≤ x0_2)) (cond (decide (x0_2 < (x0_1.length : Int))) (Option.bind x0_1[x0_2.toNat]? fun x3 => rec0 (x0_0, x0_1.set x0_2.toNat r2, IntKind.i64.wrap (x0_2 + 1))) none) none) none)
      (some (x0_1))
noncomputable def LP18_0 (n : Nat)  (x : A18_0) : Option (List (C .e77)) := lpN (r18_0 n ) n x
noncomputable def MP18_0 (n : Nat)  (x : A18_0) : Option (List (C .e77)) := iter (fun rec S => run X18 (F18 n) (codeAt (bodyOf Go.Proofs.Try.f18) [1, 1, 0, 1, 0, 0]) 0 S (lopK rec (blkK 0 (seqK (run X18 (F18 n) (codeAt (bodyOf Go.Proofs.Try.f18) [1, 1, 1]) 0) (kTop X18 Go.Proofs.Try.f18 dec18))))) [0, 3, 4] n (s18_0 x)
theorem m18_0 (n : Nat)  (x : A18_0) : MP18_0 n  x = LP18_0 n  x := by
  refine iter_eq s18_0 (r18_0 n ) (fun rec0 x => ?_) n x
  obtain ⟨x0_0, x0_1, x0_2⟩ := x
  kernel_rfl
noncomputable def G18n (n : Nat) (a0 : List (C .e73)) : Option (List (C .e77)) :=
      cond (decide ((a0.length : Int) = (a0.length : Int))) (cond (decide (0 ≤ (a0.length : Int))) (cond (decide ((a0.length : Int) * 112 ≤ 140737488355328)) (LP18_0 n  (a0, List.replicate (a0.length : Int).toNat (⟨0, ⟨#[]⟩, ⟨#[]⟩, [], ⟨#[]⟩, ⟨#[]⟩, ⟨#[]⟩⟩ : C .e77), 0)) none) none) none
theorem t18 (n : Nat) (a0 : List (C .e73)) : runFn X18 (F18 n) Go.Proofs.Try.f18 [.one (.row .e73 a0)] dec18 = G18n n a0 := by
  have h : runFn X18 (F18 n) Go.Proofs.Try.f18 [.one (.row .e73 a0)] dec18 =
      cond (decide ((a0.length : Int) = (a0.length : Int))) (cond (decide (0 ≤ (a0.length : Int))) (cond (decide ((a0.length : Int) * 112 ≤ 140737488355328)) (MP18_0 n  (a0, List.replicate (a0.length : Int).toNat (⟨0, ⟨#[]⟩, ⟨#[]⟩, [], ⟨#[]⟩, ⟨#[]⟩, ⟨#[]⟩⟩ : C .e77), 0)) none) none) none := by kernel_rfl
  simp only [h, G18n, m18_0]
noncomputable def G18 (a0 : List (C .e73)) : Option (List (C .e77)) := G18n fuel a0
noncomputable def con18 : Con C := { R0 := List (C .e77), ret := fun r => [(false, [.row .e77 r])], g := fun vs => match vs with
  | [.one (.row .e73 y0)] => G18 y0
  | _ => none }
theorem x18 : XOk Go.Proofs.Try.prog X18 := ⟨tks_ok, els_ok⟩
theorem q18 : Cons Go.Proofs.Try.prog X18 := ⟨lkR_ok (l := [(39, con39)]) ⟨c39, trivial⟩, lkW_ok (l := []) trivial⟩
theorem c18 : ConOk Go.Proofs.Try.prog KK 18 con18 := by
  refine con_dec x18 q18 (by kernel_rfl) (f := 18) (fn := Go.Proofs.Try.f18) (c := bodyOf Go.Proofs.Try.f18) (by kernel_rfl) (by kernel_rfl) (by kernel_rfl) (nameB (by kernel_rfl)) con18 dec18 (fun rs r0 h => ?_) (fun vs r0 h => ?_)
  · unfold dec18 at h
    split at h
    · cases h; rfl
    · cases h
  · simp only [con18] at h
    split at h
    · rename_i y0
      exact ⟨Nat.le_of_ble_eq_true (by kernel_rfl), F18 fuel, (t18 fuel y0).trans h⟩
    · cases h
/-! ### f6 loop.example/wharfdesk/laws.toHallHouse -/
noncomputable def X6 : Cx C := { K := KK, tk := lk tks, con := lkC [(17, con17), (18, con18)], conw := lkC [] }
def F6 (n : Nat) : Cf := { N := n, keep := [0, 1, 2, 3], live := lk [] }
def dec6 (rs : List (Bool × List (Lf C))) : Option (VHallHouse) := match rs with
  | [(true, [.row .e85 z0, .row .e77 z1])] => some ⟨z0, z1⟩
  | _ => none
noncomputable def G6n (n : Nat) (a0 : VHallHouse) : Option (VHallHouse) :=
      Option.bind (G17 a0.Teams) fun r1 =>
      Option.bind (G18 a0.Grants) fun r2 =>
      some ((⟨r1, r2⟩ : VHallHouse))
theorem t6 (n : Nat) (a0 : VHallHouse) : runFn X6 (F6 n) Go.Proofs.Try.f6 [.agg [.row .e67 a0.Teams, .row .e73 a0.Grants]] dec6 = G6n n a0 := by
  kernel_rfl
noncomputable def G6 (a0 : VHallHouse) : Option (VHallHouse) := G6n fuel a0
noncomputable def con6 : Con C := { R0 := VHallHouse, ret := fun r => [(true, [.row .e85 r.Teams, .row .e77 r.Grants])], g := fun vs => match vs with
  | [.agg [.row .e67 y0_0, .row .e73 y0_1]] => G6 ⟨y0_0, y0_1⟩
  | _ => none }
theorem x6 : XOk Go.Proofs.Try.prog X6 := ⟨tks_ok, els_ok⟩
theorem q6 : Cons Go.Proofs.Try.prog X6 := ⟨lkR_ok (l := [(17, con17), (18, con18)]) ⟨c17, c18, trivial⟩, lkW_ok (l := []) trivial⟩
theorem c6 : ConOk Go.Proofs.Try.prog KK 6 con6 := by
  refine con_dec x6 q6 (by kernel_rfl) (f := 6) (fn := Go.Proofs.Try.f6) (c := bodyOf Go.Proofs.Try.f6) (by kernel_rfl) (by kernel_rfl) (by kernel_rfl) (nameB (by kernel_rfl)) con6 dec6 (fun rs r0 h => ?_) (fun vs r0 h => ?_)
  · unfold dec6 at h
    split at h
    · cases h; rfl
    · cases h
  · simp only [con6] at h
    split at h
    · rename_i y0_0 y0_1
      exact ⟨Nat.le_of_ble_eq_true (by kernel_rfl), F6 fuel, (t6 fuel ⟨y0_0, y0_1⟩).trans h⟩
    · cases h
/-! ### f92 loop.example/wharfdesk/impl.nameByte -/
noncomputable def X92 : Cx C := { K := KK, tk := lk tks, con := lkC [], conw := lkC [] }
def F92 (n : Nat) : Cf := { N := n, keep := [0, 2], live := lk [] }
def dec92 (rs : List (Bool × List (Lf C))) : Option (Bool) := match rs with
  | [(false, [.bool z0])] => some z0
  | _ => none
noncomputable def G92n (n : Nat) (a0 : Int) : Option (Bool) :=
      cond (decide (a0 ≥ 97))
      (cond (decide (a0 ≤ 122))
      (some (true))
      (cond (decide (a0 ≥ 48))
      (cond (decide (a0 ≤ 57))
      (some (true))
      (some (a0 == 45)))
      (some (a0 == 45))))
      (cond (decide (a0 ≥ 48))
      (cond (decide (a0 ≤ 57))
      (some (true))
      (some (a0 == 45)))
      (some (a0 == 45)))
theorem t92 (n : Nat) (a0 : Int) : runFn X92 (F92 n) Go.Proofs.Try.f92 [.one (.int .u8 a0)] dec92 = G92n n a0 := by
  kernel_rfl
noncomputable def G92 (a0 : Int) : Option (Bool) := G92n fuel a0
noncomputable def con92 : Con C := { R0 := Bool, ret := fun r => [(false, [.bool r])], g := fun vs => match vs with
  | [.one (.int .u8 y0)] => G92 y0
  | _ => none }
theorem x92 : XOk Go.Proofs.Try.prog X92 := ⟨tks_ok, els_ok⟩
theorem q92 : Cons Go.Proofs.Try.prog X92 := ⟨lkR_ok (l := []) trivial, lkW_ok (l := []) trivial⟩
theorem c92 : ConOk Go.Proofs.Try.prog KK 92 con92 := by
  refine con_dec x92 q92 (by kernel_rfl) (f := 92) (fn := Go.Proofs.Try.f92) (c := bodyOf Go.Proofs.Try.f92) (by kernel_rfl) (by kernel_rfl) (by kernel_rfl) (nameB (by kernel_rfl)) con92 dec92 (fun rs r0 h => ?_) (fun vs r0 h => ?_)
  · unfold dec92 at h
    split at h
    · cases h; rfl
    · cases h
  · simp only [con92] at h
    split at h
    · rename_i y0
      exact ⟨Nat.le_of_ble_eq_true (by kernel_rfl), F92 fuel, (t92 fuel y0).trans h⟩
    · cases h
/-! ### f89 loop.example/wharfdesk/impl.nameBytes -/
noncomputable def X89 : Cx C := { K := KK, tk := lk tks, con := lkC [(92, con92)], conw := lkC [] }
def F89 (n : Nat) : Cf := { N := n, keep := [0, 2, 3, 5, 6, 7, 13], live := lk [(0, [0, 5, 6])] }
def dec89 (rs : List (Bool × List (Lf C))) : Option (Bool) := match rs with
  | [(false, [.bool z0])] => some z0
  | _ => none
abbrev A89_0 : Type := ByteArray × Int × Int
def s89_0 : A89_0 → St C := fun (x0_0, x0_1, x0_2) => { env := [(0, .one (.str x0_0)), (5, .one (.int .i64 x0_1)), (6, .one (.int .i64 x0_2))], objs := [], base := 0 }
noncomputable def r89_0 (n : Nat)  (rec0 : A89_0 → Option (Bool)) : A89_0 → Option (Bool) := fun (x0_0, x0_1, x0_2) =>
      cond (decide (x0_2 < x0_1))
      (cond (decide (0 ≤ x0_2)) (cond (decide (x0_2 < (x0_0.size : Int))) (Option.bind (G92 (sbt x0_0 x0_2)) fun r1 =>
      cond (!r1)
      (some (false))
      (rec0 (x0_0, x0_1, IntKind.i64.wrap (x0_2 + 1)))) none) none)
      (some (true))
noncomputable def LP89_0 (n : Nat)  (x : A89_0) : Option (Bool) := lpN (r89_0 n ) n x
noncomputable def MP89_0 (n : Nat)  (x : A89_0) : Option (Bool) := iter (fun rec S => run X89 (F89 n) (codeAt (bodyOf Go.Proofs.Try.f89) [1, 0, 1, 0, 0]) 0 S (lopK rec (blkK 0 (seqK (run X89 (F89 n) (codeAt (bodyOf Go.Proofs.Try.f89) [1, 1]) 0) (kTop X89 Go.Proofs.Try.f89 dec89))))) [0, 5, 6] n (s89_0 x)
theorem m89_0 (n : Nat)  (x : A89_0) : MP89_0 n  x = LP89_0 n  x := by
  refine iter_eq s89_0 (r89_0 n ) (fun rec0 x => ?_) n x
  obtain ⟨x0_0, x0_1, x0_2⟩ := x
  kernel_rfl
noncomputable def G89n (n : Nat) (a0 : ByteArray) : Option (Bool) :=
      LP89_0 n  (a0, (a0.size : Int), 0)
theorem t89 (n : Nat) (a0 : ByteArray) : runFn X89 (F89 n) Go.Proofs.Try.f89 [.one (.str a0)] dec89 = G89n n a0 := by
  have h : runFn X89 (F89 n) Go.Proofs.Try.f89 [.one (.str a0)] dec89 =
      MP89_0 n  (a0, (a0.size : Int), 0) := by kernel_rfl
  simp only [h, G89n, m89_0]
noncomputable def G89 (a0 : ByteArray) : Option (Bool) := G89n fuel a0
noncomputable def con89 : Con C := { R0 := Bool, ret := fun r => [(false, [.bool r])], g := fun vs => match vs with
  | [.one (.str y0)] => G89 y0
  | _ => none }
theorem x89 : XOk Go.Proofs.Try.prog X89 := ⟨tks_ok, els_ok⟩
theorem q89 : Cons Go.Proofs.Try.prog X89 := ⟨lkR_ok (l := [(92, con92)]) ⟨c92, trivial⟩, lkW_ok (l := []) trivial⟩
theorem c89 : ConOk Go.Proofs.Try.prog KK 89 con89 := by
  refine con_dec x89 q89 (by kernel_rfl) (f := 89) (fn := Go.Proofs.Try.f89) (c := bodyOf Go.Proofs.Try.f89) (by kernel_rfl) (by kernel_rfl) (by kernel_rfl) (nameB (by kernel_rfl)) con89 dec89 (fun rs r0 h => ?_) (fun vs r0 h => ?_)
  · unfold dec89 at h
    split at h
    · cases h; rfl
    · cases h
  · simp only [con89] at h
    split at h
    · rename_i y0
      exact ⟨Nat.le_of_ble_eq_true (by kernel_rfl), F89 fuel, (t89 fuel y0).trans h⟩
    · cases h
/-! ### f74 loop.example/wharfdesk/impl.isName -/
noncomputable def X74 : Cx C := { K := KK, tk := lk tks, con := lkC [(89, con89)], conw := lkC [] }
def F74 (n : Nat) : Cf := { N := n, keep := [0, 2], live := lk [] }
def dec74 (rs : List (Bool × List (Lf C))) : Option (Bool) := match rs with
  | [(false, [.bool z0])] => some z0
  | _ => none
noncomputable def G74n (n : Nat) (a0 : ByteArray) : Option (Bool) :=
      cond (decide ((a0.size : Int) ≥ 1))
      (cond (decide ((a0.size : Int) ≤ 16))
      (Option.bind (G89 a0) fun r1 =>
      some (r1))
      (some (false)))
      (some (false))
theorem t74 (n : Nat) (a0 : ByteArray) : runFn X74 (F74 n) Go.Proofs.Try.f74 [.one (.str a0)] dec74 = G74n n a0 := by
  kernel_rfl
noncomputable def G74 (a0 : ByteArray) : Option (Bool) := G74n fuel a0
noncomputable def con74 : Con C := { R0 := Bool, ret := fun r => [(false, [.bool r])], g := fun vs => match vs with
  | [.one (.str y0)] => G74 y0
  | _ => none }
theorem x74 : XOk Go.Proofs.Try.prog X74 := ⟨tks_ok, els_ok⟩
theorem q74 : Cons Go.Proofs.Try.prog X74 := ⟨lkR_ok (l := [(89, con89)]) ⟨c89, trivial⟩, lkW_ok (l := []) trivial⟩
theorem c74 : ConOk Go.Proofs.Try.prog KK 74 con74 := by
  refine con_dec x74 q74 (by kernel_rfl) (f := 74) (fn := Go.Proofs.Try.f74) (c := bodyOf Go.Proofs.Try.f74) (by kernel_rfl) (by kernel_rfl) (by kernel_rfl) (nameB (by kernel_rfl)) con74 dec74 (fun rs r0 h => ?_) (fun vs r0 h => ?_)
  · unfold dec74 at h
    split at h
    · cases h; rfl
    · cases h
  · simp only [con74] at h
    split at h
    · rename_i y0
      exact ⟨Nat.le_of_ble_eq_true (by kernel_rfl), F74 fuel, (t74 fuel y0).trans h⟩
    · cases h
/-! ### f75 loop.example/wharfdesk/impl.teamOf -/
noncomputable def X75 : Cx C := { K := KK, tk := lk tks, con := lkC [], conw := lkC [] }
def F75 (n : Nat) : Cf := { N := n, keep := [0, 1, 4, 5, 6, 7, 8, 9, 10, 17], live := lk [(0, [1, 7, 8, 9])] }
def dec75 (rs : List (Bool × List (Lf C))) : Option (Int) := match rs with
  | [(false, [.int .i64 z0])] => some z0
  | _ => none
abbrev A75_0 : Type := ByteArray × List (C .e85) × Int × Int
def s75_0 : A75_0 → St C := fun (x0_0, x0_1, x0_2, x0_3) => { env := [(1, .one (.str x0_0)), (7, .one (.row .e85 x0_1)), (8, .one (.int .i64 x0_2)), (9, .one (.int .i64 x0_3))], objs := [], base := 0 }
noncomputable def r75_0 (n : Nat)  (rec0 : A75_0 → Option (Int)) : A75_0 → Option (Int) := fun (x0_0, x0_1, x0_2, x0_3) =>
      cond (decide (x0_3 < x0_2))
      (cond (decide (0 ≤ x0_3)) (Option.bind x0_1[x0_3.toNat]? fun x1 => cond (decide (x1.Name = x0_0))
      (some (x0_3))
      (rec0 (x0_0, x0_1, x0_2, IntKind.i64.wrap (x0_3 + 1)))) none)
      (some ((-1)))
noncomputable def LP75_0 (n : Nat)  (x : A75_0) : Option (Int) := lpN (r75_0 n ) n x
noncomputable def MP75_0 (n : Nat)  (x : A75_0) : Option (Int) := iter (fun rec S => run X75 (F75 n) (codeAt (bodyOf Go.Proofs.Try.f75) [1, 0, 1, 0, 0]) 0 S (lopK rec (blkK 0 (seqK (run X75 (F75 n) (codeAt (bodyOf Go.Proofs.Try.f75) [1, 1]) 0) (kTop X75 Go.Proofs.Try.f75 dec75))))) [1, 7, 8, 9] n (s75_0 x)
theorem m75_0 (n : Nat)  (x : A75_0) : MP75_0 n  x = LP75_0 n  x := by
  refine iter_eq s75_0 (r75_0 n ) (fun rec0 x => ?_) n x
  obtain ⟨x0_0, x0_1, x0_2, x0_3⟩ := x
  kernel_rfl
noncomputable def G75n (n : Nat) (a0 : List (C .e85)) (a1 : ByteArray) : Option (Int) :=
      LP75_0 n  (a1, a0, (a0.length : Int), 0)
theorem t75 (n : Nat) (a0 : List (C .e85)) (a1 : ByteArray) : runFn X75 (F75 n) Go.Proofs.Try.f75 [.one (.row .e85 a0), .one (.str a1)] dec75 = G75n n a0 a1 := by
  have h : runFn X75 (F75 n) Go.Proofs.Try.f75 [.one (.row .e85 a0), .one (.str a1)] dec75 =
      MP75_0 n  (a1, a0, (a0.length : Int), 0) := by kernel_rfl
  simp only [h, G75n, m75_0]
noncomputable def G75 (a0 : List (C .e85)) (a1 : ByteArray) : Option (Int) := G75n fuel a0 a1
noncomputable def con75 : Con C := { R0 := Int, ret := fun r => [(false, [.int .i64 r])], g := fun vs => match vs with
  | [.one (.row .e85 y0), .one (.str y1)] => G75 y0 y1
  | _ => none }
theorem x75 : XOk Go.Proofs.Try.prog X75 := ⟨tks_ok, els_ok⟩
theorem q75 : Cons Go.Proofs.Try.prog X75 := ⟨lkR_ok (l := []) trivial, lkW_ok (l := []) trivial⟩
theorem c75 : ConOk Go.Proofs.Try.prog KK 75 con75 := by
  refine con_dec x75 q75 (by kernel_rfl) (f := 75) (fn := Go.Proofs.Try.f75) (c := bodyOf Go.Proofs.Try.f75) (by kernel_rfl) (by kernel_rfl) (by kernel_rfl) (nameB (by kernel_rfl)) con75 dec75 (fun rs r0 h => ?_) (fun vs r0 h => ?_)
  · unfold dec75 at h
    split at h
    · cases h; rfl
    · cases h
  · simp only [con75] at h
    split at h
    · rename_i y0 y1
      exact ⟨Nat.le_of_ble_eq_true (by kernel_rfl), F75 fuel, (t75 fuel y0 y1).trans h⟩
    · cases h
/-! ### f40 loop.example/wharfdesk/impl.GateTeamsOk -/
noncomputable def X40 : Cx C := { K := KK, tk := lk tks, con := lkC [(74, con74), (75, con75)], conw := lkC [] }
def F40 (n : Nat) : Cf := { N := n, keep := [0, 2, 3, 4, 6, 7, 8, 11, 12, 13, 14, 15, 49, 51, 52, 53, 54, 60, 71], live := lk [(4, [0, 7, 8, 51, 52, 53]), (2, [0, 51, 52, 53]), (0, [0, 12, 13, 14])] }
def dec40 (rs : List (Bool × List (Lf C))) : Option (Bool) := match rs with
  | [(false, [.bool z0])] => some z0
  | _ => none
abbrev A40_2 : Type := List (C .e85) × Int × ByteArray × List (C .e85) × Int × Int
def s40_2 : A40_2 → St C := fun (x2_0, x2_1, x2_2, x2_3, x2_4, x2_5) => { env := [(0, .one (.row .e85 x2_0)), (7, .one (.int .i64 x2_1)), (8, .one (.str x2_2)), (51, .one (.row .e85 x2_3)), (52, .one (.int .i64 x2_4)), (53, .one (.int .i64 x2_5))], objs := [], base := 0 }
abbrev A40_1 : Type := List (C .e85) × List (C .e85) × Int × Int
def s40_1 : A40_1 → St C := fun (x1_0, x1_1, x1_2, x1_3) => { env := [(0, .one (.row .e85 x1_0)), (51, .one (.row .e85 x1_1)), (52, .one (.int .i64 x1_2)), (53, .one (.int .i64 x1_3))], objs := [], base := 0 }
abbrev A40_0 : Type := List (C .e85) × List (C .e85) × Int × Int
def s40_0 : A40_0 → St C := fun (x0_0, x0_1, x0_2, x0_3) => { env := [(0, .one (.row .e85 x0_0)), (12, .one (.row .e85 x0_1)), (13, .one (.int .i64 x0_2)), (14, .one (.int .i64 x0_3))], objs := [], base := 0 }
noncomputable def r40_2 (n : Nat) (rec1 : A40_1 → Option (Bool)) (rec2 : A40_2 → Option (Bool)) : A40_2 → Option (Bool) := fun (x2_0, x2_1, x2_2, x2_3, x2_4, x2_5) =>
      cond (!decide (x2_2 = (⟨#[]⟩ : ByteArray)))
      (cond (decide ((IntKind.i64.wrap (x2_1 + 1)) > 4))
      (some (false))
      (Option.bind (G75 x2_0 x2_2) fun r7 =>
      cond (decide (0 ≤ r7)) (Option.bind x2_0[r7.toNat]? fun x8 => rec2 (x2_0, IntKind.i64.wrap (x2_1 + 1), x8.Over, x2_3, x2_4, x2_5)) none))
      (rec1 (x2_0, x2_3, x2_4, IntKind.i64.wrap (x2_5 + 1)))
noncomputable def LP40_2 (n : Nat) (rec1 : A40_1 → Option (Bool)) (x : A40_2) : Option (Bool) := lpN (r40_2 n rec1) n x
noncomputable def MP40_2 (n : Nat) (rec1 : St C → Option (Bool)) (x : A40_2) : Option (Bool) := iter (fun rec S => run X40 (F40 n) (codeAt (bodyOf Go.Proofs.Try.f40) [1, 1, 1, 0, 1, 0, 0, 1, 1, 0, 0, 1, 1, 1, 0, 0]) 4 S (lopK rec (blkK 4 (blkK 3 (seqK (run X40 (F40 n) (codeAt (bodyOf Go.Proofs.Try.f40) [1, 1, 1, 0, 1, 0, 0, 1, 1, 1]) 2) (lopK (canThen [0, 51, 52, 53] rec1) (blkK 2 (seqK (run X40 (F40 n) (codeAt (bodyOf Go.Proofs.Try.f40) [1, 1, 1, 1]) 0) (kTop X40 Go.Proofs.Try.f40 dec40))))))))) [0, 7, 8, 51, 52, 53] n (s40_2 x)
theorem m40_2 (n : Nat) (rec1 : St C → Option (Bool)) (x : A40_2) : MP40_2 n rec1 x = LP40_2 n (fun x => rec1 (s40_1 x)) x := by
  refine iter_eq s40_2 (r40_2 n (fun x => rec1 (s40_1 x))) (fun rec2 x => ?_) n x
  obtain ⟨x2_0, x2_1, x2_2, x2_3, x2_4, x2_5⟩ := x
  kernel_rfl
noncomputable def r40_1 (n : Nat)  (rec1 : A40_1 → Option (Bool)) : A40_1 → Option (Bool) := fun (x1_0, x1_1, x1_2, x1_3) =>
      cond (decide (x1_3 < x1_2))
      (cond (decide (0 ≤ x1_3)) (Option.bind x1_1[x1_3.toNat]? fun x6 => LP40_2 n rec1 (x1_0, 0, x6.Over, x1_1, x1_2, x1_3)) none)
      (some (true))
noncomputable def LP40_1 (n : Nat)  (x : A40_1) : Option (Bool) := lpN (r40_1 n ) n x
noncomputable def MP40_1 (n : Nat)  (x : A40_1) : Option (Bool) := iter (fun rec S => run X40 (F40 n) (codeAt (bodyOf Go.Proofs.Try.f40) [1, 1, 1, 0, 1, 0, 0]) 2 S (lopK rec (blkK 2 (seqK (run X40 (F40 n) (codeAt (bodyOf Go.Proofs.Try.f40) [1, 1, 1, 1]) 0) (kTop X40 Go.Proofs.Try.f40 dec40))))) [0, 51, 52, 53] n (s40_1 x)
theorem m40_1 (n : Nat)  (x : A40_1) : MP40_1 n  x = LP40_1 n  x := by
  refine iter_eq s40_1 (r40_1 n ) (fun rec1 x => ?_) n x
  obtain ⟨x1_0, x1_1, x1_2, x1_3⟩ := x
  have h : run X40 (F40 n) (codeAt (bodyOf Go.Proofs.Try.f40) [1, 1, 1, 0, 1, 0, 0]) 2 (s40_1 (x1_0, x1_1, x1_2, x1_3)) (lopK (canThen [0, 51, 52, 53] rec1) (blkK 2 (seqK (run X40 (F40 n) (codeAt (bodyOf Go.Proofs.Try.f40) [1, 1, 1, 1]) 0) (kTop X40 Go.Proofs.Try.f40 dec40)))) =
      cond (decide (x1_3 < x1_2))
      (cond (decide (0 ≤ x1_3)) (Option.bind x1_1[x1_3.toNat]? fun x6 => MP40_2 n rec1 (x1_0, 0, x6.Over, x1_1, x1_2, x1_3)) none)
      (some (true)) := by kernel_rfl
  simp only [m40_2] at h
  exact h
noncomputable def r40_0 (n : Nat)  (rec0 : A40_0 → Option (Bool)) : A40_0 → Option (Bool) := fun (x0_0, x0_1, x0_2, x0_3) =>
      cond (decide (x0_3 < x0_2))
      (cond (decide (0 ≤ x0_3)) (Option.bind x0_1[x0_3.toNat]? fun x1 => Option.bind (G74 x1.Name) fun r2 =>
      cond (!r2)
      (some (false))
      (cond (decide (x0_3 > 0))
      (cond (decide (0 ≤ IntKind.i64.wrap (x0_3 - 1))) (Option.bind x0_0[(IntKind.i64.wrap (x0_3 - 1)).toNat]? fun x3 => cond (!slt x3.Name x1.Name)
      (some (false))
      (cond (!decide (x1.Over = (⟨#[]⟩ : ByteArray)))
      (Option.bind (G75 x0_0 x1.Over) fun r4 =>
      cond (decide (r4 < 0))
      (some (false))
      (rec0 (x0_0, x0_1, x0_2, IntKind.i64.wrap (x0_3 + 1))))
      (rec0 (x0_0, x0_1, x0_2, IntKind.i64.wrap (x0_3 + 1))))) none)
      (cond (!decide (x1.Over = (⟨#[]⟩ : ByteArray)))
      (Option.bind (G75 x0_0 x1.Over) fun r5 =>
      cond (decide (r5 < 0))
      (some (false))
      (rec0 (x0_0, x0_1, x0_2, IntKind.i64.wrap (x0_3 + 1))))
      (rec0 (x0_0, x0_1, x0_2, IntKind.i64.wrap (x0_3 + 1)))))) none)
      (LP40_1 n  (x0_0, x0_0, (x0_0.length : Int), 0))
noncomputable def LP40_0 (n : Nat)  (x : A40_0) : Option (Bool) := lpN (r40_0 n ) n x
noncomputable def MP40_0 (n : Nat)  (x : A40_0) : Option (Bool) := iter (fun rec S => run X40 (F40 n) (codeAt (bodyOf Go.Proofs.Try.f40) [1, 1, 0, 1, 0, 0]) 0 S (lopK rec (blkK 0 (seqK (run X40 (F40 n) (codeAt (bodyOf Go.Proofs.Try.f40) [1, 1, 1]) 0) (kTop X40 Go.Proofs.Try.f40 dec40))))) [0, 12, 13, 14] n (s40_0 x)
theorem m40_0 (n : Nat)  (x : A40_0) : MP40_0 n  x = LP40_0 n  x := by
  refine iter_eq s40_0 (r40_0 n ) (fun rec0 x => ?_) n x
  obtain ⟨x0_0, x0_1, x0_2, x0_3⟩ := x
  have h : run X40 (F40 n) (codeAt (bodyOf Go.Proofs.Try.f40) [1, 1, 0, 1, 0, 0]) 0 (s40_0 (x0_0, x0_1, x0_2, x0_3)) (lopK (canThen [0, 12, 13, 14] rec0) (blkK 0 (seqK (run X40 (F40 n) (codeAt (bodyOf Go.Proofs.Try.f40) [1, 1, 1]) 0) (kTop X40 Go.Proofs.Try.f40 dec40)))) =
      cond (decide (x0_3 < x0_2))
      (cond (decide (0 ≤ x0_3)) (Option.bind x0_1[x0_3.toNat]? fun x1 => Option.bind (G74 x1.Name) fun r2 =>
      cond (!r2)
      (some (false))
      (cond (decide (x0_3 > 0))
      (cond (decide (0 ≤ IntKind.i64.wrap (x0_3 - 1))) (Option.bind x0_0[(IntKind.i64.wrap (x0_3 - 1)).toNat]? fun x3 => cond (!slt x3.Name x1.Name)
      (some (false))
      (cond (!decide (x1.Over = (⟨#[]⟩ : ByteArray)))
      (Option.bind (G75 x0_0 x1.Over) fun r4 =>
      cond (decide (r4 < 0))
      (some (false))
      ((fun x => rec0 (s40_0 x)) (x0_0, x0_1, x0_2, IntKind.i64.wrap (x0_3 + 1))))
      ((fun x => rec0 (s40_0 x)) (x0_0, x0_1, x0_2, IntKind.i64.wrap (x0_3 + 1))))) none)
      (cond (!decide (x1.Over = (⟨#[]⟩ : ByteArray)))
      (Option.bind (G75 x0_0 x1.Over) fun r5 =>
      cond (decide (r5 < 0))
      (some (false))
      ((fun x => rec0 (s40_0 x)) (x0_0, x0_1, x0_2, IntKind.i64.wrap (x0_3 + 1))))
      ((fun x => rec0 (s40_0 x)) (x0_0, x0_1, x0_2, IntKind.i64.wrap (x0_3 + 1)))))) none)
      (MP40_1 n  (x0_0, x0_0, (x0_0.length : Int), 0)) := by kernel_rfl
  simp only [m40_1] at h
  exact h
noncomputable def G40n (n : Nat) (a0 : List (C .e85)) : Option (Bool) :=
      cond (decide ((a0.length : Int) > 12))
      (some (false))
      (LP40_0 n  (a0, a0, (a0.length : Int), 0))
theorem t40 (n : Nat) (a0 : List (C .e85)) : runFn X40 (F40 n) Go.Proofs.Try.f40 [.one (.row .e85 a0)] dec40 = G40n n a0 := by
  have h : runFn X40 (F40 n) Go.Proofs.Try.f40 [.one (.row .e85 a0)] dec40 =
      cond (decide ((a0.length : Int) > 12))
      (some (false))
      (MP40_0 n  (a0, a0, (a0.length : Int), 0)) := by kernel_rfl
  simp only [h, G40n, m40_0]
noncomputable def G40 (a0 : List (C .e85)) : Option (Bool) := G40n fuel a0
noncomputable def con40 : Con C := { R0 := Bool, ret := fun r => [(false, [.bool r])], g := fun vs => match vs with
  | [.one (.row .e85 y0)] => G40 y0
  | _ => none }
theorem x40 : XOk Go.Proofs.Try.prog X40 := ⟨tks_ok, els_ok⟩
theorem q40 : Cons Go.Proofs.Try.prog X40 := ⟨lkR_ok (l := [(74, con74), (75, con75)]) ⟨c74, c75, trivial⟩, lkW_ok (l := []) trivial⟩
theorem c40 : ConOk Go.Proofs.Try.prog KK 40 con40 := by
  refine con_dec x40 q40 (by kernel_rfl) (f := 40) (fn := Go.Proofs.Try.f40) (c := bodyOf Go.Proofs.Try.f40) (by kernel_rfl) (by kernel_rfl) (by kernel_rfl) (nameB (by kernel_rfl)) con40 dec40 (fun rs r0 h => ?_) (fun vs r0 h => ?_)
  · unfold dec40 at h
    split at h
    · cases h; rfl
    · cases h
  · simp only [con40] at h
    split at h
    · rename_i y0
      exact ⟨Nat.le_of_ble_eq_true (by kernel_rfl), F40 fuel, (t40 fuel y0).trans h⟩
    · cases h
/-! ### f76 loop.example/wharfdesk/impl.hwLetters -/
noncomputable def X76 : Cx C := { K := KK, tk := lk tks, con := lkC [], conw := lkC [] }
def F76 (n : Nat) : Cf := { N := n, keep := [0, 2, 3, 4, 6, 7, 8, 30], live := lk [(0, [0, 6, 7])] }
def dec76 (rs : List (Bool × List (Lf C))) : Option (Bool) := match rs with
  | [(false, [.bool z0])] => some z0
  | _ => none
abbrev A76_0 : Type := ByteArray × Int × Int
def s76_0 : A76_0 → St C := fun (x0_0, x0_1, x0_2) => { env := [(0, .one (.str x0_0)), (6, .one (.int .i64 x0_1)), (7, .one (.int .i64 x0_2))], objs := [], base := 0 }
noncomputable def r76_0 (n : Nat)  (rec0 : A76_0 → Option (Bool)) : A76_0 → Option (Bool) := fun (x0_0, x0_1, x0_2) =>
      cond (decide (x0_2 < x0_1))
      (cond (decide (0 ≤ x0_2)) (cond (decide (x0_2 < (x0_0.size : Int))) (cond (decide ((sbt x0_0 x0_2) < 97))
      (cond (decide ((sbt x0_0 x0_2) < 48))
      (cond ((sbt x0_0 x0_2) != 45)
      (some (false))
      (rec0 (x0_0, x0_1, IntKind.i64.wrap (x0_2 + 1))))
      (cond (decide ((sbt x0_0 x0_2) > 57))
      (cond ((sbt x0_0 x0_2) != 45)
      (some (false))
      (rec0 (x0_0, x0_1, IntKind.i64.wrap (x0_2 + 1))))
      (rec0 (x0_0, x0_1, IntKind.i64.wrap (x0_2 + 1)))))
      (cond (decide ((sbt x0_0 x0_2) > 122))
      (cond (decide ((sbt x0_0 x0_2) < 48))
      (cond ((sbt x0_0 x0_2) != 45)
      (some (false))
      (rec0 (x0_0, x0_1, IntKind.i64.wrap (x0_2 + 1))))
      (cond (decide ((sbt x0_0 x0_2) > 57))
      (cond ((sbt x0_0 x0_2) != 45)
      (some (false))
      (rec0 (x0_0, x0_1, IntKind.i64.wrap (x0_2 + 1))))
      (rec0 (x0_0, x0_1, IntKind.i64.wrap (x0_2 + 1)))))
      (rec0 (x0_0, x0_1, IntKind.i64.wrap (x0_2 + 1))))) none) none)
      (some (true))
noncomputable def LP76_0 (n : Nat)  (x : A76_0) : Option (Bool) := lpN (r76_0 n ) n x
noncomputable def MP76_0 (n : Nat)  (x : A76_0) : Option (Bool) := iter (fun rec S => run X76 (F76 n) (codeAt (bodyOf Go.Proofs.Try.f76) [1, 0, 1, 0, 0]) 0 S (lopK rec (blkK 0 (seqK (run X76 (F76 n) (codeAt (bodyOf Go.Proofs.Try.f76) [1, 1]) 0) (kTop X76 Go.Proofs.Try.f76 dec76))))) [0, 6, 7] n (s76_0 x)
theorem m76_0 (n : Nat)  (x : A76_0) : MP76_0 n  x = LP76_0 n  x := by
  refine iter_eq s76_0 (r76_0 n ) (fun rec0 x => ?_) n x
  obtain ⟨x0_0, x0_1, x0_2⟩ := x
  kernel_rfl
noncomputable def G76n (n : Nat) (a0 : ByteArray) : Option (Bool) :=
      LP76_0 n  (a0, (a0.size : Int), 0)
theorem t76 (n : Nat) (a0 : ByteArray) : runFn X76 (F76 n) Go.Proofs.Try.f76 [.one (.str a0)] dec76 = G76n n a0 := by
  have h : runFn X76 (F76 n) Go.Proofs.Try.f76 [.one (.str a0)] dec76 =
      MP76_0 n  (a0, (a0.size : Int), 0) := by kernel_rfl
  simp only [h, G76n, m76_0]
noncomputable def G76 (a0 : ByteArray) : Option (Bool) := G76n fuel a0
noncomputable def con76 : Con C := { R0 := Bool, ret := fun r => [(false, [.bool r])], g := fun vs => match vs with
  | [.one (.str y0)] => G76 y0
  | _ => none }
theorem x76 : XOk Go.Proofs.Try.prog X76 := ⟨tks_ok, els_ok⟩
theorem q76 : Cons Go.Proofs.Try.prog X76 := ⟨lkR_ok (l := []) trivial, lkW_ok (l := []) trivial⟩
theorem c76 : ConOk Go.Proofs.Try.prog KK 76 con76 := by
  refine con_dec x76 q76 (by kernel_rfl) (f := 76) (fn := Go.Proofs.Try.f76) (c := bodyOf Go.Proofs.Try.f76) (by kernel_rfl) (by kernel_rfl) (by kernel_rfl) (nameB (by kernel_rfl)) con76 dec76 (fun rs r0 h => ?_) (fun vs r0 h => ?_)
  · unfold dec76 at h
    split at h
    · cases h; rfl
    · cases h
  · simp only [con76] at h
    split at h
    · rename_i y0
      exact ⟨Nat.le_of_ble_eq_true (by kernel_rfl), F76 fuel, (t76 fuel y0).trans h⟩
    · cases h
/-! ### f41 loop.example/wharfdesk/impl.hwName -/
noncomputable def X41 : Cx C := { K := KK, tk := lk tks, con := lkC [(76, con76)], conw := lkC [] }
def F41 (n : Nat) : Cf := { N := n, keep := [0, 2], live := lk [] }
def dec41 (rs : List (Bool × List (Lf C))) : Option (Bool) := match rs with
  | [(false, [.bool z0])] => some z0
  | _ => none
noncomputable def G41n (n : Nat) (a0 : ByteArray) : Option (Bool) :=
      cond (decide ((a0.size : Int) ≥ 1))
      (cond (decide ((a0.size : Int) ≤ 16))
      (Option.bind (G76 a0) fun r1 =>
      some (r1))
      (some (false)))
      (some (false))
theorem t41 (n : Nat) (a0 : ByteArray) : runFn X41 (F41 n) Go.Proofs.Try.f41 [.one (.str a0)] dec41 = G41n n a0 := by
  kernel_rfl
noncomputable def G41 (a0 : ByteArray) : Option (Bool) := G41n fuel a0
noncomputable def con41 : Con C := { R0 := Bool, ret := fun r => [(false, [.bool r])], g := fun vs => match vs with
  | [.one (.str y0)] => G41 y0
  | _ => none }
theorem x41 : XOk Go.Proofs.Try.prog X41 := ⟨tks_ok, els_ok⟩
theorem q41 : Cons Go.Proofs.Try.prog X41 := ⟨lkR_ok (l := [(76, con76)]) ⟨c76, trivial⟩, lkW_ok (l := []) trivial⟩
theorem c41 : ConOk Go.Proofs.Try.prog KK 41 con41 := by
  refine con_dec x41 q41 (by kernel_rfl) (f := 41) (fn := Go.Proofs.Try.f41) (c := bodyOf Go.Proofs.Try.f41) (by kernel_rfl) (by kernel_rfl) (by kernel_rfl) (nameB (by kernel_rfl)) con41 dec41 (fun rs r0 h => ?_) (fun vs r0 h => ?_)
  · unfold dec41 at h
    split at h
    · cases h; rfl
    · cases h
  · simp only [con41] at h
    split at h
    · rename_i y0
      exact ⟨Nat.le_of_ble_eq_true (by kernel_rfl), F41 fuel, (t41 fuel y0).trans h⟩
    · cases h
/-! ### f42 loop.example/wharfdesk/impl.hwRuleOk -/
noncomputable def X42 : Cx C := { K := KK, tk := lk tks, con := lkC [(41, con41), (76, con76)], conw := lkC [] }
def F42 (n : Nat) : Cf := { N := n, keep := [0, 1, 2, 3, 4, 20, 22, 23, 24, 25, 48], live := lk [(0, [1, 22, 23, 24])] }
def dec42 (rs : List (Bool × List (Lf C))) : Option (Bool) := match rs with
  | [(false, [.bool z0])] => some z0
  | _ => none
abbrev A42_0 : Type := List (C .e3) × ByteArray × ByteArray × ByteArray × List (C .e3) × Int × Int
def s42_0 : A42_0 → St C := fun (x0_0, x0_1, x0_2, x0_3, x0_4, x0_5, x0_6) => { env := [(1, .one (.ptr 64 0)), (22, .one (.row .e3 x0_4)), (23, .one (.int .i64 x0_5)), (24, .one (.int .i64 x0_6))], objs := [(64, .box [.row .e3 x0_0, .str x0_1, .str x0_2, .str x0_3])], base := 0 }
noncomputable def r42_0 (n : Nat)  (rec0 : A42_0 → Option (Bool)) : A42_0 → Option (Bool) := fun (x0_0, x0_1, x0_2, x0_3, x0_4, x0_5, x0_6) =>
      cond (decide (x0_6 < x0_5))
      (cond (decide (0 ≤ x0_6)) (Option.bind x0_4[x0_6.toNat]? fun x2 => cond (decide (x2 < 1))
      (some (false))
      (cond (decide (x2 > 5))
      (some (false))
      (cond (decide (x0_6 > 0))
      (cond (decide (0 ≤ IntKind.i64.wrap (x0_6 - 1))) (Option.bind x0_0[(IntKind.i64.wrap (x0_6 - 1)).toNat]? fun x3 => cond (decide (x3 ≥ x2))
      (some (false))
      (rec0 (x0_0, x0_1, x0_2, x0_3, x0_4, x0_5, IntKind.i64.wrap (x0_6 + 1)))) none)
      (rec0 (x0_0, x0_1, x0_2, x0_3, x0_4, x0_5, IntKind.i64.wrap (x0_6 + 1)))))) none)
      (cond (decide (x0_1 = (⟨#[]⟩ : ByteArray)))
      (cond (decide (x0_2 = (⟨#[]⟩ : ByteArray)))
      (some (true))
      (Option.bind (G41 x0_2) fun r4 =>
      some (r4)))
      (Option.bind (G41 x0_1) fun r5 =>
      cond r5
      (cond (decide (x0_2 = (⟨#[]⟩ : ByteArray)))
      (some (true))
      (Option.bind (G41 x0_2) fun r6 =>
      some (r6)))
      (some (false))))
noncomputable def LP42_0 (n : Nat)  (x : A42_0) : Option (Bool) := lpN (r42_0 n ) n x
noncomputable def MP42_0 (n : Nat)  (x : A42_0) : Option (Bool) := iter (fun rec S => run X42 (F42 n) (codeAt (bodyOf Go.Proofs.Try.f42) [1, 1, 0, 1, 0, 0]) 0 S (lopK rec (blkK 0 (seqK (run X42 (F42 n) (codeAt (bodyOf Go.Proofs.Try.f42) [1, 1, 1]) 0) (kTop X42 Go.Proofs.Try.f42 dec42))))) [1, 22, 23, 24] n (s42_0 x)
theorem m42_0 (n : Nat)  (x : A42_0) : MP42_0 n  x = LP42_0 n  x := by
  refine iter_eq s42_0 (r42_0 n ) (fun rec0 x => ?_) n x
  obtain ⟨x0_0, x0_1, x0_2, x0_3, x0_4, x0_5, x0_6⟩ := x
  kernel_rfl
noncomputable def G42n (n : Nat) (a0 : VGateRule) : Option (Bool) :=
      cond ((a0.Verbs.length : Int) == 0)
      (some (false))
      (cond (decide ((a0.Prefix.size : Int) > 16))
      (some (false))
      (Option.bind (G76 a0.Prefix) fun r1 =>
      cond (!r1)
      (some (false))
      (LP42_0 n  (a0.Verbs, a0.Kind, a0.Team, a0.Prefix, a0.Verbs, (a0.Verbs.length : Int), 0))))
theorem t42 (n : Nat) (a0 : VGateRule) : runFn X42 (F42 n) Go.Proofs.Try.f42 [.agg [.row .e3 a0.Verbs, .str a0.Kind, .str a0.Team, .str a0.Prefix]] dec42 = G42n n a0 := by
  have h : runFn X42 (F42 n) Go.Proofs.Try.f42 [.agg [.row .e3 a0.Verbs, .str a0.Kind, .str a0.Team, .str a0.Prefix]] dec42 =
      cond ((a0.Verbs.length : Int) == 0)
      (some (false))
      (cond (decide ((a0.Prefix.size : Int) > 16))
      (some (false))
      (Option.bind (G76 a0.Prefix) fun r1 =>
      cond (!r1)
      (some (false))
      (MP42_0 n  (a0.Verbs, a0.Kind, a0.Team, a0.Prefix, a0.Verbs, (a0.Verbs.length : Int), 0)))) := by kernel_rfl
  simp only [h, G42n, m42_0]
noncomputable def G42 (a0 : VGateRule) : Option (Bool) := G42n fuel a0
noncomputable def con42 : Con C := { R0 := Bool, ret := fun r => [(false, [.bool r])], g := fun vs => match vs with
  | [.agg [.row .e3 y0_0, .str y0_1, .str y0_2, .str y0_3]] => G42 ⟨y0_0, y0_1, y0_2, y0_3⟩
  | _ => none }
theorem x42 : XOk Go.Proofs.Try.prog X42 := ⟨tks_ok, els_ok⟩
theorem q42 : Cons Go.Proofs.Try.prog X42 := ⟨lkR_ok (l := [(41, con41), (76, con76)]) ⟨c41, c76, trivial⟩, lkW_ok (l := []) trivial⟩
theorem c42 : ConOk Go.Proofs.Try.prog KK 42 con42 := by
  refine con_dec x42 q42 (by kernel_rfl) (f := 42) (fn := Go.Proofs.Try.f42) (c := bodyOf Go.Proofs.Try.f42) (by kernel_rfl) (by kernel_rfl) (by kernel_rfl) (nameB (by kernel_rfl)) con42 dec42 (fun rs r0 h => ?_) (fun vs r0 h => ?_)
  · unfold dec42 at h
    split at h
    · cases h; rfl
    · cases h
  · simp only [con42] at h
    split at h
    · rename_i y0_0 y0_1 y0_2 y0_3
      exact ⟨Nat.le_of_ble_eq_true (by kernel_rfl), F42 fuel, (t42 fuel ⟨y0_0, y0_1, y0_2, y0_3⟩).trans h⟩
    · cases h
/-! ### f19 loop.example/wharfdesk/impl.HallHouseOk -/
noncomputable def X19 : Cx C := { K := KK, tk := lk tks, con := lkC [(40, con40), (41, con41), (42, con42)], conw := lkC [] }
def F19 (n : Nat) : Cf := { N := n, keep := [0, 1, 2, 3, 4, 14, 16, 17, 18, 19, 44], live := lk [(0, [16, 17, 18])] }
def dec19 (rs : List (Bool × List (Lf C))) : Option (Bool) := match rs with
  | [(false, [.bool z0])] => some z0
  | _ => none
abbrev A19_0 : Type := List (C .e77) × Int × Int
def s19_0 : A19_0 → St C := fun (x0_0, x0_1, x0_2) => { env := [(16, .one (.row .e77 x0_0)), (17, .one (.int .i64 x0_1)), (18, .one (.int .i64 x0_2))], objs := [], base := 0 }
noncomputable def r19_0 (n : Nat)  (rec0 : A19_0 → Option (Bool)) : A19_0 → Option (Bool) := fun (x0_0, x0_1, x0_2) =>
      cond (decide (x0_2 < x0_1))
      (cond (decide (0 ≤ x0_2)) (Option.bind x0_0[x0_2.toNat]? fun x2 => cond (x2.Number != (IntKind.i64.wrap (x0_2 + 1)))
      (some (false))
      (Option.bind (G41 x2.To) fun r3 =>
      cond (!r3)
      (some (false))
      (cond (!decide (x2.By = (⟨#[]⟩ : ByteArray)))
      (some (false))
      (Option.bind (G42 (⟨x2.Rule_Verbs, x2.Rule_Kind, x2.Rule_Team, x2.Rule_Prefix⟩ : VGateRule)) fun r4 =>
      cond (!r4)
      (some (false))
      (rec0 (x0_0, x0_1, IntKind.i64.wrap (x0_2 + 1))))))) none)
      (some (true))
noncomputable def LP19_0 (n : Nat)  (x : A19_0) : Option (Bool) := lpN (r19_0 n ) n x
noncomputable def MP19_0 (n : Nat)  (x : A19_0) : Option (Bool) := iter (fun rec S => run X19 (F19 n) (codeAt (bodyOf Go.Proofs.Try.f19) [1, 1, 0, 1, 0, 0]) 0 S (lopK rec (blkK 0 (seqK (run X19 (F19 n) (codeAt (bodyOf Go.Proofs.Try.f19) [1, 1, 1]) 0) (kTop X19 Go.Proofs.Try.f19 dec19))))) [16, 17, 18] n (s19_0 x)
theorem m19_0 (n : Nat)  (x : A19_0) : MP19_0 n  x = LP19_0 n  x := by
  refine iter_eq s19_0 (r19_0 n ) (fun rec0 x => ?_) n x
  obtain ⟨x0_0, x0_1, x0_2⟩ := x
  kernel_rfl
noncomputable def G19n (n : Nat) (a0 : VHallHouse) : Option (Bool) :=
      Option.bind (G40 a0.Teams) fun r1 =>
      cond (!r1)
      (some (false))
      (cond (decide ((a0.Grants.length : Int) > 24))
      (some (false))
      (LP19_0 n  (a0.Grants, (a0.Grants.length : Int), 0)))
theorem t19 (n : Nat) (a0 : VHallHouse) : runFn X19 (F19 n) Go.Proofs.Try.f19 [.agg [.row .e85 a0.Teams, .row .e77 a0.Grants]] dec19 = G19n n a0 := by
  have h : runFn X19 (F19 n) Go.Proofs.Try.f19 [.agg [.row .e85 a0.Teams, .row .e77 a0.Grants]] dec19 =
      Option.bind (G40 a0.Teams) fun r1 =>
      cond (!r1)
      (some (false))
      (cond (decide ((a0.Grants.length : Int) > 24))
      (some (false))
      (MP19_0 n  (a0.Grants, (a0.Grants.length : Int), 0))) := by kernel_rfl
  simp only [h, G19n, m19_0]
noncomputable def G19 (a0 : VHallHouse) : Option (Bool) := G19n fuel a0
noncomputable def con19 : Con C := { R0 := Bool, ret := fun r => [(false, [.bool r])], g := fun vs => match vs with
  | [.agg [.row .e85 y0_0, .row .e77 y0_1]] => G19 ⟨y0_0, y0_1⟩
  | _ => none }
theorem x19 : XOk Go.Proofs.Try.prog X19 := ⟨tks_ok, els_ok⟩
theorem q19 : Cons Go.Proofs.Try.prog X19 := ⟨lkR_ok (l := [(40, con40), (41, con41), (42, con42)]) ⟨c40, c41, c42, trivial⟩, lkW_ok (l := []) trivial⟩
theorem c19 : ConOk Go.Proofs.Try.prog KK 19 con19 := by
  refine con_dec x19 q19 (by kernel_rfl) (f := 19) (fn := Go.Proofs.Try.f19) (c := bodyOf Go.Proofs.Try.f19) (by kernel_rfl) (by kernel_rfl) (by kernel_rfl) (nameB (by kernel_rfl)) con19 dec19 (fun rs r0 h => ?_) (fun vs r0 h => ?_)
  · unfold dec19 at h
    split at h
    · cases h; rfl
    · cases h
  · simp only [con19] at h
    split at h
    · rename_i y0_0 y0_1
      exact ⟨Nat.le_of_ble_eq_true (by kernel_rfl), F19 fuel, (t19 fuel ⟨y0_0, y0_1⟩).trans h⟩
    · cases h
/-! ### f44 slices.Clone[[]int,int] -/
noncomputable def X44 : Cx C := { K := KK, tk := lk tks, con := lkC [], conw := lkC [] }
def F44 (n : Nat) : Cf := { N := n, keep := [0, 2, 4], live := lk [] }
def dec44 (rs : List (Bool × List (Lf C))) : Option (List (C .e3)) := match rs with
  | [(false, [.row .e3 z0])] => some z0
  | _ => none
noncomputable def G44n (n : Nat) (a0 : List (C .e3)) : Option (List (C .e3)) :=
      nilq a0.isEmpty
      (some (([] : List (C .e3))))
      (cond (decide (((([] : List (C .e3))).length + a0.length) * 8 ≤ 140737488355328)) (some ((([] : List (C .e3))) ++ a0)) none)
theorem t44 (n : Nat) (a0 : List (C .e3)) : runFn X44 (F44 n) Go.Proofs.Try.f44 [.one (.row .e3 a0)] dec44 = G44n n a0 := by
  kernel_rfl
noncomputable def G44 (a0 : List (C .e3)) : Option (List (C .e3)) := G44n fuel a0
noncomputable def con44 : Con C := { R0 := List (C .e3), ret := fun r => [(false, [.row .e3 r])], g := fun vs => match vs with
  | [.one (.row .e3 y0)] => G44 y0
  | _ => none }
theorem x44 : XOk Go.Proofs.Try.prog X44 := ⟨tks_ok, els_ok⟩
theorem q44 : Cons Go.Proofs.Try.prog X44 := ⟨lkR_ok (l := []) trivial, lkW_ok (l := []) trivial⟩
theorem c44 : ConOk Go.Proofs.Try.prog KK 44 con44 := by
  refine con_dec x44 q44 (by kernel_rfl) (f := 44) (fn := Go.Proofs.Try.f44) (c := bodyOf Go.Proofs.Try.f44) (by kernel_rfl) (by kernel_rfl) (by kernel_rfl) (nameB (by kernel_rfl)) con44 dec44 (fun rs r0 h => ?_) (fun vs r0 h => ?_)
  · unfold dec44 at h
    split at h
    · cases h; rfl
    · cases h
  · simp only [con44] at h
    split at h
    · rename_i y0
      exact ⟨Nat.le_of_ble_eq_true (by kernel_rfl), F44 fuel, (t44 fuel y0).trans h⟩
    · cases h
end Go.Proofs.Ytpdindhlnehfcaa.Ab
