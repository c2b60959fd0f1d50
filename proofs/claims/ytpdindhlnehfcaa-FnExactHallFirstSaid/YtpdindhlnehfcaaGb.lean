/- The functions that the law calls, written plainly, and their contracts: each call answers what its plain function answers. No conditions. -/
import Derived.Test.YtpdindhlnehfcaaHw
set_option linter.unusedVariables false
namespace Go.Proofs.Ytpdindhlnehfcaa.Ab
open Go Go.RowKit
/-! ### f7 loop.example/wharfdesk/impl.HallFirst -/
noncomputable def X7 : Cx C := { K := KK, tk := lk tks, con := lkC [(19, con19), (20, con20)], conw := lkC [] }
def F7 (n : Nat) : Cf := { N := n, keep := [0, 1, 2, 3, 5], live := lk [] }
def dec7 (rs : List (Bool × List (Lf C))) : Option (VHallBook) := match rs with
  | [(true, [.int .i64 z0, .int .i64 z1, .int .i64 z2, .row .e82 z3, .row .e77 z4, .row .e115 z5, .row .e118 z6, .int .i64 z7, .row .e121 z8, .row .e124 z9, .row .e127 z10])] => some ⟨z0, z1, z2, z3, z4, z5, z6, z7, z8, z9, z10⟩
  | _ => none
noncomputable def G7n (n : Nat) (a0 : VHallHouse) : Option (VHallBook) :=
      Option.bind (G19 a0) fun r1 =>
      cond r1
      ((fun y => alt y (alt y (alt y (y))))
      (Option.bind (G20 a0.Grants) fun r2 =>
      some ((⟨(a0.Grants.length : Int), 0, (a0.Grants.length : Int), ([] : List (C .e82)), r2, ([] : List (C .e115)), ([] : List (C .e118)), 0, ([] : List (C .e121)), ([] : List (C .e124)), ([] : List (C .e127))⟩ : VHallBook))))
      (some ((⟨0, 0, 0, ([] : List (C .e82)), ([] : List (C .e77)), ([] : List (C .e115)), ([] : List (C .e118)), 0, ([] : List (C .e121)), ([] : List (C .e124)), ([] : List (C .e127))⟩ : VHallBook)))
theorem t7 (n : Nat) (a0 : VHallHouse) : runFn X7 (F7 n) Go.Proofs.Try.f7 [.agg [.row .e85 a0.Teams, .row .e77 a0.Grants]] dec7 = G7n n a0 := by
  kernel_rfl
noncomputable def G7 (a0 : VHallHouse) : Option (VHallBook) := G7n fuel a0
noncomputable def con7 : Con C := { R0 := VHallBook, ret := fun r => [(true, [.int .i64 r.Gate_Now, .int .i64 r.Gate_Tick, .int .i64 r.Gate_Given, .row .e82 r.Gate_Objects, .row .e77 r.Gate_Grants, .row .e115 r.Gate_Ledgers, .row .e118 r.Gate_Purses, .int .i64 r.Stew_Now, .row .e121 r.Stew_Services, .row .e124 r.Stew_Copies, .row .e127 r.Stew_Berths])], g := fun vs => match vs with
  | [.agg [.row .e85 y0_0, .row .e77 y0_1]] => G7 ⟨y0_0, y0_1⟩
  | _ => none }
theorem x7 : XOk Go.Proofs.Try.prog X7 := ⟨tks_ok, els_ok⟩
theorem q7 : Cons Go.Proofs.Try.prog X7 := ⟨lkR_ok (l := [(19, con19), (20, con20)]) ⟨c19, c20, trivial⟩, lkW_ok (l := []) trivial⟩
theorem c7 : ConOk Go.Proofs.Try.prog KK 7 con7 := by
  refine con_dec x7 q7 (by kernel_rfl) (f := 7) (fn := Go.Proofs.Try.f7) (c := bodyOf Go.Proofs.Try.f7) (by kernel_rfl) (by kernel_rfl) (by kernel_rfl) (nameB (by kernel_rfl)) con7 dec7 (fun rs r0 h => ?_) (fun vs r0 h => ?_)
  · unfold dec7 at h
    split at h
    · cases h; rfl
    · cases h
  · simp only [con7] at h
    split at h
    · rename_i y0_0 y0_1
      exact ⟨Nat.le_of_ble_eq_true (by kernel_rfl), F7 fuel, (t7 fuel ⟨y0_0, y0_1⟩).trans h⟩
    · cases h
/-! ### f91 loop.example/wharfdesk/laws.eqIntS -/
noncomputable def X91 : Cx C := { K := KK, tk := lk tks, con := lkC [], conw := lkC [] }
def F91 (n : Nat) : Cf := { N := n, keep := [0, 1, 4, 5, 10, 14, 25], live := lk [(0, [0, 1, 5])] }
def dec91 (rs : List (Bool × List (Lf C))) : Option (Bool) := match rs with
  | [(false, [.bool z0])] => some z0
  | _ => none
abbrev A91_0 : Type := List (C .e3) × List (C .e3) × Int
def s91_0 : A91_0 → St C := fun (x0_0, x0_1, x0_2) => { env := [(0, .one (.row .e3 x0_0)), (1, .one (.row .e3 x0_1)), (5, .one (.int .i64 x0_2))], objs := [], base := 0 }
noncomputable def r91_0 (n : Nat)  (rec0 : A91_0 → Option (Bool)) : A91_0 → Option (Bool) := fun (x0_0, x0_1, x0_2) =>
      cond (decide (x0_2 < (x0_0.length : Int)))
      (cond (decide (0 ≤ x0_2)) (Option.bind x0_0[x0_2.toNat]? fun x1 => cond (decide (0 ≤ x0_2)) (Option.bind x0_1[x0_2.toNat]? fun x2 => cond (x1 != x2)
      (some (false))
      (rec0 (x0_0, x0_1, IntKind.i64.wrap (x0_2 + 1)))) none) none)
      (some (true))
noncomputable def LP91_0 (n : Nat)  (x : A91_0) : Option (Bool) := lpN (r91_0 n ) n x
noncomputable def MP91_0 (n : Nat)  (x : A91_0) : Option (Bool) := iter (fun rec S => run X91 (F91 n) (codeAt (bodyOf Go.Proofs.Try.f91) [1, 1, 0, 1, 0, 0]) 0 S (lopK rec (blkK 0 (seqK (run X91 (F91 n) (codeAt (bodyOf Go.Proofs.Try.f91) [1, 1, 1]) 0) (kTop X91 Go.Proofs.Try.f91 dec91))))) [0, 1, 5] n (s91_0 x)
theorem m91_0 (n : Nat)  (x : A91_0) : MP91_0 n  x = LP91_0 n  x := by
  refine iter_eq s91_0 (r91_0 n ) (fun rec0 x => ?_) n x
  obtain ⟨x0_0, x0_1, x0_2⟩ := x
  kernel_rfl
noncomputable def G91n (n : Nat) (a0 : List (C .e3)) (a1 : List (C .e3)) : Option (Bool) :=
      cond ((a0.length : Int) != (a1.length : Int))
      (some (false))
      (LP91_0 n  (a0, a1, 0))
theorem t91 (n : Nat) (a0 : List (C .e3)) (a1 : List (C .e3)) : runFn X91 (F91 n) Go.Proofs.Try.f91 [.one (.row .e3 a0), .one (.row .e3 a1)] dec91 = G91n n a0 a1 := by
  have h : runFn X91 (F91 n) Go.Proofs.Try.f91 [.one (.row .e3 a0), .one (.row .e3 a1)] dec91 =
      cond ((a0.length : Int) != (a1.length : Int))
      (some (false))
      (MP91_0 n  (a0, a1, 0)) := by kernel_rfl
  simp only [h, G91n, m91_0]
noncomputable def G91 (a0 : List (C .e3)) (a1 : List (C .e3)) : Option (Bool) := G91n fuel a0 a1
noncomputable def con91 : Con C := { R0 := Bool, ret := fun r => [(false, [.bool r])], g := fun vs => match vs with
  | [.one (.row .e3 y0), .one (.row .e3 y1)] => G91 y0 y1
  | _ => none }
theorem x91 : XOk Go.Proofs.Try.prog X91 := ⟨tks_ok, els_ok⟩
theorem q91 : Cons Go.Proofs.Try.prog X91 := ⟨lkR_ok (l := []) trivial, lkW_ok (l := []) trivial⟩
theorem c91 : ConOk Go.Proofs.Try.prog KK 91 con91 := by
  refine con_dec x91 q91 (by kernel_rfl) (f := 91) (fn := Go.Proofs.Try.f91) (c := bodyOf Go.Proofs.Try.f91) (by kernel_rfl) (by kernel_rfl) (by kernel_rfl) (nameB (by kernel_rfl)) con91 dec91 (fun rs r0 h => ?_) (fun vs r0 h => ?_)
  · unfold dec91 at h
    split at h
    · cases h; rfl
    · cases h
  · simp only [con91] at h
    split at h
    · rename_i y0 y1
      exact ⟨Nat.le_of_ble_eq_true (by kernel_rfl), F91 fuel, (t91 fuel y0 y1).trans h⟩
    · cases h
/-! ### f83 loop.example/wharfdesk/laws.eqGateRule -/
noncomputable def X83 : Cx C := { K := KK, tk := lk tks, con := lkC [(91, con91)], conw := lkC [] }
def F83 (n : Nat) : Cf := { N := n, keep := [0, 1, 2, 3, 4, 10, 15, 20, 25], live := lk [] }
def dec83 (rs : List (Bool × List (Lf C))) : Option (Bool) := match rs with
  | [(false, [.bool z0])] => some z0
  | _ => none
noncomputable def G83n (n : Nat) (a0 : VGateRule) (a1 : VGateRule) : Option (Bool) :=
      Option.bind (G91 a0.Verbs a1.Verbs) fun r1 =>
      cond (!r1)
      (some (false))
      (cond (!decide (a0.Kind = a1.Kind))
      (some (false))
      (cond (!decide (a0.Team = a1.Team))
      (some (false))
      (cond (!decide (a0.Prefix = a1.Prefix))
      (some (false))
      (some (true)))))
theorem t83 (n : Nat) (a0 : VGateRule) (a1 : VGateRule) : runFn X83 (F83 n) Go.Proofs.Try.f83 [.agg [.row .e3 a0.Verbs, .str a0.Kind, .str a0.Team, .str a0.Prefix], .agg [.row .e3 a1.Verbs, .str a1.Kind, .str a1.Team, .str a1.Prefix]] dec83 = G83n n a0 a1 := by
  kernel_rfl
noncomputable def G83 (a0 : VGateRule) (a1 : VGateRule) : Option (Bool) := G83n fuel a0 a1
noncomputable def con83 : Con C := { R0 := Bool, ret := fun r => [(false, [.bool r])], g := fun vs => match vs with
  | [.agg [.row .e3 y0_0, .str y0_1, .str y0_2, .str y0_3], .agg [.row .e3 y1_0, .str y1_1, .str y1_2, .str y1_3]] => G83 ⟨y0_0, y0_1, y0_2, y0_3⟩ ⟨y1_0, y1_1, y1_2, y1_3⟩
  | _ => none }
theorem x83 : XOk Go.Proofs.Try.prog X83 := ⟨tks_ok, els_ok⟩
theorem q83 : Cons Go.Proofs.Try.prog X83 := ⟨lkR_ok (l := [(91, con91)]) ⟨c91, trivial⟩, lkW_ok (l := []) trivial⟩
theorem c83 : ConOk Go.Proofs.Try.prog KK 83 con83 := by
  refine con_dec x83 q83 (by kernel_rfl) (f := 83) (fn := Go.Proofs.Try.f83) (c := bodyOf Go.Proofs.Try.f83) (by kernel_rfl) (by kernel_rfl) (by kernel_rfl) (nameB (by kernel_rfl)) con83 dec83 (fun rs r0 h => ?_) (fun vs r0 h => ?_)
  · unfold dec83 at h
    split at h
    · cases h; rfl
    · cases h
  · simp only [con83] at h
    split at h
    · rename_i y0_0 y0_1 y0_2 y0_3 y1_0 y1_1 y1_2 y1_3
      exact ⟨Nat.le_of_ble_eq_true (by kernel_rfl), F83 fuel, (t83 fuel ⟨y0_0, y0_1, y0_2, y0_3⟩ ⟨y1_0, y1_1, y1_2, y1_3⟩).trans h⟩
    · cases h
/-! ### f52 loop.example/wharfdesk/laws.eqGateGrant -/
noncomputable def X52 : Cx C := { K := KK, tk := lk tks, con := lkC [(83, con83)], conw := lkC [] }
def F52 (n : Nat) : Cf := { N := n, keep := [0, 1, 2, 3, 4, 9, 14, 19, 25], live := lk [] }
def dec52 (rs : List (Bool × List (Lf C))) : Option (Bool) := match rs with
  | [(false, [.bool z0])] => some z0
  | _ => none
noncomputable def G52n (n : Nat) (a0 : VGateGrant) (a1 : VGateGrant) : Option (Bool) :=
      cond (a0.Number != a1.Number)
      (some (false))
      (cond (!decide (a0.To = a1.To))
      (some (false))
      (cond (!decide (a0.By = a1.By))
      (some (false))
      (Option.bind (G83 (⟨a0.Rule_Verbs, a0.Rule_Kind, a0.Rule_Team, a0.Rule_Prefix⟩ : VGateRule) (⟨a1.Rule_Verbs, a1.Rule_Kind, a1.Rule_Team, a1.Rule_Prefix⟩ : VGateRule)) fun r1 =>
      cond (!r1)
      (some (false))
      (some (true)))))
theorem t52 (n : Nat) (a0 : VGateGrant) (a1 : VGateGrant) : runFn X52 (F52 n) Go.Proofs.Try.f52 [.agg [.int .i64 a0.Number, .str a0.To, .str a0.By, .row .e3 a0.Rule_Verbs, .str a0.Rule_Kind, .str a0.Rule_Team, .str a0.Rule_Prefix], .agg [.int .i64 a1.Number, .str a1.To, .str a1.By, .row .e3 a1.Rule_Verbs, .str a1.Rule_Kind, .str a1.Rule_Team, .str a1.Rule_Prefix]] dec52 = G52n n a0 a1 := by
  kernel_rfl
noncomputable def G52 (a0 : VGateGrant) (a1 : VGateGrant) : Option (Bool) := G52n fuel a0 a1
noncomputable def con52 : Con C := { R0 := Bool, ret := fun r => [(false, [.bool r])], g := fun vs => match vs with
  | [.agg [.int .i64 y0_0, .str y0_1, .str y0_2, .row .e3 y0_3, .str y0_4, .str y0_5, .str y0_6], .agg [.int .i64 y1_0, .str y1_1, .str y1_2, .row .e3 y1_3, .str y1_4, .str y1_5, .str y1_6]] => G52 ⟨y0_0, y0_1, y0_2, y0_3, y0_4, y0_5, y0_6⟩ ⟨y1_0, y1_1, y1_2, y1_3, y1_4, y1_5, y1_6⟩
  | _ => none }
theorem x52 : XOk Go.Proofs.Try.prog X52 := ⟨tks_ok, els_ok⟩
theorem q52 : Cons Go.Proofs.Try.prog X52 := ⟨lkR_ok (l := [(83, con83)]) ⟨c83, trivial⟩, lkW_ok (l := []) trivial⟩
theorem c52 : ConOk Go.Proofs.Try.prog KK 52 con52 := by
  refine con_dec x52 q52 (by kernel_rfl) (f := 52) (fn := Go.Proofs.Try.f52) (c := bodyOf Go.Proofs.Try.f52) (by kernel_rfl) (by kernel_rfl) (by kernel_rfl) (nameB (by kernel_rfl)) con52 dec52 (fun rs r0 h => ?_) (fun vs r0 h => ?_)
  · unfold dec52 at h
    split at h
    · cases h; rfl
    · cases h
  · simp only [con52] at h
    split at h
    · rename_i y0_0 y0_1 y0_2 y0_3 y0_4 y0_5 y0_6 y1_0 y1_1 y1_2 y1_3 y1_4 y1_5 y1_6
      exact ⟨Nat.le_of_ble_eq_true (by kernel_rfl), F52 fuel, (t52 fuel ⟨y0_0, y0_1, y0_2, y0_3, y0_4, y0_5, y0_6⟩ ⟨y1_0, y1_1, y1_2, y1_3, y1_4, y1_5, y1_6⟩).trans h⟩
    · cases h
/-! ### f24 loop.example/wharfdesk/laws.eqGateGrantS -/
noncomputable def X24 : Cx C := { K := KK, tk := lk tks, con := lkC [(52, con52)], conw := lkC [] }
def F24 (n : Nat) : Cf := { N := n, keep := [0, 1, 4, 5, 10, 14, 26], live := lk [(0, [0, 1, 5])] }
def dec24 (rs : List (Bool × List (Lf C))) : Option (Bool) := match rs with
  | [(false, [.bool z0])] => some z0
  | _ => none
abbrev A24_0 : Type := List (C .e77) × List (C .e77) × Int
def s24_0 : A24_0 → St C := fun (x0_0, x0_1, x0_2) => { env := [(0, .one (.row .e77 x0_0)), (1, .one (.row .e77 x0_1)), (5, .one (.int .i64 x0_2))], objs := [], base := 0 }
noncomputable def r24_0 (n : Nat)  (rec0 : A24_0 → Option (Bool)) : A24_0 → Option (Bool) := fun (x0_0, x0_1, x0_2) =>
      cond (decide (x0_2 < (x0_0.length : Int)))
      (cond (decide (0 ≤ x0_2)) (Option.bind x0_0[x0_2.toNat]? fun x1 => cond (decide (0 ≤ x0_2)) (Option.bind x0_1[x0_2.toNat]? fun x2 => Option.bind (G52 x1 x2) fun r3 =>
      cond (!r3)
      (some (false))
      (rec0 (x0_0, x0_1, IntKind.i64.wrap (x0_2 + 1)))) none) none)
      (some (true))
noncomputable def LP24_0 (n : Nat)  (x : A24_0) : Option (Bool) := lpN (r24_0 n ) n x
noncomputable def MP24_0 (n : Nat)  (x : A24_0) : Option (Bool) := iter (fun rec S => run X24 (F24 n) (codeAt (bodyOf Go.Proofs.Try.f24) [1, 1, 0, 1, 0, 0]) 0 S (lopK rec (blkK 0 (seqK (run X24 (F24 n) (codeAt (bodyOf Go.Proofs.Try.f24) [1, 1, 1]) 0) (kTop X24 Go.Proofs.Try.f24 dec24))))) [0, 1, 5] n (s24_0 x)
theorem m24_0 (n : Nat)  (x : A24_0) : MP24_0 n  x = LP24_0 n  x := by
  refine iter_eq s24_0 (r24_0 n ) (fun rec0 x => ?_) n x
  obtain ⟨x0_0, x0_1, x0_2⟩ := x
  kernel_rfl
noncomputable def G24n (n : Nat) (a0 : List (C .e77)) (a1 : List (C .e77)) : Option (Bool) :=
      cond ((a0.length : Int) != (a1.length : Int))
      (some (false))
      (LP24_0 n  (a0, a1, 0))
theorem t24 (n : Nat) (a0 : List (C .e77)) (a1 : List (C .e77)) : runFn X24 (F24 n) Go.Proofs.Try.f24 [.one (.row .e77 a0), .one (.row .e77 a1)] dec24 = G24n n a0 a1 := by
  have h : runFn X24 (F24 n) Go.Proofs.Try.f24 [.one (.row .e77 a0), .one (.row .e77 a1)] dec24 =
      cond ((a0.length : Int) != (a1.length : Int))
      (some (false))
      (MP24_0 n  (a0, a1, 0)) := by kernel_rfl
  simp only [h, G24n, m24_0]
noncomputable def G24 (a0 : List (C .e77)) (a1 : List (C .e77)) : Option (Bool) := G24n fuel a0 a1
noncomputable def con24 : Con C := { R0 := Bool, ret := fun r => [(false, [.bool r])], g := fun vs => match vs with
  | [.one (.row .e77 y0), .one (.row .e77 y1)] => G24 y0 y1
  | _ => none }
theorem x24 : XOk Go.Proofs.Try.prog X24 := ⟨tks_ok, els_ok⟩
theorem q24 : Cons Go.Proofs.Try.prog X24 := ⟨lkR_ok (l := [(52, con52)]) ⟨c52, trivial⟩, lkW_ok (l := []) trivial⟩
theorem c24 : ConOk Go.Proofs.Try.prog KK 24 con24 := by
  refine con_dec x24 q24 (by kernel_rfl) (f := 24) (fn := Go.Proofs.Try.f24) (c := bodyOf Go.Proofs.Try.f24) (by kernel_rfl) (by kernel_rfl) (by kernel_rfl) (nameB (by kernel_rfl)) con24 dec24 (fun rs r0 h => ?_) (fun vs r0 h => ?_)
  · unfold dec24 at h
    split at h
    · cases h; rfl
    · cases h
  · simp only [con24] at h
    split at h
    · rename_i y0 y1
      exact ⟨Nat.le_of_ble_eq_true (by kernel_rfl), F24 fuel, (t24 fuel y0 y1).trans h⟩
    · cases h
/-! ### f90 loop.example/wharfdesk/laws.eqStringS -/
noncomputable def X90 : Cx C := { K := KK, tk := lk tks, con := lkC [], conw := lkC [] }
def F90 (n : Nat) : Cf := { N := n, keep := [0, 1, 4, 5, 10, 14, 25], live := lk [(0, [0, 1, 5])] }
def dec90 (rs : List (Bool × List (Lf C))) : Option (Bool) := match rs with
  | [(false, [.bool z0])] => some z0
  | _ => none
abbrev A90_0 : Type := List (C .e9) × List (C .e9) × Int
def s90_0 : A90_0 → St C := fun (x0_0, x0_1, x0_2) => { env := [(0, .one (.row .e9 x0_0)), (1, .one (.row .e9 x0_1)), (5, .one (.int .i64 x0_2))], objs := [], base := 0 }
noncomputable def r90_0 (n : Nat)  (rec0 : A90_0 → Option (Bool)) : A90_0 → Option (Bool) := fun (x0_0, x0_1, x0_2) =>
      cond (decide (x0_2 < (x0_0.length : Int)))
      (cond (decide (0 ≤ x0_2)) (Option.bind x0_0[x0_2.toNat]? fun x1 => cond (decide (0 ≤ x0_2)) (Option.bind x0_1[x0_2.toNat]? fun x2 => cond (!decide (x1 = x2))
      (some (false))
      (rec0 (x0_0, x0_1, IntKind.i64.wrap (x0_2 + 1)))) none) none)
      (some (true))
noncomputable def LP90_0 (n : Nat)  (x : A90_0) : Option (Bool) := lpN (r90_0 n ) n x
noncomputable def MP90_0 (n : Nat)  (x : A90_0) : Option (Bool) := iter (fun rec S => run X90 (F90 n) (codeAt (bodyOf Go.Proofs.Try.f90) [1, 1, 0, 1, 0, 0]) 0 S (lopK rec (blkK 0 (seqK (run X90 (F90 n) (codeAt (bodyOf Go.Proofs.Try.f90) [1, 1, 1]) 0) (kTop X90 Go.Proofs.Try.f90 dec90))))) [0, 1, 5] n (s90_0 x)
theorem m90_0 (n : Nat)  (x : A90_0) : MP90_0 n  x = LP90_0 n  x := by
  refine iter_eq s90_0 (r90_0 n ) (fun rec0 x => ?_) n x
  obtain ⟨x0_0, x0_1, x0_2⟩ := x
  kernel_rfl
noncomputable def G90n (n : Nat) (a0 : List (C .e9)) (a1 : List (C .e9)) : Option (Bool) :=
      cond ((a0.length : Int) != (a1.length : Int))
      (some (false))
      (LP90_0 n  (a0, a1, 0))
theorem t90 (n : Nat) (a0 : List (C .e9)) (a1 : List (C .e9)) : runFn X90 (F90 n) Go.Proofs.Try.f90 [.one (.row .e9 a0), .one (.row .e9 a1)] dec90 = G90n n a0 a1 := by
  have h : runFn X90 (F90 n) Go.Proofs.Try.f90 [.one (.row .e9 a0), .one (.row .e9 a1)] dec90 =
      cond ((a0.length : Int) != (a1.length : Int))
      (some (false))
      (MP90_0 n  (a0, a1, 0)) := by kernel_rfl
  simp only [h, G90n, m90_0]
noncomputable def G90 (a0 : List (C .e9)) (a1 : List (C .e9)) : Option (Bool) := G90n fuel a0 a1
noncomputable def con90 : Con C := { R0 := Bool, ret := fun r => [(false, [.bool r])], g := fun vs => match vs with
  | [.one (.row .e9 y0), .one (.row .e9 y1)] => G90 y0 y1
  | _ => none }
theorem x90 : XOk Go.Proofs.Try.prog X90 := ⟨tks_ok, els_ok⟩
theorem q90 : Cons Go.Proofs.Try.prog X90 := ⟨lkR_ok (l := []) trivial, lkW_ok (l := []) trivial⟩
theorem c90 : ConOk Go.Proofs.Try.prog KK 90 con90 := by
  refine con_dec x90 q90 (by kernel_rfl) (f := 90) (fn := Go.Proofs.Try.f90) (c := bodyOf Go.Proofs.Try.f90) (by kernel_rfl) (by kernel_rfl) (by kernel_rfl) (nameB (by kernel_rfl)) con90 dec90 (fun rs r0 h => ?_) (fun vs r0 h => ?_)
  · unfold dec90 at h
    split at h
    · cases h; rfl
    · cases h
  · simp only [con90] at h
    split at h
    · rename_i y0 y1
      exact ⟨Nat.le_of_ble_eq_true (by kernel_rfl), F90 fuel, (t90 fuel y0 y1).trans h⟩
    · cases h
/-! ### f77 loop.example/wharfdesk/laws.eqGateObject -/
noncomputable def X77 : Cx C := { K := KK, tk := lk tks, con := lkC [(90, con90)], conw := lkC [] }
def F77 (n : Nat) : Cf := { N := n, keep := [0, 1, 2, 3, 4, 9, 14, 19, 25, 30, 36, 41], live := lk [] }
def dec77 (rs : List (Bool × List (Lf C))) : Option (Bool) := match rs with
  | [(false, [.bool z0])] => some z0
  | _ => none
noncomputable def G77n (n : Nat) (a0 : VGateObject) (a1 : VGateObject) : Option (Bool) :=
      cond (!decide (a0.Kind = a1.Kind))
      (some (false))
      (cond (!decide (a0.Name = a1.Name))
      (some (false))
      (cond (!decide (a0.Team = a1.Team))
      (some (false))
      (Option.bind (G90 a0.Values a1.Values) fun r1 =>
      cond (!r1)
      (some (false))
      (cond (!(a0.Ending == a1.Ending))
      (some (false))
      (Option.bind (G90 a0.Holds a1.Holds) fun r2 =>
      cond (!r2)
      (some (false))
      (cond (a0.Version != a1.Version)
      (some (false))
      (some (true))))))))
theorem t77 (n : Nat) (a0 : VGateObject) (a1 : VGateObject) : runFn X77 (F77 n) Go.Proofs.Try.f77 [.agg [.str a0.Kind, .str a0.Name, .str a0.Team, .row .e9 a0.Values, .bool a0.Ending, .row .e9 a0.Holds, .int .i64 a0.Version], .agg [.str a1.Kind, .str a1.Name, .str a1.Team, .row .e9 a1.Values, .bool a1.Ending, .row .e9 a1.Holds, .int .i64 a1.Version]] dec77 = G77n n a0 a1 := by
  kernel_rfl
noncomputable def G77 (a0 : VGateObject) (a1 : VGateObject) : Option (Bool) := G77n fuel a0 a1
noncomputable def con77 : Con C := { R0 := Bool, ret := fun r => [(false, [.bool r])], g := fun vs => match vs with
  | [.agg [.str y0_0, .str y0_1, .str y0_2, .row .e9 y0_3, .bool y0_4, .row .e9 y0_5, .int .i64 y0_6], .agg [.str y1_0, .str y1_1, .str y1_2, .row .e9 y1_3, .bool y1_4, .row .e9 y1_5, .int .i64 y1_6]] => G77 ⟨y0_0, y0_1, y0_2, y0_3, y0_4, y0_5, y0_6⟩ ⟨y1_0, y1_1, y1_2, y1_3, y1_4, y1_5, y1_6⟩
  | _ => none }
theorem x77 : XOk Go.Proofs.Try.prog X77 := ⟨tks_ok, els_ok⟩
theorem q77 : Cons Go.Proofs.Try.prog X77 := ⟨lkR_ok (l := [(90, con90)]) ⟨c90, trivial⟩, lkW_ok (l := []) trivial⟩
theorem c77 : ConOk Go.Proofs.Try.prog KK 77 con77 := by
  refine con_dec x77 q77 (by kernel_rfl) (f := 77) (fn := Go.Proofs.Try.f77) (c := bodyOf Go.Proofs.Try.f77) (by kernel_rfl) (by kernel_rfl) (by kernel_rfl) (nameB (by kernel_rfl)) con77 dec77 (fun rs r0 h => ?_) (fun vs r0 h => ?_)
  · unfold dec77 at h
    split at h
    · cases h; rfl
    · cases h
  · simp only [con77] at h
    split at h
    · rename_i y0_0 y0_1 y0_2 y0_3 y0_4 y0_5 y0_6 y1_0 y1_1 y1_2 y1_3 y1_4 y1_5 y1_6
      exact ⟨Nat.le_of_ble_eq_true (by kernel_rfl), F77 fuel, (t77 fuel ⟨y0_0, y0_1, y0_2, y0_3, y0_4, y0_5, y0_6⟩ ⟨y1_0, y1_1, y1_2, y1_3, y1_4, y1_5, y1_6⟩).trans h⟩
    · cases h
/-! ### f45 loop.example/wharfdesk/laws.eqGateObjectS -/
noncomputable def X45 : Cx C := { K := KK, tk := lk tks, con := lkC [(77, con77)], conw := lkC [] }
def F45 (n : Nat) : Cf := { N := n, keep := [0, 1, 4, 5, 10, 14, 26], live := lk [(0, [0, 1, 5])] }
def dec45 (rs : List (Bool × List (Lf C))) : Option (Bool) := match rs with
  | [(false, [.bool z0])] => some z0
  | _ => none
abbrev A45_0 : Type := List (C .e82) × List (C .e82) × Int
def s45_0 : A45_0 → St C := fun (x0_0, x0_1, x0_2) => { env := [(0, .one (.row .e82 x0_0)), (1, .one (.row .e82 x0_1)), (5, .one (.int .i64 x0_2))], objs := [], base := 0 }
noncomputable def r45_0 (n : Nat)  (rec0 : A45_0 → Option (Bool)) : A45_0 → Option (Bool) := fun (x0_0, x0_1, x0_2) =>
      cond (decide (x0_2 < (x0_0.length : Int)))
      (cond (decide (0 ≤ x0_2)) (Option.bind x0_0[x0_2.toNat]? fun x1 => cond (decide (0 ≤ x0_2)) (Option.bind x0_1[x0_2.toNat]? fun x2 => Option.bind (G77 x1 x2) fun r3 =>
      cond (!r3)
      (some (false))
      (rec0 (x0_0, x0_1, IntKind.i64.wrap (x0_2 + 1)))) none) none)
      (some (true))
noncomputable def LP45_0 (n : Nat)  (x : A45_0) : Option (Bool) := lpN (r45_0 n ) n x
noncomputable def MP45_0 (n : Nat)  (x : A45_0) : Option (Bool) := iter (fun rec S => run X45 (F45 n) (codeAt (bodyOf Go.Proofs.Try.f45) [1, 1, 0, 1, 0, 0]) 0 S (lopK rec (blkK 0 (seqK (run X45 (F45 n) (codeAt (bodyOf Go.Proofs.Try.f45) [1, 1, 1]) 0) (kTop X45 Go.Proofs.Try.f45 dec45))))) [0, 1, 5] n (s45_0 x)
theorem m45_0 (n : Nat)  (x : A45_0) : MP45_0 n  x = LP45_0 n  x := by
  refine iter_eq s45_0 (r45_0 n ) (fun rec0 x => ?_) n x
  obtain ⟨x0_0, x0_1, x0_2⟩ := x
  kernel_rfl
noncomputable def G45n (n : Nat) (a0 : List (C .e82)) (a1 : List (C .e82)) : Option (Bool) :=
      cond ((a0.length : Int) != (a1.length : Int))
      (some (false))
      (LP45_0 n  (a0, a1, 0))
theorem t45 (n : Nat) (a0 : List (C .e82)) (a1 : List (C .e82)) : runFn X45 (F45 n) Go.Proofs.Try.f45 [.one (.row .e82 a0), .one (.row .e82 a1)] dec45 = G45n n a0 a1 := by
  have h : runFn X45 (F45 n) Go.Proofs.Try.f45 [.one (.row .e82 a0), .one (.row .e82 a1)] dec45 =
      cond ((a0.length : Int) != (a1.length : Int))
      (some (false))
      (MP45_0 n  (a0, a1, 0)) := by kernel_rfl
  simp only [h, G45n, m45_0]
noncomputable def G45 (a0 : List (C .e82)) (a1 : List (C .e82)) : Option (Bool) := G45n fuel a0 a1
noncomputable def con45 : Con C := { R0 := Bool, ret := fun r => [(false, [.bool r])], g := fun vs => match vs with
  | [.one (.row .e82 y0), .one (.row .e82 y1)] => G45 y0 y1
  | _ => none }
theorem x45 : XOk Go.Proofs.Try.prog X45 := ⟨tks_ok, els_ok⟩
theorem q45 : Cons Go.Proofs.Try.prog X45 := ⟨lkR_ok (l := [(77, con77)]) ⟨c77, trivial⟩, lkW_ok (l := []) trivial⟩
theorem c45 : ConOk Go.Proofs.Try.prog KK 45 con45 := by
  refine con_dec x45 q45 (by kernel_rfl) (f := 45) (fn := Go.Proofs.Try.f45) (c := bodyOf Go.Proofs.Try.f45) (by kernel_rfl) (by kernel_rfl) (by kernel_rfl) (nameB (by kernel_rfl)) con45 dec45 (fun rs r0 h => ?_) (fun vs r0 h => ?_)
  · unfold dec45 at h
    split at h
    · cases h; rfl
    · cases h
  · simp only [con45] at h
    split at h
    · rename_i y0 y1
      exact ⟨Nat.le_of_ble_eq_true (by kernel_rfl), F45 fuel, (t45 fuel y0 y1).trans h⟩
    · cases h
/-! ### f78 loop.example/wharfdesk/laws.eqGateLedger -/
noncomputable def X78 : Cx C := { K := KK, tk := lk tks, con := lkC [], conw := lkC [] }
def F78 (n : Nat) : Cf := { N := n, keep := [0, 1, 2, 3, 4, 9, 14, 19, 24], live := lk [] }
def dec78 (rs : List (Bool × List (Lf C))) : Option (Bool) := match rs with
  | [(false, [.bool z0])] => some z0
  | _ => none
noncomputable def G78n (n : Nat) (a0 : VGateLedger) (a1 : VGateLedger) : Option (Bool) :=
      cond (!decide (a0.Team = a1.Team))
      (some (false))
      (cond (!decide (a0.Resource = a1.Resource))
      (some (false))
      (cond (a0.Most != a1.Most)
      (some (false))
      (cond (a0.Free != a1.Free)
      (some (false))
      (some (true)))))
theorem t78 (n : Nat) (a0 : VGateLedger) (a1 : VGateLedger) : runFn X78 (F78 n) Go.Proofs.Try.f78 [.agg [.str a0.Team, .str a0.Resource, .int .i64 a0.Most, .int .i64 a0.Free], .agg [.str a1.Team, .str a1.Resource, .int .i64 a1.Most, .int .i64 a1.Free]] dec78 = G78n n a0 a1 := by
  kernel_rfl
noncomputable def G78 (a0 : VGateLedger) (a1 : VGateLedger) : Option (Bool) := G78n fuel a0 a1
noncomputable def con78 : Con C := { R0 := Bool, ret := fun r => [(false, [.bool r])], g := fun vs => match vs with
  | [.agg [.str y0_0, .str y0_1, .int .i64 y0_2, .int .i64 y0_3], .agg [.str y1_0, .str y1_1, .int .i64 y1_2, .int .i64 y1_3]] => G78 ⟨y0_0, y0_1, y0_2, y0_3⟩ ⟨y1_0, y1_1, y1_2, y1_3⟩
  | _ => none }
theorem x78 : XOk Go.Proofs.Try.prog X78 := ⟨tks_ok, els_ok⟩
theorem q78 : Cons Go.Proofs.Try.prog X78 := ⟨lkR_ok (l := []) trivial, lkW_ok (l := []) trivial⟩
theorem c78 : ConOk Go.Proofs.Try.prog KK 78 con78 := by
  refine con_dec x78 q78 (by kernel_rfl) (f := 78) (fn := Go.Proofs.Try.f78) (c := bodyOf Go.Proofs.Try.f78) (by kernel_rfl) (by kernel_rfl) (by kernel_rfl) (nameB (by kernel_rfl)) con78 dec78 (fun rs r0 h => ?_) (fun vs r0 h => ?_)
  · unfold dec78 at h
    split at h
    · cases h; rfl
    · cases h
  · simp only [con78] at h
    split at h
    · rename_i y0_0 y0_1 y0_2 y0_3 y1_0 y1_1 y1_2 y1_3
      exact ⟨Nat.le_of_ble_eq_true (by kernel_rfl), F78 fuel, (t78 fuel ⟨y0_0, y0_1, y0_2, y0_3⟩ ⟨y1_0, y1_1, y1_2, y1_3⟩).trans h⟩
    · cases h
/-! ### f46 loop.example/wharfdesk/laws.eqGateLedgerS -/
noncomputable def X46 : Cx C := { K := KK, tk := lk tks, con := lkC [(78, con78)], conw := lkC [] }
def F46 (n : Nat) : Cf := { N := n, keep := [0, 1, 4, 5, 10, 14, 26], live := lk [(0, [0, 1, 5])] }
def dec46 (rs : List (Bool × List (Lf C))) : Option (Bool) := match rs with
  | [(false, [.bool z0])] => some z0
  | _ => none
abbrev A46_0 : Type := List (C .e115) × List (C .e115) × Int
def s46_0 : A46_0 → St C := fun (x0_0, x0_1, x0_2) => { env := [(0, .one (.row .e115 x0_0)), (1, .one (.row .e115 x0_1)), (5, .one (.int .i64 x0_2))], objs := [], base := 0 }
noncomputable def r46_0 (n : Nat)  (rec0 : A46_0 → Option (Bool)) : A46_0 → Option (Bool) := fun (x0_0, x0_1, x0_2) =>
      cond (decide (x0_2 < (x0_0.length : Int)))
      (cond (decide (0 ≤ x0_2)) (Option.bind x0_0[x0_2.toNat]? fun x1 => cond (decide (0 ≤ x0_2)) (Option.bind x0_1[x0_2.toNat]? fun x2 => Option.bind (G78 x1 x2) fun r3 =>
      cond (!r3)
      (some (false))
      (rec0 (x0_0, x0_1, IntKind.i64.wrap (x0_2 + 1)))) none) none)
      (some (true))
noncomputable def LP46_0 (n : Nat)  (x : A46_0) : Option (Bool) := lpN (r46_0 n ) n x
noncomputable def MP46_0 (n : Nat)  (x : A46_0) : Option (Bool) := iter (fun rec S => run X46 (F46 n) (codeAt (bodyOf Go.Proofs.Try.f46) [1, 1, 0, 1, 0, 0]) 0 S (lopK rec (blkK 0 (seqK (run X46 (F46 n) (codeAt (bodyOf Go.Proofs.Try.f46) [1, 1, 1]) 0) (kTop X46 Go.Proofs.Try.f46 dec46))))) [0, 1, 5] n (s46_0 x)
theorem m46_0 (n : Nat)  (x : A46_0) : MP46_0 n  x = LP46_0 n  x := by
  refine iter_eq s46_0 (r46_0 n ) (fun rec0 x => ?_) n x
  obtain ⟨x0_0, x0_1, x0_2⟩ := x
  kernel_rfl
noncomputable def G46n (n : Nat) (a0 : List (C .e115)) (a1 : List (C .e115)) : Option (Bool) :=
      cond ((a0.length : Int) != (a1.length : Int))
      (some (false))
      (LP46_0 n  (a0, a1, 0))
theorem t46 (n : Nat) (a0 : List (C .e115)) (a1 : List (C .e115)) : runFn X46 (F46 n) Go.Proofs.Try.f46 [.one (.row .e115 a0), .one (.row .e115 a1)] dec46 = G46n n a0 a1 := by
  have h : runFn X46 (F46 n) Go.Proofs.Try.f46 [.one (.row .e115 a0), .one (.row .e115 a1)] dec46 =
      cond ((a0.length : Int) != (a1.length : Int))
      (some (false))
      (MP46_0 n  (a0, a1, 0)) := by kernel_rfl
  simp only [h, G46n, m46_0]
noncomputable def G46 (a0 : List (C .e115)) (a1 : List (C .e115)) : Option (Bool) := G46n fuel a0 a1
noncomputable def con46 : Con C := { R0 := Bool, ret := fun r => [(false, [.bool r])], g := fun vs => match vs with
  | [.one (.row .e115 y0), .one (.row .e115 y1)] => G46 y0 y1
  | _ => none }
theorem x46 : XOk Go.Proofs.Try.prog X46 := ⟨tks_ok, els_ok⟩
theorem q46 : Cons Go.Proofs.Try.prog X46 := ⟨lkR_ok (l := [(78, con78)]) ⟨c78, trivial⟩, lkW_ok (l := []) trivial⟩
theorem c46 : ConOk Go.Proofs.Try.prog KK 46 con46 := by
  refine con_dec x46 q46 (by kernel_rfl) (f := 46) (fn := Go.Proofs.Try.f46) (c := bodyOf Go.Proofs.Try.f46) (by kernel_rfl) (by kernel_rfl) (by kernel_rfl) (nameB (by kernel_rfl)) con46 dec46 (fun rs r0 h => ?_) (fun vs r0 h => ?_)
  · unfold dec46 at h
    split at h
    · cases h; rfl
    · cases h
  · simp only [con46] at h
    split at h
    · rename_i y0 y1
      exact ⟨Nat.le_of_ble_eq_true (by kernel_rfl), F46 fuel, (t46 fuel y0 y1).trans h⟩
    · cases h
/-! ### f79 loop.example/wharfdesk/laws.eqGatePurse -/
noncomputable def X79 : Cx C := { K := KK, tk := lk tks, con := lkC [], conw := lkC [] }
def F79 (n : Nat) : Cf := { N := n, keep := [0, 1, 2, 3, 4, 9, 14, 19, 24, 29], live := lk [] }
def dec79 (rs : List (Bool × List (Lf C))) : Option (Bool) := match rs with
  | [(false, [.bool z0])] => some z0
  | _ => none
noncomputable def G79n (n : Nat) (a0 : VGatePurse) (a1 : VGatePurse) : Option (Bool) :=
      cond (!decide (a0.Door = a1.Door))
      (some (false))
      (cond (!decide (a0.Team = a1.Team))
      (some (false))
      (cond (!decide (a0.Resource = a1.Resource))
      (some (false))
      (cond (a0.Amount != a1.Amount)
      (some (false))
      (cond (a0.Until != a1.Until)
      (some (false))
      (some (true))))))
theorem t79 (n : Nat) (a0 : VGatePurse) (a1 : VGatePurse) : runFn X79 (F79 n) Go.Proofs.Try.f79 [.agg [.str a0.Door, .str a0.Team, .str a0.Resource, .int .i64 a0.Amount, .int .i64 a0.Until], .agg [.str a1.Door, .str a1.Team, .str a1.Resource, .int .i64 a1.Amount, .int .i64 a1.Until]] dec79 = G79n n a0 a1 := by
  kernel_rfl
noncomputable def G79 (a0 : VGatePurse) (a1 : VGatePurse) : Option (Bool) := G79n fuel a0 a1
noncomputable def con79 : Con C := { R0 := Bool, ret := fun r => [(false, [.bool r])], g := fun vs => match vs with
  | [.agg [.str y0_0, .str y0_1, .str y0_2, .int .i64 y0_3, .int .i64 y0_4], .agg [.str y1_0, .str y1_1, .str y1_2, .int .i64 y1_3, .int .i64 y1_4]] => G79 ⟨y0_0, y0_1, y0_2, y0_3, y0_4⟩ ⟨y1_0, y1_1, y1_2, y1_3, y1_4⟩
  | _ => none }
theorem x79 : XOk Go.Proofs.Try.prog X79 := ⟨tks_ok, els_ok⟩
theorem q79 : Cons Go.Proofs.Try.prog X79 := ⟨lkR_ok (l := []) trivial, lkW_ok (l := []) trivial⟩
theorem c79 : ConOk Go.Proofs.Try.prog KK 79 con79 := by
  refine con_dec x79 q79 (by kernel_rfl) (f := 79) (fn := Go.Proofs.Try.f79) (c := bodyOf Go.Proofs.Try.f79) (by kernel_rfl) (by kernel_rfl) (by kernel_rfl) (nameB (by kernel_rfl)) con79 dec79 (fun rs r0 h => ?_) (fun vs r0 h => ?_)
  · unfold dec79 at h
    split at h
    · cases h; rfl
    · cases h
  · simp only [con79] at h
    split at h
    · rename_i y0_0 y0_1 y0_2 y0_3 y0_4 y1_0 y1_1 y1_2 y1_3 y1_4
      exact ⟨Nat.le_of_ble_eq_true (by kernel_rfl), F79 fuel, (t79 fuel ⟨y0_0, y0_1, y0_2, y0_3, y0_4⟩ ⟨y1_0, y1_1, y1_2, y1_3, y1_4⟩).trans h⟩
    · cases h
/-! ### f47 loop.example/wharfdesk/laws.eqGatePurseS -/
noncomputable def X47 : Cx C := { K := KK, tk := lk tks, con := lkC [(79, con79)], conw := lkC [] }
def F47 (n : Nat) : Cf := { N := n, keep := [0, 1, 4, 5, 10, 14, 26], live := lk [(0, [0, 1, 5])] }
def dec47 (rs : List (Bool × List (Lf C))) : Option (Bool) := match rs with
  | [(false, [.bool z0])] => some z0
  | _ => none
abbrev A47_0 : Type := List (C .e118) × List (C .e118) × Int
def s47_0 : A47_0 → St C := fun (x0_0, x0_1, x0_2) => { env := [(0, .one (.row .e118 x0_0)), (1, .one (.row .e118 x0_1)), (5, .one (.int .i64 x0_2))], objs := [], base := 0 }
noncomputable def r47_0 (n : Nat)  (rec0 : A47_0 → Option (Bool)) : A47_0 → Option (Bool) := fun (x0_0, x0_1, x0_2) =>
      cond (decide (x0_2 < (x0_0.length : Int)))
      (cond (decide (0 ≤ x0_2)) (Option.bind x0_0[x0_2.toNat]? fun x1 => cond (decide (0 ≤ x0_2)) (Option.bind x0_1[x0_2.toNat]? fun x2 => Option.bind (G79 x1 x2) fun r3 =>
      cond (!r3)
      (some (false))
      (rec0 (x0_0, x0_1, IntKind.i64.wrap (x0_2 + 1)))) none) none)
      (some (true))
noncomputable def LP47_0 (n : Nat)  (x : A47_0) : Option (Bool) := lpN (r47_0 n ) n x
noncomputable def MP47_0 (n : Nat)  (x : A47_0) : Option (Bool) := iter (fun rec S => run X47 (F47 n) (codeAt (bodyOf Go.Proofs.Try.f47) [1, 1, 0, 1, 0, 0]) 0 S (lopK rec (blkK 0 (seqK (run X47 (F47 n) (codeAt (bodyOf Go.Proofs.Try.f47) [1, 1, 1]) 0) (kTop X47 Go.Proofs.Try.f47 dec47))))) [0, 1, 5] n (s47_0 x)
theorem m47_0 (n : Nat)  (x : A47_0) : MP47_0 n  x = LP47_0 n  x := by
  refine iter_eq s47_0 (r47_0 n ) (fun rec0 x => ?_) n x
  obtain ⟨x0_0, x0_1, x0_2⟩ := x
  kernel_rfl
noncomputable def G47n (n : Nat) (a0 : List (C .e118)) (a1 : List (C .e118)) : Option (Bool) :=
      cond ((a0.length : Int) != (a1.length : Int))
      (some (false))
      (LP47_0 n  (a0, a1, 0))
theorem t47 (n : Nat) (a0 : List (C .e118)) (a1 : List (C .e118)) : runFn X47 (F47 n) Go.Proofs.Try.f47 [.one (.row .e118 a0), .one (.row .e118 a1)] dec47 = G47n n a0 a1 := by
  have h : runFn X47 (F47 n) Go.Proofs.Try.f47 [.one (.row .e118 a0), .one (.row .e118 a1)] dec47 =
      cond ((a0.length : Int) != (a1.length : Int))
      (some (false))
      (MP47_0 n  (a0, a1, 0)) := by kernel_rfl
  simp only [h, G47n, m47_0]
noncomputable def G47 (a0 : List (C .e118)) (a1 : List (C .e118)) : Option (Bool) := G47n fuel a0 a1
noncomputable def con47 : Con C := { R0 := Bool, ret := fun r => [(false, [.bool r])], g := fun vs => match vs with
  | [.one (.row .e118 y0), .one (.row .e118 y1)] => G47 y0 y1
  | _ => none }
theorem x47 : XOk Go.Proofs.Try.prog X47 := ⟨tks_ok, els_ok⟩
theorem q47 : Cons Go.Proofs.Try.prog X47 := ⟨lkR_ok (l := [(79, con79)]) ⟨c79, trivial⟩, lkW_ok (l := []) trivial⟩
theorem c47 : ConOk Go.Proofs.Try.prog KK 47 con47 := by
  refine con_dec x47 q47 (by kernel_rfl) (f := 47) (fn := Go.Proofs.Try.f47) (c := bodyOf Go.Proofs.Try.f47) (by kernel_rfl) (by kernel_rfl) (by kernel_rfl) (nameB (by kernel_rfl)) con47 dec47 (fun rs r0 h => ?_) (fun vs r0 h => ?_)
  · unfold dec47 at h
    split at h
    · cases h; rfl
    · cases h
  · simp only [con47] at h
    split at h
    · rename_i y0 y1
      exact ⟨Nat.le_of_ble_eq_true (by kernel_rfl), F47 fuel, (t47 fuel y0 y1).trans h⟩
    · cases h
/-! ### f21 loop.example/wharfdesk/laws.eqGateBook -/
noncomputable def X21 : Cx C := { K := KK, tk := lk tks, con := lkC [(24, con24), (45, con45), (46, con46), (47, con47)], conw := lkC [] }
def F21 (n : Nat) : Cf := { N := n, keep := [0, 1, 2, 3, 4, 9, 14, 19, 25, 31, 37, 43], live := lk [] }
def dec21 (rs : List (Bool × List (Lf C))) : Option (Bool) := match rs with
  | [(false, [.bool z0])] => some z0
  | _ => none
noncomputable def G21n (n : Nat) (a0 : VGateBook) (a1 : VGateBook) : Option (Bool) :=
      cond (a0.Now != a1.Now)
      (some (false))
      (cond (a0.Tick != a1.Tick)
      (some (false))
      (cond (a0.Given != a1.Given)
      (some (false))
      (Option.bind (G45 a0.Objects a1.Objects) fun r1 =>
      cond (!r1)
      (some (false))
      (Option.bind (G24 a0.Grants a1.Grants) fun r2 =>
      cond (!r2)
      (some (false))
      (Option.bind (G46 a0.Ledgers a1.Ledgers) fun r3 =>
      cond (!r3)
      (some (false))
      (Option.bind (G47 a0.Purses a1.Purses) fun r4 =>
      cond (!r4)
      (some (false))
      (some (true))))))))
theorem t21 (n : Nat) (a0 : VGateBook) (a1 : VGateBook) : runFn X21 (F21 n) Go.Proofs.Try.f21 [.agg [.int .i64 a0.Now, .int .i64 a0.Tick, .int .i64 a0.Given, .row .e82 a0.Objects, .row .e77 a0.Grants, .row .e115 a0.Ledgers, .row .e118 a0.Purses], .agg [.int .i64 a1.Now, .int .i64 a1.Tick, .int .i64 a1.Given, .row .e82 a1.Objects, .row .e77 a1.Grants, .row .e115 a1.Ledgers, .row .e118 a1.Purses]] dec21 = G21n n a0 a1 := by
  kernel_rfl
noncomputable def G21 (a0 : VGateBook) (a1 : VGateBook) : Option (Bool) := G21n fuel a0 a1
noncomputable def con21 : Con C := { R0 := Bool, ret := fun r => [(false, [.bool r])], g := fun vs => match vs with
  | [.agg [.int .i64 y0_0, .int .i64 y0_1, .int .i64 y0_2, .row .e82 y0_3, .row .e77 y0_4, .row .e115 y0_5, .row .e118 y0_6], .agg [.int .i64 y1_0, .int .i64 y1_1, .int .i64 y1_2, .row .e82 y1_3, .row .e77 y1_4, .row .e115 y1_5, .row .e118 y1_6]] => G21 ⟨y0_0, y0_1, y0_2, y0_3, y0_4, y0_5, y0_6⟩ ⟨y1_0, y1_1, y1_2, y1_3, y1_4, y1_5, y1_6⟩
  | _ => none }
theorem x21 : XOk Go.Proofs.Try.prog X21 := ⟨tks_ok, els_ok⟩
theorem q21 : Cons Go.Proofs.Try.prog X21 := ⟨lkR_ok (l := [(24, con24), (45, con45), (46, con46), (47, con47)]) ⟨c24, c45, c46, c47, trivial⟩, lkW_ok (l := []) trivial⟩
theorem c21 : ConOk Go.Proofs.Try.prog KK 21 con21 := by
  refine con_dec x21 q21 (by kernel_rfl) (f := 21) (fn := Go.Proofs.Try.f21) (c := bodyOf Go.Proofs.Try.f21) (by kernel_rfl) (by kernel_rfl) (by kernel_rfl) (nameB (by kernel_rfl)) con21 dec21 (fun rs r0 h => ?_) (fun vs r0 h => ?_)
  · unfold dec21 at h
    split at h
    · cases h; rfl
    · cases h
  · simp only [con21] at h
    split at h
    · rename_i y0_0 y0_1 y0_2 y0_3 y0_4 y0_5 y0_6 y1_0 y1_1 y1_2 y1_3 y1_4 y1_5 y1_6
      exact ⟨Nat.le_of_ble_eq_true (by kernel_rfl), F21 fuel, (t21 fuel ⟨y0_0, y0_1, y0_2, y0_3, y0_4, y0_5, y0_6⟩ ⟨y1_0, y1_1, y1_2, y1_3, y1_4, y1_5, y1_6⟩).trans h⟩
    · cases h
/-! ### f80 loop.example/wharfdesk/laws.eqStewService -/
noncomputable def X80 : Cx C := { K := KK, tk := lk tks, con := lkC [], conw := lkC [] }
def F80 (n : Nat) : Cf := { N := n, keep := [0, 1, 2, 3, 4, 9, 14, 19, 24, 29, 34, 39, 44, 49, 54, 59, 64, 69], live := lk [] }
def dec80 (rs : List (Bool × List (Lf C))) : Option (Bool) := match rs with
  | [(false, [.bool z0])] => some z0
  | _ => none
noncomputable def G80n (n : Nat) (a0 : VStewService) (a1 : VStewService) : Option (Bool) :=
      cond (!decide (a0.Name = a1.Name))
      (some (false))
      (cond (a0.Version != a1.Version)
      (some (false))
      (cond (!(a0.Gone == a1.Gone))
      (some (false))
      (cond (a0.Image != a1.Image)
      (some (false))
      (cond (a0.Want != a1.Want)
      (some (false))
      (cond (a0.Down != a1.Down)
      (some (false))
      (cond (a0.Over != a1.Over)
      (some (false))
      (cond (a0.Next != a1.Next)
      (some (false))
      (cond (a0.Per != a1.Per)
      (some (false))
      (cond (a0.Least != a1.Least)
      (some (false))
      (cond (a0.Most != a1.Most)
      (some (false))
      (cond (a0.Load != a1.Load)
      (some (false))
      (cond (a0.Cool != a1.Cool)
      (some (false))
      (some (true))))))))))))))
theorem t80 (n : Nat) (a0 : VStewService) (a1 : VStewService) : runFn X80 (F80 n) Go.Proofs.Try.f80 [.agg [.str a0.Name, .int .i64 a0.Version, .bool a0.Gone, .int .i64 a0.Image, .int .i64 a0.Want, .int .i64 a0.Down, .int .i64 a0.Over, .int .i64 a0.Next, .int .i64 a0.Per, .int .i64 a0.Least, .int .i64 a0.Most, .int .i64 a0.Load, .int .i64 a0.Cool], .agg [.str a1.Name, .int .i64 a1.Version, .bool a1.Gone, .int .i64 a1.Image, .int .i64 a1.Want, .int .i64 a1.Down, .int .i64 a1.Over, .int .i64 a1.Next, .int .i64 a1.Per, .int .i64 a1.Least, .int .i64 a1.Most, .int .i64 a1.Load, .int .i64 a1.Cool]] dec80 = G80n n a0 a1 := by
  kernel_rfl
noncomputable def G80 (a0 : VStewService) (a1 : VStewService) : Option (Bool) := G80n fuel a0 a1
noncomputable def con80 : Con C := { R0 := Bool, ret := fun r => [(false, [.bool r])], g := fun vs => match vs with
  | [.agg [.str y0_0, .int .i64 y0_1, .bool y0_2, .int .i64 y0_3, .int .i64 y0_4, .int .i64 y0_5, .int .i64 y0_6, .int .i64 y0_7, .int .i64 y0_8, .int .i64 y0_9, .int .i64 y0_10, .int .i64 y0_11, .int .i64 y0_12], .agg [.str y1_0, .int .i64 y1_1, .bool y1_2, .int .i64 y1_3, .int .i64 y1_4, .int .i64 y1_5, .int .i64 y1_6, .int .i64 y1_7, .int .i64 y1_8, .int .i64 y1_9, .int .i64 y1_10, .int .i64 y1_11, .int .i64 y1_12]] => G80 ⟨y0_0, y0_1, y0_2, y0_3, y0_4, y0_5, y0_6, y0_7, y0_8, y0_9, y0_10, y0_11, y0_12⟩ ⟨y1_0, y1_1, y1_2, y1_3, y1_4, y1_5, y1_6, y1_7, y1_8, y1_9, y1_10, y1_11, y1_12⟩
  | _ => none }
theorem x80 : XOk Go.Proofs.Try.prog X80 := ⟨tks_ok, els_ok⟩
theorem q80 : Cons Go.Proofs.Try.prog X80 := ⟨lkR_ok (l := []) trivial, lkW_ok (l := []) trivial⟩
theorem c80 : ConOk Go.Proofs.Try.prog KK 80 con80 := by
  refine con_dec x80 q80 (by kernel_rfl) (f := 80) (fn := Go.Proofs.Try.f80) (c := bodyOf Go.Proofs.Try.f80) (by kernel_rfl) (by kernel_rfl) (by kernel_rfl) (nameB (by kernel_rfl)) con80 dec80 (fun rs r0 h => ?_) (fun vs r0 h => ?_)
  · unfold dec80 at h
    split at h
    · cases h; rfl
    · cases h
  · simp only [con80] at h
    split at h
    · rename_i y0_0 y0_1 y0_2 y0_3 y0_4 y0_5 y0_6 y0_7 y0_8 y0_9 y0_10 y0_11 y0_12 y1_0 y1_1 y1_2 y1_3 y1_4 y1_5 y1_6 y1_7 y1_8 y1_9 y1_10 y1_11 y1_12
      exact ⟨Nat.le_of_ble_eq_true (by kernel_rfl), F80 fuel, (t80 fuel ⟨y0_0, y0_1, y0_2, y0_3, y0_4, y0_5, y0_6, y0_7, y0_8, y0_9, y0_10, y0_11, y0_12⟩ ⟨y1_0, y1_1, y1_2, y1_3, y1_4, y1_5, y1_6, y1_7, y1_8, y1_9, y1_10, y1_11, y1_12⟩).trans h⟩
    · cases h
/-! ### f48 loop.example/wharfdesk/laws.eqStewServiceS -/
noncomputable def X48 : Cx C := { K := KK, tk := lk tks, con := lkC [(80, con80)], conw := lkC [] }
def F48 (n : Nat) : Cf := { N := n, keep := [0, 1, 4, 5, 10, 14, 26], live := lk [(0, [0, 1, 5])] }
def dec48 (rs : List (Bool × List (Lf C))) : Option (Bool) := match rs with
  | [(false, [.bool z0])] => some z0
  | _ => none
abbrev A48_0 : Type := List (C .e121) × List (C .e121) × Int
def s48_0 : A48_0 → St C := fun (x0_0, x0_1, x0_2) => { env := [(0, .one (.row .e121 x0_0)), (1, .one (.row .e121 x0_1)), (5, .one (.int .i64 x0_2))], objs := [], base := 0 }
noncomputable def r48_0 (n : Nat)  (rec0 : A48_0 → Option (Bool)) : A48_0 → Option (Bool) := fun (x0_0, x0_1, x0_2) =>
      cond (decide (x0_2 < (x0_0.length : Int)))
      (cond (decide (0 ≤ x0_2)) (Option.bind x0_0[x0_2.toNat]? fun x1 => cond (decide (0 ≤ x0_2)) (Option.bind x0_1[x0_2.toNat]? fun x2 => Option.bind (G80 x1 x2) fun r3 =>
      cond (!r3)
      (some (false))
      (rec0 (x0_0, x0_1, IntKind.i64.wrap (x0_2 + 1)))) none) none)
      (some (true))
noncomputable def LP48_0 (n : Nat)  (x : A48_0) : Option (Bool) := lpN (r48_0 n ) n x
noncomputable def MP48_0 (n : Nat)  (x : A48_0) : Option (Bool) := iter (fun rec S => run X48 (F48 n) (codeAt (bodyOf Go.Proofs.Try.f48) [1, 1, 0, 1, 0, 0]) 0 S (lopK rec (blkK 0 (seqK (run X48 (F48 n) (codeAt (bodyOf Go.Proofs.Try.f48) [1, 1, 1]) 0) (kTop X48 Go.Proofs.Try.f48 dec48))))) [0, 1, 5] n (s48_0 x)
theorem m48_0 (n : Nat)  (x : A48_0) : MP48_0 n  x = LP48_0 n  x := by
  refine iter_eq s48_0 (r48_0 n ) (fun rec0 x => ?_) n x
  obtain ⟨x0_0, x0_1, x0_2⟩ := x
  kernel_rfl
noncomputable def G48n (n : Nat) (a0 : List (C .e121)) (a1 : List (C .e121)) : Option (Bool) :=
      cond ((a0.length : Int) != (a1.length : Int))
      (some (false))
      (LP48_0 n  (a0, a1, 0))
theorem t48 (n : Nat) (a0 : List (C .e121)) (a1 : List (C .e121)) : runFn X48 (F48 n) Go.Proofs.Try.f48 [.one (.row .e121 a0), .one (.row .e121 a1)] dec48 = G48n n a0 a1 := by
  have h : runFn X48 (F48 n) Go.Proofs.Try.f48 [.one (.row .e121 a0), .one (.row .e121 a1)] dec48 =
      cond ((a0.length : Int) != (a1.length : Int))
      (some (false))
      (MP48_0 n  (a0, a1, 0)) := by kernel_rfl
  simp only [h, G48n, m48_0]
noncomputable def G48 (a0 : List (C .e121)) (a1 : List (C .e121)) : Option (Bool) := G48n fuel a0 a1
noncomputable def con48 : Con C := { R0 := Bool, ret := fun r => [(false, [.bool r])], g := fun vs => match vs with
  | [.one (.row .e121 y0), .one (.row .e121 y1)] => G48 y0 y1
  | _ => none }
theorem x48 : XOk Go.Proofs.Try.prog X48 := ⟨tks_ok, els_ok⟩
theorem q48 : Cons Go.Proofs.Try.prog X48 := ⟨lkR_ok (l := [(80, con80)]) ⟨c80, trivial⟩, lkW_ok (l := []) trivial⟩
theorem c48 : ConOk Go.Proofs.Try.prog KK 48 con48 := by
  refine con_dec x48 q48 (by kernel_rfl) (f := 48) (fn := Go.Proofs.Try.f48) (c := bodyOf Go.Proofs.Try.f48) (by kernel_rfl) (by kernel_rfl) (by kernel_rfl) (nameB (by kernel_rfl)) con48 dec48 (fun rs r0 h => ?_) (fun vs r0 h => ?_)
  · unfold dec48 at h
    split at h
    · cases h; rfl
    · cases h
  · simp only [con48] at h
    split at h
    · rename_i y0 y1
      exact ⟨Nat.le_of_ble_eq_true (by kernel_rfl), F48 fuel, (t48 fuel y0 y1).trans h⟩
    · cases h
/-! ### f81 loop.example/wharfdesk/laws.eqStewCopy -/
noncomputable def X81 : Cx C := { K := KK, tk := lk tks, con := lkC [], conw := lkC [] }
def F81 (n : Nat) : Cf := { N := n, keep := [0, 1, 2, 3, 4, 9, 14, 19, 24, 29, 34, 39], live := lk [] }
def dec81 (rs : List (Bool × List (Lf C))) : Option (Bool) := match rs with
  | [(false, [.bool z0])] => some z0
  | _ => none
noncomputable def G81n (n : Nat) (a0 : VStewCopy) (a1 : VStewCopy) : Option (Bool) :=
      cond (!decide (a0.Service = a1.Service))
      (some (false))
      (cond (a0.Number != a1.Number)
      (some (false))
      (cond (a0.Version != a1.Version)
      (some (false))
      (cond (a0.Image != a1.Image)
      (some (false))
      (cond (a0.State != a1.State)
      (some (false))
      (cond (!(a0.Ending == a1.Ending))
      (some (false))
      (cond (!decide (a0.Berth = a1.Berth))
      (some (false))
      (some (true))))))))
theorem t81 (n : Nat) (a0 : VStewCopy) (a1 : VStewCopy) : runFn X81 (F81 n) Go.Proofs.Try.f81 [.agg [.str a0.Service, .int .i64 a0.Number, .int .i64 a0.Version, .int .i64 a0.Image, .int .i64 a0.State, .bool a0.Ending, .str a0.Berth], .agg [.str a1.Service, .int .i64 a1.Number, .int .i64 a1.Version, .int .i64 a1.Image, .int .i64 a1.State, .bool a1.Ending, .str a1.Berth]] dec81 = G81n n a0 a1 := by
  kernel_rfl
noncomputable def G81 (a0 : VStewCopy) (a1 : VStewCopy) : Option (Bool) := G81n fuel a0 a1
noncomputable def con81 : Con C := { R0 := Bool, ret := fun r => [(false, [.bool r])], g := fun vs => match vs with
  | [.agg [.str y0_0, .int .i64 y0_1, .int .i64 y0_2, .int .i64 y0_3, .int .i64 y0_4, .bool y0_5, .str y0_6], .agg [.str y1_0, .int .i64 y1_1, .int .i64 y1_2, .int .i64 y1_3, .int .i64 y1_4, .bool y1_5, .str y1_6]] => G81 ⟨y0_0, y0_1, y0_2, y0_3, y0_4, y0_5, y0_6⟩ ⟨y1_0, y1_1, y1_2, y1_3, y1_4, y1_5, y1_6⟩
  | _ => none }
theorem x81 : XOk Go.Proofs.Try.prog X81 := ⟨tks_ok, els_ok⟩
theorem q81 : Cons Go.Proofs.Try.prog X81 := ⟨lkR_ok (l := []) trivial, lkW_ok (l := []) trivial⟩
theorem c81 : ConOk Go.Proofs.Try.prog KK 81 con81 := by
  refine con_dec x81 q81 (by kernel_rfl) (f := 81) (fn := Go.Proofs.Try.f81) (c := bodyOf Go.Proofs.Try.f81) (by kernel_rfl) (by kernel_rfl) (by kernel_rfl) (nameB (by kernel_rfl)) con81 dec81 (fun rs r0 h => ?_) (fun vs r0 h => ?_)
  · unfold dec81 at h
    split at h
    · cases h; rfl
    · cases h
  · simp only [con81] at h
    split at h
    · rename_i y0_0 y0_1 y0_2 y0_3 y0_4 y0_5 y0_6 y1_0 y1_1 y1_2 y1_3 y1_4 y1_5 y1_6
      exact ⟨Nat.le_of_ble_eq_true (by kernel_rfl), F81 fuel, (t81 fuel ⟨y0_0, y0_1, y0_2, y0_3, y0_4, y0_5, y0_6⟩ ⟨y1_0, y1_1, y1_2, y1_3, y1_4, y1_5, y1_6⟩).trans h⟩
    · cases h
/-! ### f49 loop.example/wharfdesk/laws.eqStewCopyS -/
noncomputable def X49 : Cx C := { K := KK, tk := lk tks, con := lkC [(81, con81)], conw := lkC [] }
def F49 (n : Nat) : Cf := { N := n, keep := [0, 1, 4, 5, 10, 14, 26], live := lk [(0, [0, 1, 5])] }
def dec49 (rs : List (Bool × List (Lf C))) : Option (Bool) := match rs with
  | [(false, [.bool z0])] => some z0
  | _ => none
abbrev A49_0 : Type := List (C .e124) × List (C .e124) × Int
def s49_0 : A49_0 → St C := fun (x0_0, x0_1, x0_2) => { env := [(0, .one (.row .e124 x0_0)), (1, .one (.row .e124 x0_1)), (5, .one (.int .i64 x0_2))], objs := [], base := 0 }
noncomputable def r49_0 (n : Nat)  (rec0 : A49_0 → Option (Bool)) : A49_0 → Option (Bool) := fun (x0_0, x0_1, x0_2) =>
      cond (decide (x0_2 < (x0_0.length : Int)))
      (cond (decide (0 ≤ x0_2)) (Option.bind x0_0[x0_2.toNat]? fun x1 => cond (decide (0 ≤ x0_2)) (Option.bind x0_1[x0_2.toNat]? fun x2 => Option.bind (G81 x1 x2) fun r3 =>
      cond (!r3)
      (some (false))
      (rec0 (x0_0, x0_1, IntKind.i64.wrap (x0_2 + 1)))) none) none)
      (some (true))
noncomputable def LP49_0 (n : Nat)  (x : A49_0) : Option (Bool) := lpN (r49_0 n ) n x
noncomputable def MP49_0 (n : Nat)  (x : A49_0) : Option (Bool) := iter (fun rec S => run X49 (F49 n) (codeAt (bodyOf Go.Proofs.Try.f49) [1, 1, 0, 1, 0, 0]) 0 S (lopK rec (blkK 0 (seqK (run X49 (F49 n) (codeAt (bodyOf Go.Proofs.Try.f49) [1, 1, 1]) 0) (kTop X49 Go.Proofs.Try.f49 dec49))))) [0, 1, 5] n (s49_0 x)
theorem m49_0 (n : Nat)  (x : A49_0) : MP49_0 n  x = LP49_0 n  x := by
  refine iter_eq s49_0 (r49_0 n ) (fun rec0 x => ?_) n x
  obtain ⟨x0_0, x0_1, x0_2⟩ := x
  kernel_rfl
noncomputable def G49n (n : Nat) (a0 : List (C .e124)) (a1 : List (C .e124)) : Option (Bool) :=
      cond ((a0.length : Int) != (a1.length : Int))
      (some (false))
      (LP49_0 n  (a0, a1, 0))
theorem t49 (n : Nat) (a0 : List (C .e124)) (a1 : List (C .e124)) : runFn X49 (F49 n) Go.Proofs.Try.f49 [.one (.row .e124 a0), .one (.row .e124 a1)] dec49 = G49n n a0 a1 := by
  have h : runFn X49 (F49 n) Go.Proofs.Try.f49 [.one (.row .e124 a0), .one (.row .e124 a1)] dec49 =
      cond ((a0.length : Int) != (a1.length : Int))
      (some (false))
      (MP49_0 n  (a0, a1, 0)) := by kernel_rfl
  simp only [h, G49n, m49_0]
noncomputable def G49 (a0 : List (C .e124)) (a1 : List (C .e124)) : Option (Bool) := G49n fuel a0 a1
noncomputable def con49 : Con C := { R0 := Bool, ret := fun r => [(false, [.bool r])], g := fun vs => match vs with
  | [.one (.row .e124 y0), .one (.row .e124 y1)] => G49 y0 y1
  | _ => none }
theorem x49 : XOk Go.Proofs.Try.prog X49 := ⟨tks_ok, els_ok⟩
theorem q49 : Cons Go.Proofs.Try.prog X49 := ⟨lkR_ok (l := [(81, con81)]) ⟨c81, trivial⟩, lkW_ok (l := []) trivial⟩
theorem c49 : ConOk Go.Proofs.Try.prog KK 49 con49 := by
  refine con_dec x49 q49 (by kernel_rfl) (f := 49) (fn := Go.Proofs.Try.f49) (c := bodyOf Go.Proofs.Try.f49) (by kernel_rfl) (by kernel_rfl) (by kernel_rfl) (nameB (by kernel_rfl)) con49 dec49 (fun rs r0 h => ?_) (fun vs r0 h => ?_)
  · unfold dec49 at h
    split at h
    · cases h; rfl
    · cases h
  · simp only [con49] at h
    split at h
    · rename_i y0 y1
      exact ⟨Nat.le_of_ble_eq_true (by kernel_rfl), F49 fuel, (t49 fuel y0 y1).trans h⟩
    · cases h
/-! ### f82 loop.example/wharfdesk/laws.eqStewBerth -/
noncomputable def X82 : Cx C := { K := KK, tk := lk tks, con := lkC [], conw := lkC [] }
def F82 (n : Nat) : Cf := { N := n, keep := [0, 1, 2, 3, 4, 9, 14], live := lk [] }
def dec82 (rs : List (Bool × List (Lf C))) : Option (Bool) := match rs with
  | [(false, [.bool z0])] => some z0
  | _ => none
noncomputable def G82n (n : Nat) (a0 : VStewBerth) (a1 : VStewBerth) : Option (Bool) :=
      cond (!decide (a0.Name = a1.Name))
      (some (false))
      (cond (!(a0.Drain == a1.Drain))
      (some (false))
      (some (true)))
theorem t82 (n : Nat) (a0 : VStewBerth) (a1 : VStewBerth) : runFn X82 (F82 n) Go.Proofs.Try.f82 [.agg [.str a0.Name, .bool a0.Drain], .agg [.str a1.Name, .bool a1.Drain]] dec82 = G82n n a0 a1 := by
  kernel_rfl
noncomputable def G82 (a0 : VStewBerth) (a1 : VStewBerth) : Option (Bool) := G82n fuel a0 a1
noncomputable def con82 : Con C := { R0 := Bool, ret := fun r => [(false, [.bool r])], g := fun vs => match vs with
  | [.agg [.str y0_0, .bool y0_1], .agg [.str y1_0, .bool y1_1]] => G82 ⟨y0_0, y0_1⟩ ⟨y1_0, y1_1⟩
  | _ => none }
theorem x82 : XOk Go.Proofs.Try.prog X82 := ⟨tks_ok, els_ok⟩
theorem q82 : Cons Go.Proofs.Try.prog X82 := ⟨lkR_ok (l := []) trivial, lkW_ok (l := []) trivial⟩
theorem c82 : ConOk Go.Proofs.Try.prog KK 82 con82 := by
  refine con_dec x82 q82 (by kernel_rfl) (f := 82) (fn := Go.Proofs.Try.f82) (c := bodyOf Go.Proofs.Try.f82) (by kernel_rfl) (by kernel_rfl) (by kernel_rfl) (nameB (by kernel_rfl)) con82 dec82 (fun rs r0 h => ?_) (fun vs r0 h => ?_)
  · unfold dec82 at h
    split at h
    · cases h; rfl
    · cases h
  · simp only [con82] at h
    split at h
    · rename_i y0_0 y0_1 y1_0 y1_1
      exact ⟨Nat.le_of_ble_eq_true (by kernel_rfl), F82 fuel, (t82 fuel ⟨y0_0, y0_1⟩ ⟨y1_0, y1_1⟩).trans h⟩
    · cases h
/-! ### f50 loop.example/wharfdesk/laws.eqStewBerthS -/
noncomputable def X50 : Cx C := { K := KK, tk := lk tks, con := lkC [(82, con82)], conw := lkC [] }
def F50 (n : Nat) : Cf := { N := n, keep := [0, 1, 4, 5, 10, 14, 26], live := lk [(0, [0, 1, 5])] }
def dec50 (rs : List (Bool × List (Lf C))) : Option (Bool) := match rs with
  | [(false, [.bool z0])] => some z0
  | _ => none
abbrev A50_0 : Type := List (C .e127) × List (C .e127) × Int
def s50_0 : A50_0 → St C := fun (x0_0, x0_1, x0_2) => { env := [(0, .one (.row .e127 x0_0)), (1, .one (.row .e127 x0_1)), (5, .one (.int .i64 x0_2))], objs := [], base := 0 }
noncomputable def r50_0 (n : Nat)  (rec0 : A50_0 → Option (Bool)) : A50_0 → Option (Bool) := fun (x0_0, x0_1, x0_2) =>
      cond (decide (x0_2 < (x0_0.length : Int)))
      (cond (decide (0 ≤ x0_2)) (Option.bind x0_0[x0_2.toNat]? fun x1 => cond (decide (0 ≤ x0_2)) (Option.bind x0_1[x0_2.toNat]? fun x2 => Option.bind (G82 x1 x2) fun r3 =>
      cond (!r3)
      (some (false))
      (rec0 (x0_0, x0_1, IntKind.i64.wrap (x0_2 + 1)))) none) none)
      (some (true))
noncomputable def LP50_0 (n : Nat)  (x : A50_0) : Option (Bool) := lpN (r50_0 n ) n x
noncomputable def MP50_0 (n : Nat)  (x : A50_0) : Option (Bool) := iter (fun rec S => run X50 (F50 n) (codeAt (bodyOf Go.Proofs.Try.f50) [1, 1, 0, 1, 0, 0]) 0 S (lopK rec (blkK 0 (seqK (run X50 (F50 n) (codeAt (bodyOf Go.Proofs.Try.f50) [1, 1, 1]) 0) (kTop X50 Go.Proofs.Try.f50 dec50))))) [0, 1, 5] n (s50_0 x)
theorem m50_0 (n : Nat)  (x : A50_0) : MP50_0 n  x = LP50_0 n  x := by
  refine iter_eq s50_0 (r50_0 n ) (fun rec0 x => ?_) n x
  obtain ⟨x0_0, x0_1, x0_2⟩ := x
  kernel_rfl
noncomputable def G50n (n : Nat) (a0 : List (C .e127)) (a1 : List (C .e127)) : Option (Bool) :=
      cond ((a0.length : Int) != (a1.length : Int))
      (some (false))
      (LP50_0 n  (a0, a1, 0))
theorem t50 (n : Nat) (a0 : List (C .e127)) (a1 : List (C .e127)) : runFn X50 (F50 n) Go.Proofs.Try.f50 [.one (.row .e127 a0), .one (.row .e127 a1)] dec50 = G50n n a0 a1 := by
  have h : runFn X50 (F50 n) Go.Proofs.Try.f50 [.one (.row .e127 a0), .one (.row .e127 a1)] dec50 =
      cond ((a0.length : Int) != (a1.length : Int))
      (some (false))
      (MP50_0 n  (a0, a1, 0)) := by kernel_rfl
  simp only [h, G50n, m50_0]
noncomputable def G50 (a0 : List (C .e127)) (a1 : List (C .e127)) : Option (Bool) := G50n fuel a0 a1
noncomputable def con50 : Con C := { R0 := Bool, ret := fun r => [(false, [.bool r])], g := fun vs => match vs with
  | [.one (.row .e127 y0), .one (.row .e127 y1)] => G50 y0 y1
  | _ => none }
theorem x50 : XOk Go.Proofs.Try.prog X50 := ⟨tks_ok, els_ok⟩
theorem q50 : Cons Go.Proofs.Try.prog X50 := ⟨lkR_ok (l := [(82, con82)]) ⟨c82, trivial⟩, lkW_ok (l := []) trivial⟩
theorem c50 : ConOk Go.Proofs.Try.prog KK 50 con50 := by
  refine con_dec x50 q50 (by kernel_rfl) (f := 50) (fn := Go.Proofs.Try.f50) (c := bodyOf Go.Proofs.Try.f50) (by kernel_rfl) (by kernel_rfl) (by kernel_rfl) (nameB (by kernel_rfl)) con50 dec50 (fun rs r0 h => ?_) (fun vs r0 h => ?_)
  · unfold dec50 at h
    split at h
    · cases h; rfl
    · cases h
  · simp only [con50] at h
    split at h
    · rename_i y0 y1
      exact ⟨Nat.le_of_ble_eq_true (by kernel_rfl), F50 fuel, (t50 fuel y0 y1).trans h⟩
    · cases h
/-! ### f22 loop.example/wharfdesk/laws.eqStewBook -/
noncomputable def X22 : Cx C := { K := KK, tk := lk tks, con := lkC [(48, con48), (49, con49), (50, con50)], conw := lkC [] }
def F22 (n : Nat) : Cf := { N := n, keep := [0, 1, 2, 3, 4, 9, 15, 21, 27], live := lk [] }
def dec22 (rs : List (Bool × List (Lf C))) : Option (Bool) := match rs with
  | [(false, [.bool z0])] => some z0
  | _ => none
noncomputable def G22n (n : Nat) (a0 : VStewBook) (a1 : VStewBook) : Option (Bool) :=
      cond (a0.Now != a1.Now)
      (some (false))
      (Option.bind (G48 a0.Services a1.Services) fun r1 =>
      cond (!r1)
      (some (false))
      (Option.bind (G49 a0.Copies a1.Copies) fun r2 =>
      cond (!r2)
      (some (false))
      (Option.bind (G50 a0.Berths a1.Berths) fun r3 =>
      cond (!r3)
      (some (false))
      (some (true)))))
theorem t22 (n : Nat) (a0 : VStewBook) (a1 : VStewBook) : runFn X22 (F22 n) Go.Proofs.Try.f22 [.agg [.int .i64 a0.Now, .row .e121 a0.Services, .row .e124 a0.Copies, .row .e127 a0.Berths], .agg [.int .i64 a1.Now, .row .e121 a1.Services, .row .e124 a1.Copies, .row .e127 a1.Berths]] dec22 = G22n n a0 a1 := by
  kernel_rfl
noncomputable def G22 (a0 : VStewBook) (a1 : VStewBook) : Option (Bool) := G22n fuel a0 a1
noncomputable def con22 : Con C := { R0 := Bool, ret := fun r => [(false, [.bool r])], g := fun vs => match vs with
  | [.agg [.int .i64 y0_0, .row .e121 y0_1, .row .e124 y0_2, .row .e127 y0_3], .agg [.int .i64 y1_0, .row .e121 y1_1, .row .e124 y1_2, .row .e127 y1_3]] => G22 ⟨y0_0, y0_1, y0_2, y0_3⟩ ⟨y1_0, y1_1, y1_2, y1_3⟩
  | _ => none }
theorem x22 : XOk Go.Proofs.Try.prog X22 := ⟨tks_ok, els_ok⟩
theorem q22 : Cons Go.Proofs.Try.prog X22 := ⟨lkR_ok (l := [(48, con48), (49, con49), (50, con50)]) ⟨c48, c49, c50, trivial⟩, lkW_ok (l := []) trivial⟩
theorem c22 : ConOk Go.Proofs.Try.prog KK 22 con22 := by
  refine con_dec x22 q22 (by kernel_rfl) (f := 22) (fn := Go.Proofs.Try.f22) (c := bodyOf Go.Proofs.Try.f22) (by kernel_rfl) (by kernel_rfl) (by kernel_rfl) (nameB (by kernel_rfl)) con22 dec22 (fun rs r0 h => ?_) (fun vs r0 h => ?_)
  · unfold dec22 at h
    split at h
    · cases h; rfl
    · cases h
  · simp only [con22] at h
    split at h
    · rename_i y0_0 y0_1 y0_2 y0_3 y1_0 y1_1 y1_2 y1_3
      exact ⟨Nat.le_of_ble_eq_true (by kernel_rfl), F22 fuel, (t22 fuel ⟨y0_0, y0_1, y0_2, y0_3⟩ ⟨y1_0, y1_1, y1_2, y1_3⟩).trans h⟩
    · cases h
/-! ### f8 loop.example/wharfdesk/laws.eqHallBook -/
noncomputable def X8 : Cx C := { K := KK, tk := lk tks, con := lkC [(21, con21), (22, con22)], conw := lkC [] }
def F8 (n : Nat) : Cf := { N := n, keep := [0, 1, 2, 3, 4, 10, 16], live := lk [] }
def dec8 (rs : List (Bool × List (Lf C))) : Option (Bool) := match rs with
  | [(false, [.bool z0])] => some z0
  | _ => none
noncomputable def G8n (n : Nat) (a0 : VHallBook) (a1 : VHallBook) : Option (Bool) :=
      Option.bind (G21 (⟨a0.Gate_Now, a0.Gate_Tick, a0.Gate_Given, a0.Gate_Objects, a0.Gate_Grants, a0.Gate_Ledgers, a0.Gate_Purses⟩ : VGateBook) (⟨a1.Gate_Now, a1.Gate_Tick, a1.Gate_Given, a1.Gate_Objects, a1.Gate_Grants, a1.Gate_Ledgers, a1.Gate_Purses⟩ : VGateBook)) fun r1 =>
      cond (!r1)
      (some (false))
      (Option.bind (G22 (⟨a0.Stew_Now, a0.Stew_Services, a0.Stew_Copies, a0.Stew_Berths⟩ : VStewBook) (⟨a1.Stew_Now, a1.Stew_Services, a1.Stew_Copies, a1.Stew_Berths⟩ : VStewBook)) fun r2 =>
      cond (!r2)
      (some (false))
      (some (true)))
theorem t8 (n : Nat) (a0 : VHallBook) (a1 : VHallBook) : runFn X8 (F8 n) Go.Proofs.Try.f8 [.agg [.int .i64 a0.Gate_Now, .int .i64 a0.Gate_Tick, .int .i64 a0.Gate_Given, .row .e82 a0.Gate_Objects, .row .e77 a0.Gate_Grants, .row .e115 a0.Gate_Ledgers, .row .e118 a0.Gate_Purses, .int .i64 a0.Stew_Now, .row .e121 a0.Stew_Services, .row .e124 a0.Stew_Copies, .row .e127 a0.Stew_Berths], .agg [.int .i64 a1.Gate_Now, .int .i64 a1.Gate_Tick, .int .i64 a1.Gate_Given, .row .e82 a1.Gate_Objects, .row .e77 a1.Gate_Grants, .row .e115 a1.Gate_Ledgers, .row .e118 a1.Gate_Purses, .int .i64 a1.Stew_Now, .row .e121 a1.Stew_Services, .row .e124 a1.Stew_Copies, .row .e127 a1.Stew_Berths]] dec8 = G8n n a0 a1 := by
  kernel_rfl
noncomputable def G8 (a0 : VHallBook) (a1 : VHallBook) : Option (Bool) := G8n fuel a0 a1
noncomputable def con8 : Con C := { R0 := Bool, ret := fun r => [(false, [.bool r])], g := fun vs => match vs with
  | [.agg [.int .i64 y0_0, .int .i64 y0_1, .int .i64 y0_2, .row .e82 y0_3, .row .e77 y0_4, .row .e115 y0_5, .row .e118 y0_6, .int .i64 y0_7, .row .e121 y0_8, .row .e124 y0_9, .row .e127 y0_10], .agg [.int .i64 y1_0, .int .i64 y1_1, .int .i64 y1_2, .row .e82 y1_3, .row .e77 y1_4, .row .e115 y1_5, .row .e118 y1_6, .int .i64 y1_7, .row .e121 y1_8, .row .e124 y1_9, .row .e127 y1_10]] => G8 ⟨y0_0, y0_1, y0_2, y0_3, y0_4, y0_5, y0_6, y0_7, y0_8, y0_9, y0_10⟩ ⟨y1_0, y1_1, y1_2, y1_3, y1_4, y1_5, y1_6, y1_7, y1_8, y1_9, y1_10⟩
  | _ => none }
theorem x8 : XOk Go.Proofs.Try.prog X8 := ⟨tks_ok, els_ok⟩
theorem q8 : Cons Go.Proofs.Try.prog X8 := ⟨lkR_ok (l := [(21, con21), (22, con22)]) ⟨c21, c22, trivial⟩, lkW_ok (l := []) trivial⟩
theorem c8 : ConOk Go.Proofs.Try.prog KK 8 con8 := by
  refine con_dec x8 q8 (by kernel_rfl) (f := 8) (fn := Go.Proofs.Try.f8) (c := bodyOf Go.Proofs.Try.f8) (by kernel_rfl) (by kernel_rfl) (by kernel_rfl) (nameB (by kernel_rfl)) con8 dec8 (fun rs r0 h => ?_) (fun vs r0 h => ?_)
  · unfold dec8 at h
    split at h
    · cases h; rfl
    · cases h
  · simp only [con8] at h
    split at h
    · rename_i y0_0 y0_1 y0_2 y0_3 y0_4 y0_5 y0_6 y0_7 y0_8 y0_9 y0_10 y1_0 y1_1 y1_2 y1_3 y1_4 y1_5 y1_6 y1_7 y1_8 y1_9 y1_10
      exact ⟨Nat.le_of_ble_eq_true (by kernel_rfl), F8 fuel, (t8 fuel ⟨y0_0, y0_1, y0_2, y0_3, y0_4, y0_5, y0_6, y0_7, y0_8, y0_9, y0_10⟩ ⟨y1_0, y1_1, y1_2, y1_3, y1_4, y1_5, y1_6, y1_7, y1_8, y1_9, y1_10⟩).trans h⟩
    · cases h
/-! ### f51 loop.example/wharfdesk/laws.eqGateTeam -/
noncomputable def X51 : Cx C := { K := KK, tk := lk tks, con := lkC [], conw := lkC [] }
def F51 (n : Nat) : Cf := { N := n, keep := [0, 1, 2, 3, 4, 9, 14], live := lk [] }
def dec51 (rs : List (Bool × List (Lf C))) : Option (Bool) := match rs with
  | [(false, [.bool z0])] => some z0
  | _ => none
noncomputable def G51n (n : Nat) (a0 : VGateTeam) (a1 : VGateTeam) : Option (Bool) :=
      cond (!decide (a0.Name = a1.Name))
      (some (false))
      (cond (!decide (a0.Over = a1.Over))
      (some (false))
      (some (true)))
theorem t51 (n : Nat) (a0 : VGateTeam) (a1 : VGateTeam) : runFn X51 (F51 n) Go.Proofs.Try.f51 [.agg [.str a0.Name, .str a0.Over], .agg [.str a1.Name, .str a1.Over]] dec51 = G51n n a0 a1 := by
  kernel_rfl
noncomputable def G51 (a0 : VGateTeam) (a1 : VGateTeam) : Option (Bool) := G51n fuel a0 a1
noncomputable def con51 : Con C := { R0 := Bool, ret := fun r => [(false, [.bool r])], g := fun vs => match vs with
  | [.agg [.str y0_0, .str y0_1], .agg [.str y1_0, .str y1_1]] => G51 ⟨y0_0, y0_1⟩ ⟨y1_0, y1_1⟩
  | _ => none }
theorem x51 : XOk Go.Proofs.Try.prog X51 := ⟨tks_ok, els_ok⟩
theorem q51 : Cons Go.Proofs.Try.prog X51 := ⟨lkR_ok (l := []) trivial, lkW_ok (l := []) trivial⟩
theorem c51 : ConOk Go.Proofs.Try.prog KK 51 con51 := by
  refine con_dec x51 q51 (by kernel_rfl) (f := 51) (fn := Go.Proofs.Try.f51) (c := bodyOf Go.Proofs.Try.f51) (by kernel_rfl) (by kernel_rfl) (by kernel_rfl) (nameB (by kernel_rfl)) con51 dec51 (fun rs r0 h => ?_) (fun vs r0 h => ?_)
  · unfold dec51 at h
    split at h
    · cases h; rfl
    · cases h
  · simp only [con51] at h
    split at h
    · rename_i y0_0 y0_1 y1_0 y1_1
      exact ⟨Nat.le_of_ble_eq_true (by kernel_rfl), F51 fuel, (t51 fuel ⟨y0_0, y0_1⟩ ⟨y1_0, y1_1⟩).trans h⟩
    · cases h
/-! ### f23 loop.example/wharfdesk/laws.eqGateTeamS -/
noncomputable def X23 : Cx C := { K := KK, tk := lk tks, con := lkC [(51, con51)], conw := lkC [] }
def F23 (n : Nat) : Cf := { N := n, keep := [0, 1, 4, 5, 10, 14, 26], live := lk [(0, [0, 1, 5])] }
def dec23 (rs : List (Bool × List (Lf C))) : Option (Bool) := match rs with
  | [(false, [.bool z0])] => some z0
  | _ => none
abbrev A23_0 : Type := List (C .e85) × List (C .e85) × Int
def s23_0 : A23_0 → St C := fun (x0_0, x0_1, x0_2) => { env := [(0, .one (.row .e85 x0_0)), (1, .one (.row .e85 x0_1)), (5, .one (.int .i64 x0_2))], objs := [], base := 0 }
noncomputable def r23_0 (n : Nat)  (rec0 : A23_0 → Option (Bool)) : A23_0 → Option (Bool) := fun (x0_0, x0_1, x0_2) =>
      cond (decide (x0_2 < (x0_0.length : Int)))
      (cond (decide (0 ≤ x0_2)) (Option.bind x0_0[x0_2.toNat]? fun x1 => cond (decide (0 ≤ x0_2)) (Option.bind x0_1[x0_2.toNat]? fun x2 => Option.bind (G51 x1 x2) fun r3 =>
      cond (!r3)
      (some (false))
      (rec0 (x0_0, x0_1, IntKind.i64.wrap (x0_2 + 1)))) none) none)
      (some (true))
noncomputable def LP23_0 (n : Nat)  (x : A23_0) : Option (Bool) := lpN (r23_0 n ) n x
noncomputable def MP23_0 (n : Nat)  (x : A23_0) : Option (Bool) := iter (fun rec S => run X23 (F23 n) (codeAt (bodyOf Go.Proofs.Try.f23) [1, 1, 0, 1, 0, 0]) 0 S (lopK rec (blkK 0 (seqK (run X23 (F23 n) (codeAt (bodyOf Go.Proofs.Try.f23) [1, 1, 1]) 0) (kTop X23 Go.Proofs.Try.f23 dec23))))) [0, 1, 5] n (s23_0 x)
theorem m23_0 (n : Nat)  (x : A23_0) : MP23_0 n  x = LP23_0 n  x := by
  refine iter_eq s23_0 (r23_0 n ) (fun rec0 x => ?_) n x
  obtain ⟨x0_0, x0_1, x0_2⟩ := x
  kernel_rfl
noncomputable def G23n (n : Nat) (a0 : List (C .e85)) (a1 : List (C .e85)) : Option (Bool) :=
      cond ((a0.length : Int) != (a1.length : Int))
      (some (false))
      (LP23_0 n  (a0, a1, 0))
theorem t23 (n : Nat) (a0 : List (C .e85)) (a1 : List (C .e85)) : runFn X23 (F23 n) Go.Proofs.Try.f23 [.one (.row .e85 a0), .one (.row .e85 a1)] dec23 = G23n n a0 a1 := by
  have h : runFn X23 (F23 n) Go.Proofs.Try.f23 [.one (.row .e85 a0), .one (.row .e85 a1)] dec23 =
      cond ((a0.length : Int) != (a1.length : Int))
      (some (false))
      (MP23_0 n  (a0, a1, 0)) := by kernel_rfl
  simp only [h, G23n, m23_0]
noncomputable def G23 (a0 : List (C .e85)) (a1 : List (C .e85)) : Option (Bool) := G23n fuel a0 a1
noncomputable def con23 : Con C := { R0 := Bool, ret := fun r => [(false, [.bool r])], g := fun vs => match vs with
  | [.one (.row .e85 y0), .one (.row .e85 y1)] => G23 y0 y1
  | _ => none }
theorem x23 : XOk Go.Proofs.Try.prog X23 := ⟨tks_ok, els_ok⟩
theorem q23 : Cons Go.Proofs.Try.prog X23 := ⟨lkR_ok (l := [(51, con51)]) ⟨c51, trivial⟩, lkW_ok (l := []) trivial⟩
theorem c23 : ConOk Go.Proofs.Try.prog KK 23 con23 := by
  refine con_dec x23 q23 (by kernel_rfl) (f := 23) (fn := Go.Proofs.Try.f23) (c := bodyOf Go.Proofs.Try.f23) (by kernel_rfl) (by kernel_rfl) (by kernel_rfl) (nameB (by kernel_rfl)) con23 dec23 (fun rs r0 h => ?_) (fun vs r0 h => ?_)
  · unfold dec23 at h
    split at h
    · cases h; rfl
    · cases h
  · simp only [con23] at h
    split at h
    · rename_i y0 y1
      exact ⟨Nat.le_of_ble_eq_true (by kernel_rfl), F23 fuel, (t23 fuel y0 y1).trans h⟩
    · cases h
/-! ### f9 loop.example/wharfdesk/laws.eqHallHouse -/
noncomputable def X9 : Cx C := { K := KK, tk := lk tks, con := lkC [(23, con23), (24, con24)], conw := lkC [] }
def F9 (n : Nat) : Cf := { N := n, keep := [0, 1, 2, 3, 4, 10, 16], live := lk [] }
def dec9 (rs : List (Bool × List (Lf C))) : Option (Bool) := match rs with
  | [(false, [.bool z0])] => some z0
  | _ => none
noncomputable def G9n (n : Nat) (a0 : VHallHouse) (a1 : VHallHouse) : Option (Bool) :=
      Option.bind (G23 a0.Teams a1.Teams) fun r1 =>
      cond (!r1)
      (some (false))
      (Option.bind (G24 a0.Grants a1.Grants) fun r2 =>
      cond (!r2)
      (some (false))
      (some (true)))
theorem t9 (n : Nat) (a0 : VHallHouse) (a1 : VHallHouse) : runFn X9 (F9 n) Go.Proofs.Try.f9 [.agg [.row .e85 a0.Teams, .row .e77 a0.Grants], .agg [.row .e85 a1.Teams, .row .e77 a1.Grants]] dec9 = G9n n a0 a1 := by
  kernel_rfl
noncomputable def G9 (a0 : VHallHouse) (a1 : VHallHouse) : Option (Bool) := G9n fuel a0 a1
noncomputable def con9 : Con C := { R0 := Bool, ret := fun r => [(false, [.bool r])], g := fun vs => match vs with
  | [.agg [.row .e85 y0_0, .row .e77 y0_1], .agg [.row .e85 y1_0, .row .e77 y1_1]] => G9 ⟨y0_0, y0_1⟩ ⟨y1_0, y1_1⟩
  | _ => none }
theorem x9 : XOk Go.Proofs.Try.prog X9 := ⟨tks_ok, els_ok⟩
theorem q9 : Cons Go.Proofs.Try.prog X9 := ⟨lkR_ok (l := [(23, con23), (24, con24)]) ⟨c23, c24, trivial⟩, lkW_ok (l := []) trivial⟩
theorem c9 : ConOk Go.Proofs.Try.prog KK 9 con9 := by
  refine con_dec x9 q9 (by kernel_rfl) (f := 9) (fn := Go.Proofs.Try.f9) (c := bodyOf Go.Proofs.Try.f9) (by kernel_rfl) (by kernel_rfl) (by kernel_rfl) (nameB (by kernel_rfl)) con9 dec9 (fun rs r0 h => ?_) (fun vs r0 h => ?_)
  · unfold dec9 at h
    split at h
    · cases h; rfl
    · cases h
  · simp only [con9] at h
    split at h
    · rename_i y0_0 y0_1 y1_0 y1_1
      exact ⟨Nat.le_of_ble_eq_true (by kernel_rfl), F9 fuel, (t9 fuel ⟨y0_0, y0_1⟩ ⟨y1_0, y1_1⟩).trans h⟩
    · cases h
/-! ### f53 loop.example/wharfdesk/laws.markText -/
noncomputable def X53 : Cx C := { K := KK, tk := lk tks, con := lkC [], conw := lkC [] }
def F53 (n : Nat) : Cf := { N := n, keep := [0, 2, 3, 5, 7], live := lk [(0, [0, 3])] }
def dec53 (rs : List (Bool × List (Lf C))) : Option (ByteArray) := match rs with
  | [(false, [.str z0])] => some z0
  | _ => none
abbrev A53_0 : Type := Int × ByteArray
def s53_0 : A53_0 → St C := fun (x0_0, x0_1) => { env := [(0, .one (.int .i64 x0_0)), (3, .one (.str x0_1))], objs := [], base := 0 }
noncomputable def r53_0 (n : Nat)  (rec0 : A53_0 → Option (ByteArray)) : A53_0 → Option (ByteArray) := fun (x0_0, x0_1) =>
      cond (decide (x0_0 > 0))
      (cond (decide (10 = 0)) none (cond (decide ((strOf KK .e5 (([IntKind.u8.wrap (IntKind.i64.wrap (48 + (x0_0.tmod 10)))] : List (C .e5)))).size + x0_1.size ≤ 9223372036854775807)) (cond (decide (10 = 0)) none (rec0 (IntKind.i64.wrap (x0_0.tdiv 10), (strOf KK .e5 (([IntKind.u8.wrap (IntKind.i64.wrap (48 + (x0_0.tmod 10)))] : List (C .e5)))) ++ x0_1))) none))
      (cond (decide ((⟨#[109]⟩ : ByteArray).size + x0_1.size ≤ 9223372036854775807)) (some ((⟨#[109]⟩ : ByteArray) ++ x0_1)) none)
noncomputable def LP53_0 (n : Nat)  (x : A53_0) : Option (ByteArray) := lpN (r53_0 n ) n x
noncomputable def MP53_0 (n : Nat)  (x : A53_0) : Option (ByteArray) := iter (fun rec S => run X53 (F53 n) (codeAt (bodyOf Go.Proofs.Try.f53) [1, 1, 1, 0, 0, 0]) 0 S (lopK rec (blkK 0 (seqK (run X53 (F53 n) (codeAt (bodyOf Go.Proofs.Try.f53) [1, 1, 1, 1]) 0) (kTop X53 Go.Proofs.Try.f53 dec53))))) [0, 3] n (s53_0 x)
theorem m53_0 (n : Nat)  (x : A53_0) : MP53_0 n  x = LP53_0 n  x := by
  refine iter_eq s53_0 (r53_0 n ) (fun rec0 x => ?_) n x
  obtain ⟨x0_0, x0_1⟩ := x
  kernel_rfl
noncomputable def G53n (n : Nat) (a0 : Int) : Option (ByteArray) :=
      cond (decide (a0 ≤ 0))
      (some ((⟨#[109, 48]⟩ : ByteArray)))
      (LP53_0 n  (a0, (⟨#[]⟩ : ByteArray)))
theorem t53 (n : Nat) (a0 : Int) : runFn X53 (F53 n) Go.Proofs.Try.f53 [.one (.int .i64 a0)] dec53 = G53n n a0 := by
  have h : runFn X53 (F53 n) Go.Proofs.Try.f53 [.one (.int .i64 a0)] dec53 =
      cond (decide (a0 ≤ 0))
      (some ((⟨#[109, 48]⟩ : ByteArray)))
      (MP53_0 n  (a0, (⟨#[]⟩ : ByteArray))) := by kernel_rfl
  simp only [h, G53n, m53_0]
noncomputable def G53 (a0 : Int) : Option (ByteArray) := G53n fuel a0
noncomputable def con53 : Con C := { R0 := ByteArray, ret := fun r => [(false, [.str r])], g := fun vs => match vs with
  | [.one (.int .i64 y0)] => G53 y0
  | _ => none }
theorem x53 : XOk Go.Proofs.Try.prog X53 := ⟨tks_ok, els_ok⟩
theorem q53 : Cons Go.Proofs.Try.prog X53 := ⟨lkR_ok (l := []) trivial, lkW_ok (l := []) trivial⟩
theorem c53 : ConOk Go.Proofs.Try.prog KK 53 con53 := by
  refine con_dec x53 q53 (by kernel_rfl) (f := 53) (fn := Go.Proofs.Try.f53) (c := bodyOf Go.Proofs.Try.f53) (by kernel_rfl) (by kernel_rfl) (by kernel_rfl) (nameB (by kernel_rfl)) con53 dec53 (fun rs r0 h => ?_) (fun vs r0 h => ?_)
  · unfold dec53 at h
    split at h
    · cases h; rfl
    · cases h
  · simp only [con53] at h
    split at h
    · rename_i y0
      exact ⟨Nat.le_of_ble_eq_true (by kernel_rfl), F53 fuel, (t53 fuel y0).trans h⟩
    · cases h
/-! ### f25 loop.example/wharfdesk/laws.markGateTeamS -/
noncomputable def X25 : Cx C := { K := KK, tk := lk tks, con := lkC [(53, con53)], conw := lkC [] }
def F25 (n : Nat) : Cf := { N := n, keep := [0, 1, 4, 5, 9, 90000, 90001], live := lk [(0, [0, 1, 5, 90000, 90001])] }
def dec25 (os : List (Lf C)) (rs : List (Bool × List (Lf C))) : Option (List (C .e85) × Int) := match os, rs with
  | [.row .e85 o0], [(false, [.int .i64 z0])] => some (o0, z0)
  | _, _ => none
abbrev A25_0 : Type := List (C .e85) × Int × Int
def s25_0 : A25_0 → St C := fun (x0_0, x0_1, x0_2) => { env := [(0, .one (.ref 100000 [])), (1, .one (.int .i64 x0_1)), (5, .one (.int .i64 x0_2)), (90000, .frame), (90001, .hdr 100000 0)], objs := [(100000, .row .e85 x0_0 false)], base := 0 }
noncomputable def r25_0 (n : Nat)  (rec0 : A25_0 → Option (List (C .e85) × Int)) : A25_0 → Option (List (C .e85) × Int) := fun (x0_0, x0_1, x0_2) =>
      cond (decide (x0_2 < (x0_0.length : Int)))
      (Option.bind (G53 x0_1) fun r1 =>
      cond (decide (0 ≤ x0_2)) (cond (decide (x0_2 < (x0_0.length : Int))) (Option.bind x0_0[x0_2.toNat]? fun x2 => Option.bind (G53 (IntKind.i64.wrap (x0_1 + 1))) fun r3 =>
      cond (decide (0 ≤ x0_2)) (cond (decide (x0_2 < ((x0_0.set x0_2.toNat (⟨r1, x2.Over⟩ : VGateTeam)).length : Int))) (Option.bind (x0_0.set x0_2.toNat (⟨r1, x2.Over⟩ : VGateTeam))[x0_2.toNat]? fun x4 => rec0 ((x0_0.set x0_2.toNat (⟨r1, x2.Over⟩ : VGateTeam)).set x0_2.toNat (⟨x4.Name, r3⟩ : VGateTeam), IntKind.i64.wrap ((IntKind.i64.wrap (x0_1 + 1)) + 1), IntKind.i64.wrap (x0_2 + 1))) none) none) none) none)
      (some (x0_0, x0_1))
noncomputable def LP25_0 (n : Nat)  (x : A25_0) : Option (List (C .e85) × Int) := lpN (r25_0 n ) n x
noncomputable def MP25_0 (kp : Nat → Prop) (kh : Nat → Option Obj) (hd : Nat → Value) (n : Nat)  (x : A25_0) : Option (List (C .e85) × Int) := iter (fun rec S => run (X25.gh kp kh hd) (F25 n) (codeAt (bodyOf Go.Proofs.Try.f25) [1, 0, 1, 0, 0]) 0 S (lopK rec (blkK 0 (seqK (run (X25.gh kp kh hd) (F25 n) (codeAt (bodyOf Go.Proofs.Try.f25) [1, 1]) 0) (kTopW (X25.gh kp kh hd) Go.Proofs.Try.f25 [true, false] dec25))))) [0, 1, 5, 90000, 90001] n (s25_0 x)
theorem m25_0 (kp : Nat → Prop) (kh : Nat → Option Obj) (hd : Nat → Value) (n : Nat)  (x : A25_0) : MP25_0 kp kh hd n  x = LP25_0 n  x := by
  refine iter_eq s25_0 (r25_0 n ) (fun rec0 x => ?_) n x
  obtain ⟨x0_0, x0_1, x0_2⟩ := x
  kernel_rfl
noncomputable def G25n (n : Nat) (a0 : List (C .e85)) (a1 : Int) : Option (List (C .e85) × Int) :=
      LP25_0 n  (a0, a1, 0)
theorem t25 (kp : Nat → Prop) (kh : Nat → Option Obj) (hd : Nat → Value) (n : Nat) (a0 : List (C .e85)) (a1 : Int) : runFnW (X25.gh kp kh hd) (F25 n) Go.Proofs.Try.f25 [(false, [.row .e85 a0]), (false, [.int .i64 a1])] dec25 = G25n n a0 a1 := by
  have h : runFnW (X25.gh kp kh hd) (F25 n) Go.Proofs.Try.f25 [(false, [.row .e85 a0]), (false, [.int .i64 a1])] dec25 =
      MP25_0 kp kh hd n  (a0, a1, 0) := by kernel_rfl
  simp only [h, G25n, m25_0]
noncomputable def G25 (a0 : List (C .e85)) (a1 : Int) : Option (List (C .e85) × Int) := G25n fuel a0 a1
noncomputable def con25 : ConW C := { R0 := List (C .e85) × Int, out := fun r => [.row .e85 r.1], ret := fun r => [(false, [.int .i64 r.2])], g := fun rs => match rs with
  | [(false, [.row .e85 y0]), (false, [.int .i64 y1])] => G25 y0 y1
  | _ => none }
theorem x25 : XOk Go.Proofs.Try.prog X25 := ⟨tks_ok, els_ok⟩
theorem q25 : Cons Go.Proofs.Try.prog X25 := ⟨lkR_ok (l := [(53, con53)]) ⟨c53, trivial⟩, lkW_ok (l := []) trivial⟩
theorem c25 : ConWOk Go.Proofs.Try.prog KK 25 con25 := by
  refine conw_of x25 q25 (by kernel_rfl) (f := 25) (fn := Go.Proofs.Try.f25) (c := bodyOf Go.Proofs.Try.f25) (by kernel_rfl) (by kernel_rfl) (by kernel_rfl) (nameB (by kernel_rfl)) con25 dec25 (fun os rs r0 h => ?_) (fun rs r0 h => ?_)
  · unfold dec25 at h
    split at h
    · cases h; exact ⟨rfl, rfl⟩
    · cases h
  · simp only [con25] at h
    split at h
    · rename_i y0 y1
      exact ⟨Nat.le_of_ble_eq_true (by kernel_rfl), F25 fuel, fun kp kh hd => (t25 kp kh hd fuel y0 y1).trans h⟩
    · cases h
/-! ### f54 loop.example/wharfdesk/laws.markIntS -/
noncomputable def X54 : Cx C := { K := KK, tk := lk tks, con := lkC [], conw := lkC [] }
def F54 (n : Nat) : Cf := { N := n, keep := [0, 1, 4, 5, 9, 90000, 90001], live := lk [(0, [0, 1, 5, 90000, 90001])] }
def dec54 (os : List (Lf C)) (rs : List (Bool × List (Lf C))) : Option (List (C .e3) × Int) := match os, rs with
  | [.row .e3 o0], [(false, [.int .i64 z0])] => some (o0, z0)
  | _, _ => none
abbrev A54_0 : Type := List (C .e3) × Int × Int
def s54_0 : A54_0 → St C := fun (x0_0, x0_1, x0_2) => { env := [(0, .one (.ref 100000 [])), (1, .one (.int .i64 x0_1)), (5, .one (.int .i64 x0_2)), (90000, .frame), (90001, .hdr 100000 0)], objs := [(100000, .row .e3 x0_0 false)], base := 0 }
noncomputable def r54_0 (n : Nat)  (rec0 : A54_0 → Option (List (C .e3) × Int)) : A54_0 → Option (List (C .e3) × Int) := fun (x0_0, x0_1, x0_2) =>
      cond (decide (x0_2 < (x0_0.length : Int)))
      (cond (decide (0 ≤ x0_2)) (cond (decide (x0_2 < (x0_0.length : Int))) (Option.bind x0_0[x0_2.toNat]? fun x1 => rec0 (x0_0.set x0_2.toNat x0_1, IntKind.i64.wrap (x0_1 + 1), IntKind.i64.wrap (x0_2 + 1))) none) none)
      (some (x0_0, x0_1))
noncomputable def LP54_0 (n : Nat)  (x : A54_0) : Option (List (C .e3) × Int) := lpN (r54_0 n ) n x
noncomputable def MP54_0 (kp : Nat → Prop) (kh : Nat → Option Obj) (hd : Nat → Value) (n : Nat)  (x : A54_0) : Option (List (C .e3) × Int) := iter (fun rec S => run (X54.gh kp kh hd) (F54 n) (codeAt (bodyOf Go.Proofs.Try.f54) [1, 0, 1, 0, 0]) 0 S (lopK rec (blkK 0 (seqK (run (X54.gh kp kh hd) (F54 n) (codeAt (bodyOf Go.Proofs.Try.f54) [1, 1]) 0) (kTopW (X54.gh kp kh hd) Go.Proofs.Try.f54 [true, false] dec54))))) [0, 1, 5, 90000, 90001] n (s54_0 x)
theorem m54_0 (kp : Nat → Prop) (kh : Nat → Option Obj) (hd : Nat → Value) (n : Nat)  (x : A54_0) : MP54_0 kp kh hd n  x = LP54_0 n  x := by
  refine iter_eq s54_0 (r54_0 n ) (fun rec0 x => ?_) n x
  obtain ⟨x0_0, x0_1, x0_2⟩ := x
  kernel_rfl
noncomputable def G54n (n : Nat) (a0 : List (C .e3)) (a1 : Int) : Option (List (C .e3) × Int) :=
      LP54_0 n  (a0, a1, 0)
theorem t54 (kp : Nat → Prop) (kh : Nat → Option Obj) (hd : Nat → Value) (n : Nat) (a0 : List (C .e3)) (a1 : Int) : runFnW (X54.gh kp kh hd) (F54 n) Go.Proofs.Try.f54 [(false, [.row .e3 a0]), (false, [.int .i64 a1])] dec54 = G54n n a0 a1 := by
  have h : runFnW (X54.gh kp kh hd) (F54 n) Go.Proofs.Try.f54 [(false, [.row .e3 a0]), (false, [.int .i64 a1])] dec54 =
      MP54_0 kp kh hd n  (a0, a1, 0) := by kernel_rfl
  simp only [h, G54n, m54_0]
noncomputable def G54 (a0 : List (C .e3)) (a1 : Int) : Option (List (C .e3) × Int) := G54n fuel a0 a1
noncomputable def con54 : ConW C := { R0 := List (C .e3) × Int, out := fun r => [.row .e3 r.1], ret := fun r => [(false, [.int .i64 r.2])], g := fun rs => match rs with
  | [(false, [.row .e3 y0]), (false, [.int .i64 y1])] => G54 y0 y1
  | _ => none }
theorem x54 : XOk Go.Proofs.Try.prog X54 := ⟨tks_ok, els_ok⟩
theorem q54 : Cons Go.Proofs.Try.prog X54 := ⟨lkR_ok (l := []) trivial, lkW_ok (l := []) trivial⟩
theorem c54 : ConWOk Go.Proofs.Try.prog KK 54 con54 := by
  refine conw_of x54 q54 (by kernel_rfl) (f := 54) (fn := Go.Proofs.Try.f54) (c := bodyOf Go.Proofs.Try.f54) (by kernel_rfl) (by kernel_rfl) (by kernel_rfl) (nameB (by kernel_rfl)) con54 dec54 (fun os rs r0 h => ?_) (fun rs r0 h => ?_)
  · unfold dec54 at h
    split at h
    · cases h; exact ⟨rfl, rfl⟩
    · cases h
  · simp only [con54] at h
    split at h
    · rename_i y0 y1
      exact ⟨Nat.le_of_ble_eq_true (by kernel_rfl), F54 fuel, fun kp kh hd => (t54 kp kh hd fuel y0 y1).trans h⟩
    · cases h
/-! ### f26 loop.example/wharfdesk/laws.markGateGrantS -/
noncomputable def X26 : Cx C := { K := KK, tk := lk tks, con := lkC [(53, con53)], conw := lkC [(54, con54)] }
def F26 (n : Nat) : Cf := { N := n, keep := [0, 1, 4, 5, 9, 90000, 90001], live := lk [(0, [0, 1, 5, 90000, 90001])] }
def dec26 (os : List (Lf C)) (rs : List (Bool × List (Lf C))) : Option (List (C .e77) × Int) := match os, rs with
  | [.row .e77 o0], [(false, [.int .i64 z0])] => some (o0, z0)
  | _, _ => none
abbrev A26_0 : Type := List (C .e77) × Int × Int
def s26_0 : A26_0 → St C := fun (x0_0, x0_1, x0_2) => { env := [(0, .one (.ref 100000 [])), (1, .one (.int .i64 x0_1)), (5, .one (.int .i64 x0_2)), (90000, .frame), (90001, .hdr 100000 0)], objs := [(100000, .row .e77 x0_0 false)], base := 0 }
noncomputable def r26_0 (n : Nat)  (rec0 : A26_0 → Option (List (C .e77) × Int)) : A26_0 → Option (List (C .e77) × Int) := fun (x0_0, x0_1, x0_2) =>
      cond (decide (x0_2 < (x0_0.length : Int)))
      (cond (decide (0 ≤ x0_2)) (cond (decide (x0_2 < (x0_0.length : Int))) (Option.bind x0_0[x0_2.toNat]? fun x1 => Option.bind (G53 (IntKind.i64.wrap (x0_1 + 1))) fun r2 =>
      cond (decide (0 ≤ x0_2)) (cond (decide (x0_2 < ((x0_0.set x0_2.toNat (⟨x0_1, x1.To, x1.By, x1.Rule_Verbs, x1.Rule_Kind, x1.Rule_Team, x1.Rule_Prefix⟩ : VGateGrant)).length : Int))) (Option.bind (x0_0.set x0_2.toNat (⟨x0_1, x1.To, x1.By, x1.Rule_Verbs, x1.Rule_Kind, x1.Rule_Team, x1.Rule_Prefix⟩ : VGateGrant))[x0_2.toNat]? fun x3 => Option.bind (G53 (IntKind.i64.wrap ((IntKind.i64.wrap (x0_1 + 1)) + 1))) fun r4 =>
      cond (decide (0 ≤ x0_2)) (cond (decide (x0_2 < (((x0_0.set x0_2.toNat (⟨x0_1, x1.To, x1.By, x1.Rule_Verbs, x1.Rule_Kind, x1.Rule_Team, x1.Rule_Prefix⟩ : VGateGrant)).set x0_2.toNat (⟨x3.Number, r2, x3.By, x3.Rule_Verbs, x3.Rule_Kind, x3.Rule_Team, x3.Rule_Prefix⟩ : VGateGrant)).length : Int))) (Option.bind ((x0_0.set x0_2.toNat (⟨x0_1, x1.To, x1.By, x1.Rule_Verbs, x1.Rule_Kind, x1.Rule_Team, x1.Rule_Prefix⟩ : VGateGrant)).set x0_2.toNat (⟨x3.Number, r2, x3.By, x3.Rule_Verbs, x3.Rule_Kind, x3.Rule_Team, x3.Rule_Prefix⟩ : VGateGrant))[x0_2.toNat]? fun x5 => cond (decide (0 ≤ x0_2)) (cond (decide (x0_2 < ((((x0_0.set x0_2.toNat (⟨x0_1, x1.To, x1.By, x1.Rule_Verbs, x1.Rule_Kind, x1.Rule_Team, x1.Rule_Prefix⟩ : VGateGrant)).set x0_2.toNat (⟨x3.Number, r2, x3.By, x3.Rule_Verbs, x3.Rule_Kind, x3.Rule_Team, x3.Rule_Prefix⟩ : VGateGrant)).set x0_2.toNat (⟨x5.Number, x5.To, r4, x5.Rule_Verbs, x5.Rule_Kind, x5.Rule_Team, x5.Rule_Prefix⟩ : VGateGrant)).length : Int))) (Option.bind (((x0_0.set x0_2.toNat (⟨x0_1, x1.To, x1.By, x1.Rule_Verbs, x1.Rule_Kind, x1.Rule_Team, x1.Rule_Prefix⟩ : VGateGrant)).set x0_2.toNat (⟨x3.Number, r2, x3.By, x3.Rule_Verbs, x3.Rule_Kind, x3.Rule_Team, x3.Rule_Prefix⟩ : VGateGrant)).set x0_2.toNat (⟨x5.Number, x5.To, r4, x5.Rule_Verbs, x5.Rule_Kind, x5.Rule_Team, x5.Rule_Prefix⟩ : VGateGrant))[x0_2.toNat]? fun x6 => Option.bind (((x0_0.set x0_2.toNat (⟨x0_1, x1.To, x1.By, x1.Rule_Verbs, x1.Rule_Kind, x1.Rule_Team, x1.Rule_Prefix⟩ : VGateGrant)).set x0_2.toNat (⟨x3.Number, r2, x3.By, x3.Rule_Verbs, x3.Rule_Kind, x3.Rule_Team, x3.Rule_Prefix⟩ : VGateGrant)).set x0_2.toNat (⟨x5.Number, x5.To, r4, x5.Rule_Verbs, x5.Rule_Kind, x5.Rule_Team, x5.Rule_Prefix⟩ : VGateGrant))[x0_2.toNat]? fun x7 => Option.bind (G54 x7.Rule_Verbs (IntKind.i64.wrap ((IntKind.i64.wrap ((IntKind.i64.wrap (x0_1 + 1)) + 1)) + 1))) fun r8 =>
      Option.bind (((x0_0.set x0_2.toNat (⟨x0_1, x1.To, x1.By, x1.Rule_Verbs, x1.Rule_Kind, x1.Rule_Team, x1.Rule_Prefix⟩ : VGateGrant)).set x0_2.toNat (⟨x3.Number, r2, x3.By, x3.Rule_Verbs, x3.Rule_Kind, x3.Rule_Team, x3.Rule_Prefix⟩ : VGateGrant)).set x0_2.toNat (⟨x5.Number, x5.To, r4, x5.Rule_Verbs, x5.Rule_Kind, x5.Rule_Team, x5.Rule_Prefix⟩ : VGateGrant))[x0_2.toNat]? fun x9 => Option.bind (G53 r8.2) fun r10 =>
      cond (decide (0 ≤ x0_2)) (cond (decide (x0_2 < (((((x0_0.set x0_2.toNat (⟨x0_1, x1.To, x1.By, x1.Rule_Verbs, x1.Rule_Kind, x1.Rule_Team, x1.Rule_Prefix⟩ : VGateGrant)).set x0_2.toNat (⟨x3.Number, r2, x3.By, x3.Rule_Verbs, x3.Rule_Kind, x3.Rule_Team, x3.Rule_Prefix⟩ : VGateGrant)).set x0_2.toNat (⟨x5.Number, x5.To, r4, x5.Rule_Verbs, x5.Rule_Kind, x5.Rule_Team, x5.Rule_Prefix⟩ : VGateGrant)).set x0_2.toNat (⟨x9.Number, x9.To, x9.By, r8.1, x9.Rule_Kind, x9.Rule_Team, x9.Rule_Prefix⟩ : VGateGrant)).length : Int))) (Option.bind ((((x0_0.set x0_2.toNat (⟨x0_1, x1.To, x1.By, x1.Rule_Verbs, x1.Rule_Kind, x1.Rule_Team, x1.Rule_Prefix⟩ : VGateGrant)).set x0_2.toNat (⟨x3.Number, r2, x3.By, x3.Rule_Verbs, x3.Rule_Kind, x3.Rule_Team, x3.Rule_Prefix⟩ : VGateGrant)).set x0_2.toNat (⟨x5.Number, x5.To, r4, x5.Rule_Verbs, x5.Rule_Kind, x5.Rule_Team, x5.Rule_Prefix⟩ : VGateGrant)).set x0_2.toNat (⟨x9.Number, x9.To, x9.By, r8.1, x9.Rule_Kind, x9.Rule_Team, x9.Rule_Prefix⟩ : VGateGrant))[x0_2.toNat]? fun x11 => Option.bind (G53 (IntKind.i64.wrap (r8.2 + 1))) fun r12 =>
      cond (decide (0 ≤ x0_2)) (cond (decide (x0_2 < ((((((x0_0.set x0_2.toNat (⟨x0_1, x1.To, x1.By, x1.Rule_Verbs, x1.Rule_Kind, x1.Rule_Team, x1.Rule_Prefix⟩ : VGateGrant)).set x0_2.toNat (⟨x3.Number, r2, x3.By, x3.Rule_Verbs, x3.Rule_Kind, x3.Rule_Team, x3.Rule_Prefix⟩ : VGateGrant)).set x0_2.toNat (⟨x5.Number, x5.To, r4, x5.Rule_Verbs, x5.Rule_Kind, x5.Rule_Team, x5.Rule_Prefix⟩ : VGateGrant)).set x0_2.toNat (⟨x9.Number, x9.To, x9.By, r8.1, x9.Rule_Kind, x9.Rule_Team, x9.Rule_Prefix⟩ : VGateGrant)).set x0_2.toNat (⟨x11.Number, x11.To, x11.By, x11.Rule_Verbs, r10, x11.Rule_Team, x11.Rule_Prefix⟩ : VGateGrant)).length : Int))) (Option.bind (((((x0_0.set x0_2.toNat (⟨x0_1, x1.To, x1.By, x1.Rule_Verbs, x1.Rule_Kind, x1.Rule_Team, x1.Rule_Prefix⟩ : VGateGrant)).set x0_2.toNat (⟨x3.Number, r2, x3.By, x3.Rule_Verbs, x3.Rule_Kind, x3.Rule_Team, x3.Rule_Prefix⟩ : VGateGrant)).set x0_2.toNat (⟨x5.Number, x5.To, r4, x5.Rule_Verbs, x5.Rule_Kind, x5.Rule_Team, x5.Rule_Prefix⟩ : VGateGrant)).set x0_2.toNat (⟨x9.Number, x9.To, x9.By, r8.1, x9.Rule_Kind, x9.Rule_Team, x9.Rule_Prefix⟩ : VGateGrant)).set x0_2.toNat (⟨x11.Number, x11.To, x11.By, x11.Rule_Verbs, r10, x11.Rule_Team, x11.Rule_Prefix⟩ : VGateGrant))[x0_2.toNat]? fun x13 => Option.bind (G53 (IntKind.i64.wrap ((IntKind.i64.wrap (r8.2 + 1)) + 1))) fun r14 =>
      cond (decide (0 ≤ x0_2)) (cond (decide (x0_2 < (((((((x0_0.set x0_2.toNat (⟨x0_1, x1.To, x1.By, x1.Rule_Verbs, x1.Rule_Kind, x1.Rule_Team, x1.Rule_Prefix⟩ : VGateGrant)).set x0_2.toNat (⟨x3.Number, r2, x3.By, x3.Rule_Verbs, x3.Rule_Kind, x3.Rule_Team, x3.Rule_Prefix⟩ : VGateGrant)).set x0_2.toNat (⟨x5.Number, x5.To, r4, x5.Rule_Verbs, x5.Rule_Kind, x5.Rule_Team, x5.Rule_Prefix⟩ : VGateGrant)).set x0_2.toNat (⟨x9.Number, x9.To, x9.By, r8.1, x9.Rule_Kind, x9.Rule_Team, x9.Rule_Prefix⟩ : VGateGrant)).set x0_2.toNat (⟨x11.Number, x11.To, x11.By, x11.Rule_Verbs, r10, x11.Rule_Team, x11.Rule_Prefix⟩ : VGateGrant)).set x0_2.toNat (⟨x13.Number, x13.To, x13.By, x13.Rule_Verbs, x13.Rule_Kind, r12, x13.Rule_Prefix⟩ : VGateGrant)).length : Int))) (Option.bind ((((((x0_0.set x0_2.toNat (⟨x0_1, x1.To, x1.By, x1.Rule_Verbs, x1.Rule_Kind, x1.Rule_Team, x1.Rule_Prefix⟩ : VGateGrant)).set x0_2.toNat (⟨x3.Number, r2, x3.By, x3.Rule_Verbs, x3.Rule_Kind, x3.Rule_Team, x3.Rule_Prefix⟩ : VGateGrant)).set x0_2.toNat (⟨x5.Number, x5.To, r4, x5.Rule_Verbs, x5.Rule_Kind, x5.Rule_Team, x5.Rule_Prefix⟩ : VGateGrant)).set x0_2.toNat (⟨x9.Number, x9.To, x9.By, r8.1, x9.Rule_Kind, x9.Rule_Team, x9.Rule_Prefix⟩ : VGateGrant)).set x0_2.toNat (⟨x11.Number, x11.To, x11.By, x11.Rule_Verbs, r10, x11.Rule_Team, x11.Rule_Prefix⟩ : VGateGrant)).set x0_2.toNat (⟨x13.Number, x13.To, x13.By, x13.Rule_Verbs, x13.Rule_Kind, r12, x13.Rule_Prefix⟩ : VGateGrant))[x0_2.toNat]? fun x15 => rec0 (((((((x0_0.set x0_2.toNat (⟨x0_1, x1.To, x1.By, x1.Rule_Verbs, x1.Rule_Kind, x1.Rule_Team, x1.Rule_Prefix⟩ : VGateGrant)).set x0_2.toNat (⟨x3.Number, r2, x3.By, x3.Rule_Verbs, x3.Rule_Kind, x3.Rule_Team, x3.Rule_Prefix⟩ : VGateGrant)).set x0_2.toNat (⟨x5.Number, x5.To, r4, x5.Rule_Verbs, x5.Rule_Kind, x5.Rule_Team, x5.Rule_Prefix⟩ : VGateGrant)).set x0_2.toNat (⟨x9.Number, x9.To, x9.By, r8.1, x9.Rule_Kind, x9.Rule_Team, x9.Rule_Prefix⟩ : VGateGrant)).set x0_2.toNat (⟨x11.Number, x11.To, x11.By, x11.Rule_Verbs, r10, x11.Rule_Team, x11.Rule_Prefix⟩ : VGateGrant)).set x0_2.toNat (⟨x13.Number, x13.To, x13.By, x13.Rule_Verbs, x13.Rule_Kind, r12, x13.Rule_Prefix⟩ : VGateGrant)).set x0_2.toNat (⟨x15.Number, x15.To, x15.By, x15.Rule_Verbs, x15.Rule_Kind, x15.Rule_Team, r14⟩ : VGateGrant), IntKind.i64.wrap ((IntKind.i64.wrap ((IntKind.i64.wrap (r8.2 + 1)) + 1)) + 1), IntKind.i64.wrap (x0_2 + 1))) none) none) none) none) none) none) none) none) none) none) none) none) none) none)
      (some (x0_0, x0_1))
noncomputable def LP26_0 (n : Nat)  (x : A26_0) : Option (List (C .e77) × Int) := lpN (r26_0 n ) n x
noncomputable def MP26_0 (kp : Nat → Prop) (kh : Nat → Option Obj) (hd : Nat → Value) (n : Nat)  (x : A26_0) : Option (List (C .e77) × Int) := iter (fun rec S => run (X26.gh kp kh hd) (F26 n) (codeAt (bodyOf Go.Proofs.Try.f26) [1, 0, 1, 0, 0]) 0 S (lopK rec (blkK 0 (seqK (run (X26.gh kp kh hd) (F26 n) (codeAt (bodyOf Go.Proofs.Try.f26) [1, 1]) 0) (kTopW (X26.gh kp kh hd) Go.Proofs.Try.f26 [true, false] dec26))))) [0, 1, 5, 90000, 90001] n (s26_0 x)
theorem m26_0 (kp : Nat → Prop) (kh : Nat → Option Obj) (hd : Nat → Value) (n : Nat)  (x : A26_0) : MP26_0 kp kh hd n  x = LP26_0 n  x := by
  refine iter_eq s26_0 (r26_0 n ) (fun rec0 x => ?_) n x
  obtain ⟨x0_0, x0_1, x0_2⟩ := x
  kernel_rfl
noncomputable def G26n (n : Nat) (a0 : List (C .e77)) (a1 : Int) : Option (List (C .e77) × Int) :=
      LP26_0 n  (a0, a1, 0)
theorem t26 (kp : Nat → Prop) (kh : Nat → Option Obj) (hd : Nat → Value) (n : Nat) (a0 : List (C .e77)) (a1 : Int) : runFnW (X26.gh kp kh hd) (F26 n) Go.Proofs.Try.f26 [(false, [.row .e77 a0]), (false, [.int .i64 a1])] dec26 = G26n n a0 a1 := by
  have h : runFnW (X26.gh kp kh hd) (F26 n) Go.Proofs.Try.f26 [(false, [.row .e77 a0]), (false, [.int .i64 a1])] dec26 =
      MP26_0 kp kh hd n  (a0, a1, 0) := by kernel_rfl
  simp only [h, G26n, m26_0]
noncomputable def G26 (a0 : List (C .e77)) (a1 : Int) : Option (List (C .e77) × Int) := G26n fuel a0 a1
noncomputable def con26 : ConW C := { R0 := List (C .e77) × Int, out := fun r => [.row .e77 r.1], ret := fun r => [(false, [.int .i64 r.2])], g := fun rs => match rs with
  | [(false, [.row .e77 y0]), (false, [.int .i64 y1])] => G26 y0 y1
  | _ => none }
theorem x26 : XOk Go.Proofs.Try.prog X26 := ⟨tks_ok, els_ok⟩
theorem q26 : Cons Go.Proofs.Try.prog X26 := ⟨lkR_ok (l := [(53, con53)]) ⟨c53, trivial⟩, lkW_ok (l := [(54, con54)]) ⟨c54, trivial⟩⟩
theorem c26 : ConWOk Go.Proofs.Try.prog KK 26 con26 := by
  refine conw_of x26 q26 (by kernel_rfl) (f := 26) (fn := Go.Proofs.Try.f26) (c := bodyOf Go.Proofs.Try.f26) (by kernel_rfl) (by kernel_rfl) (by kernel_rfl) (nameB (by kernel_rfl)) con26 dec26 (fun os rs r0 h => ?_) (fun rs r0 h => ?_)
  · unfold dec26 at h
    split at h
    · cases h; exact ⟨rfl, rfl⟩
    · cases h
  · simp only [con26] at h
    split at h
    · rename_i y0 y1
      exact ⟨Nat.le_of_ble_eq_true (by kernel_rfl), F26 fuel, fun kp kh hd => (t26 kp kh hd fuel y0 y1).trans h⟩
    · cases h
/-! ### f10 loop.example/wharfdesk/laws.markHallHouse -/
noncomputable def X10 : Cx C := { K := KK, tk := lk tks, con := lkC [], conw := lkC [(25, con25), (26, con26)] }
def F10 (n : Nat) : Cf := { N := n, keep := [0, 1, 2, 4, 90000, 90001, 90002], live := lk [] }
def dec10 (os : List (Lf C)) (rs : List (Bool × List (Lf C))) : Option (List (C .e85) × List (C .e77) × Int) := match os, rs with
  | [.row .e85 o0, .row .e77 o1], [(false, [.int .i64 z0])] => some (o0, o1, z0)
  | _, _ => none
noncomputable def G10n (n : Nat) (a0 : VHallHouse) (a1 : Int) : Option (List (C .e85) × List (C .e77) × Int) :=
      Option.bind (G25 a0.Teams a1) fun r1 =>
      Option.bind (G26 a0.Grants r1.2) fun r2 =>
      some (r1.1, r2.1, r2.2)
theorem t10 (kp : Nat → Prop) (kh : Nat → Option Obj) (hd : Nat → Value) (n : Nat) (a0 : VHallHouse) (a1 : Int) : runFnW (X10.gh kp kh hd) (F10 n) Go.Proofs.Try.f10 [(true, [.row .e85 a0.Teams, .row .e77 a0.Grants]), (false, [.int .i64 a1])] dec10 = G10n n a0 a1 := by
  kernel_rfl
noncomputable def G10 (a0 : VHallHouse) (a1 : Int) : Option (List (C .e85) × List (C .e77) × Int) := G10n fuel a0 a1
noncomputable def con10 : ConW C := { R0 := List (C .e85) × List (C .e77) × Int, out := fun r => [.row .e85 r.1, .row .e77 r.2.1], ret := fun r => [(false, [.int .i64 r.2.2])], g := fun rs => match rs with
  | [(true, [.row .e85 y0_0, .row .e77 y0_1]), (false, [.int .i64 y1])] => G10 ⟨y0_0, y0_1⟩ y1
  | _ => none }
theorem x10 : XOk Go.Proofs.Try.prog X10 := ⟨tks_ok, els_ok⟩
theorem q10 : Cons Go.Proofs.Try.prog X10 := ⟨lkR_ok (l := []) trivial, lkW_ok (l := [(25, con25), (26, con26)]) ⟨c25, c26, trivial⟩⟩
theorem c10 : ConWOk Go.Proofs.Try.prog KK 10 con10 := by
  refine conw_of x10 q10 (by kernel_rfl) (f := 10) (fn := Go.Proofs.Try.f10) (c := bodyOf Go.Proofs.Try.f10) (by kernel_rfl) (by kernel_rfl) (by kernel_rfl) (nameB (by kernel_rfl)) con10 dec10 (fun os rs r0 h => ?_) (fun rs r0 h => ?_)
  · unfold dec10 at h
    split at h
    · cases h; exact ⟨rfl, rfl⟩
    · cases h
  · simp only [con10] at h
    split at h
    · rename_i y0_0 y0_1 y1
      exact ⟨Nat.le_of_ble_eq_true (by kernel_rfl), F10 fuel, fun kp kh hd => (t10 kp kh hd fuel ⟨y0_0, y0_1⟩ y1).trans h⟩
    · cases h
/-! ### f84 loop.example/wharfdesk/laws.markStringS -/
noncomputable def X84 : Cx C := { K := KK, tk := lk tks, con := lkC [(53, con53)], conw := lkC [] }
def F84 (n : Nat) : Cf := { N := n, keep := [0, 1, 4, 5, 9, 90000, 90001], live := lk [(0, [0, 1, 5, 90000, 90001])] }
def dec84 (os : List (Lf C)) (rs : List (Bool × List (Lf C))) : Option (List (C .e9) × Int) := match os, rs with
  | [.row .e9 o0], [(false, [.int .i64 z0])] => some (o0, z0)
  | _, _ => none
abbrev A84_0 : Type := List (C .e9) × Int × Int
def s84_0 : A84_0 → St C := fun (x0_0, x0_1, x0_2) => { env := [(0, .one (.ref 100000 [])), (1, .one (.int .i64 x0_1)), (5, .one (.int .i64 x0_2)), (90000, .frame), (90001, .hdr 100000 0)], objs := [(100000, .row .e9 x0_0 false)], base := 0 }
noncomputable def r84_0 (n : Nat)  (rec0 : A84_0 → Option (List (C .e9) × Int)) : A84_0 → Option (List (C .e9) × Int) := fun (x0_0, x0_1, x0_2) =>
      cond (decide (x0_2 < (x0_0.length : Int)))
      (Option.bind (G53 x0_1) fun r1 =>
      cond (decide (0 ≤ x0_2)) (cond (decide (x0_2 < (x0_0.length : Int))) (Option.bind x0_0[x0_2.toNat]? fun x2 => rec0 (x0_0.set x0_2.toNat r1, IntKind.i64.wrap (x0_1 + 1), IntKind.i64.wrap (x0_2 + 1))) none) none)
      (some (x0_0, x0_1))
noncomputable def LP84_0 (n : Nat)  (x : A84_0) : Option (List (C .e9) × Int) := lpN (r84_0 n ) n x
noncomputable def MP84_0 (kp : Nat → Prop) (kh : Nat → Option Obj) (hd : Nat → Value) (n : Nat)  (x : A84_0) : Option (List (C .e9) × Int) := iter (fun rec S => run (X84.gh kp kh hd) (F84 n) (codeAt (bodyOf Go.Proofs.Try.f84) [1, 0, 1, 0, 0]) 0 S (lopK rec (blkK 0 (seqK (run (X84.gh kp kh hd) (F84 n) (codeAt (bodyOf Go.Proofs.Try.f84) [1, 1]) 0) (kTopW (X84.gh kp kh hd) Go.Proofs.Try.f84 [true, false] dec84))))) [0, 1, 5, 90000, 90001] n (s84_0 x)
theorem m84_0 (kp : Nat → Prop) (kh : Nat → Option Obj) (hd : Nat → Value) (n : Nat)  (x : A84_0) : MP84_0 kp kh hd n  x = LP84_0 n  x := by
  refine iter_eq s84_0 (r84_0 n ) (fun rec0 x => ?_) n x
  obtain ⟨x0_0, x0_1, x0_2⟩ := x
  kernel_rfl
noncomputable def G84n (n : Nat) (a0 : List (C .e9)) (a1 : Int) : Option (List (C .e9) × Int) :=
      LP84_0 n  (a0, a1, 0)
theorem t84 (kp : Nat → Prop) (kh : Nat → Option Obj) (hd : Nat → Value) (n : Nat) (a0 : List (C .e9)) (a1 : Int) : runFnW (X84.gh kp kh hd) (F84 n) Go.Proofs.Try.f84 [(false, [.row .e9 a0]), (false, [.int .i64 a1])] dec84 = G84n n a0 a1 := by
  have h : runFnW (X84.gh kp kh hd) (F84 n) Go.Proofs.Try.f84 [(false, [.row .e9 a0]), (false, [.int .i64 a1])] dec84 =
      MP84_0 kp kh hd n  (a0, a1, 0) := by kernel_rfl
  simp only [h, G84n, m84_0]
noncomputable def G84 (a0 : List (C .e9)) (a1 : Int) : Option (List (C .e9) × Int) := G84n fuel a0 a1
noncomputable def con84 : ConW C := { R0 := List (C .e9) × Int, out := fun r => [.row .e9 r.1], ret := fun r => [(false, [.int .i64 r.2])], g := fun rs => match rs with
  | [(false, [.row .e9 y0]), (false, [.int .i64 y1])] => G84 y0 y1
  | _ => none }
theorem x84 : XOk Go.Proofs.Try.prog X84 := ⟨tks_ok, els_ok⟩
theorem q84 : Cons Go.Proofs.Try.prog X84 := ⟨lkR_ok (l := [(53, con53)]) ⟨c53, trivial⟩, lkW_ok (l := []) trivial⟩
theorem c84 : ConWOk Go.Proofs.Try.prog KK 84 con84 := by
  refine conw_of x84 q84 (by kernel_rfl) (f := 84) (fn := Go.Proofs.Try.f84) (c := bodyOf Go.Proofs.Try.f84) (by kernel_rfl) (by kernel_rfl) (by kernel_rfl) (nameB (by kernel_rfl)) con84 dec84 (fun os rs r0 h => ?_) (fun rs r0 h => ?_)
  · unfold dec84 at h
    split at h
    · cases h; exact ⟨rfl, rfl⟩
    · cases h
  · simp only [con84] at h
    split at h
    · rename_i y0 y1
      exact ⟨Nat.le_of_ble_eq_true (by kernel_rfl), F84 fuel, fun kp kh hd => (t84 kp kh hd fuel y0 y1).trans h⟩
    · cases h
/-! ### f55 loop.example/wharfdesk/laws.markGateObjectS -/
noncomputable def X55 : Cx C := { K := KK, tk := lk tks, con := lkC [(53, con53)], conw := lkC [(84, con84)] }
def F55 (n : Nat) : Cf := { N := n, keep := [0, 1, 4, 5, 9, 90000, 90001], live := lk [(0, [0, 1, 5, 90000, 90001])] }
def dec55 (os : List (Lf C)) (rs : List (Bool × List (Lf C))) : Option (List (C .e82) × Int) := match os, rs with
  | [.row .e82 o0], [(false, [.int .i64 z0])] => some (o0, z0)
  | _, _ => none
abbrev A55_0 : Type := List (C .e82) × Int × Int
def s55_0 : A55_0 → St C := fun (x0_0, x0_1, x0_2) => { env := [(0, .one (.ref 100000 [])), (1, .one (.int .i64 x0_1)), (5, .one (.int .i64 x0_2)), (90000, .frame), (90001, .hdr 100000 0)], objs := [(100000, .row .e82 x0_0 false)], base := 0 }
noncomputable def r55_0 (n : Nat)  (rec0 : A55_0 → Option (List (C .e82) × Int)) : A55_0 → Option (List (C .e82) × Int) := fun (x0_0, x0_1, x0_2) =>
      cond (decide (x0_2 < (x0_0.length : Int)))
      (Option.bind (G53 x0_1) fun r1 =>
      cond (decide (0 ≤ x0_2)) (cond (decide (x0_2 < (x0_0.length : Int))) (Option.bind x0_0[x0_2.toNat]? fun x2 => Option.bind (G53 (IntKind.i64.wrap (x0_1 + 1))) fun r3 =>
      cond (decide (0 ≤ x0_2)) (cond (decide (x0_2 < ((x0_0.set x0_2.toNat (⟨r1, x2.Name, x2.Team, x2.Values, x2.Ending, x2.Holds, x2.Version⟩ : VGateObject)).length : Int))) (Option.bind (x0_0.set x0_2.toNat (⟨r1, x2.Name, x2.Team, x2.Values, x2.Ending, x2.Holds, x2.Version⟩ : VGateObject))[x0_2.toNat]? fun x4 => Option.bind (G53 (IntKind.i64.wrap ((IntKind.i64.wrap (x0_1 + 1)) + 1))) fun r5 =>
      cond (decide (0 ≤ x0_2)) (cond (decide (x0_2 < (((x0_0.set x0_2.toNat (⟨r1, x2.Name, x2.Team, x2.Values, x2.Ending, x2.Holds, x2.Version⟩ : VGateObject)).set x0_2.toNat (⟨x4.Kind, r3, x4.Team, x4.Values, x4.Ending, x4.Holds, x4.Version⟩ : VGateObject)).length : Int))) (Option.bind ((x0_0.set x0_2.toNat (⟨r1, x2.Name, x2.Team, x2.Values, x2.Ending, x2.Holds, x2.Version⟩ : VGateObject)).set x0_2.toNat (⟨x4.Kind, r3, x4.Team, x4.Values, x4.Ending, x4.Holds, x4.Version⟩ : VGateObject))[x0_2.toNat]? fun x6 => cond (decide (0 ≤ x0_2)) (cond (decide (x0_2 < ((((x0_0.set x0_2.toNat (⟨r1, x2.Name, x2.Team, x2.Values, x2.Ending, x2.Holds, x2.Version⟩ : VGateObject)).set x0_2.toNat (⟨x4.Kind, r3, x4.Team, x4.Values, x4.Ending, x4.Holds, x4.Version⟩ : VGateObject)).set x0_2.toNat (⟨x6.Kind, x6.Name, r5, x6.Values, x6.Ending, x6.Holds, x6.Version⟩ : VGateObject)).length : Int))) (Option.bind (((x0_0.set x0_2.toNat (⟨r1, x2.Name, x2.Team, x2.Values, x2.Ending, x2.Holds, x2.Version⟩ : VGateObject)).set x0_2.toNat (⟨x4.Kind, r3, x4.Team, x4.Values, x4.Ending, x4.Holds, x4.Version⟩ : VGateObject)).set x0_2.toNat (⟨x6.Kind, x6.Name, r5, x6.Values, x6.Ending, x6.Holds, x6.Version⟩ : VGateObject))[x0_2.toNat]? fun x7 => Option.bind (((x0_0.set x0_2.toNat (⟨r1, x2.Name, x2.Team, x2.Values, x2.Ending, x2.Holds, x2.Version⟩ : VGateObject)).set x0_2.toNat (⟨x4.Kind, r3, x4.Team, x4.Values, x4.Ending, x4.Holds, x4.Version⟩ : VGateObject)).set x0_2.toNat (⟨x6.Kind, x6.Name, r5, x6.Values, x6.Ending, x6.Holds, x6.Version⟩ : VGateObject))[x0_2.toNat]? fun x8 => Option.bind (G84 x8.Values (IntKind.i64.wrap ((IntKind.i64.wrap ((IntKind.i64.wrap (x0_1 + 1)) + 1)) + 1))) fun r9 =>
      Option.bind (((x0_0.set x0_2.toNat (⟨r1, x2.Name, x2.Team, x2.Values, x2.Ending, x2.Holds, x2.Version⟩ : VGateObject)).set x0_2.toNat (⟨x4.Kind, r3, x4.Team, x4.Values, x4.Ending, x4.Holds, x4.Version⟩ : VGateObject)).set x0_2.toNat (⟨x6.Kind, x6.Name, r5, x6.Values, x6.Ending, x6.Holds, x6.Version⟩ : VGateObject))[x0_2.toNat]? fun x10 => cond (decide (3 = 0)) none (cond (decide (0 ≤ x0_2)) (cond (decide (x0_2 < (((((x0_0.set x0_2.toNat (⟨r1, x2.Name, x2.Team, x2.Values, x2.Ending, x2.Holds, x2.Version⟩ : VGateObject)).set x0_2.toNat (⟨x4.Kind, r3, x4.Team, x4.Values, x4.Ending, x4.Holds, x4.Version⟩ : VGateObject)).set x0_2.toNat (⟨x6.Kind, x6.Name, r5, x6.Values, x6.Ending, x6.Holds, x6.Version⟩ : VGateObject)).set x0_2.toNat (⟨x10.Kind, x10.Name, x10.Team, r9.1, x10.Ending, x10.Holds, x10.Version⟩ : VGateObject)).length : Int))) (Option.bind ((((x0_0.set x0_2.toNat (⟨r1, x2.Name, x2.Team, x2.Values, x2.Ending, x2.Holds, x2.Version⟩ : VGateObject)).set x0_2.toNat (⟨x4.Kind, r3, x4.Team, x4.Values, x4.Ending, x4.Holds, x4.Version⟩ : VGateObject)).set x0_2.toNat (⟨x6.Kind, x6.Name, r5, x6.Values, x6.Ending, x6.Holds, x6.Version⟩ : VGateObject)).set x0_2.toNat (⟨x10.Kind, x10.Name, x10.Team, r9.1, x10.Ending, x10.Holds, x10.Version⟩ : VGateObject))[x0_2.toNat]? fun x11 => cond (decide (0 ≤ x0_2)) (cond (decide (x0_2 < ((((((x0_0.set x0_2.toNat (⟨r1, x2.Name, x2.Team, x2.Values, x2.Ending, x2.Holds, x2.Version⟩ : VGateObject)).set x0_2.toNat (⟨x4.Kind, r3, x4.Team, x4.Values, x4.Ending, x4.Holds, x4.Version⟩ : VGateObject)).set x0_2.toNat (⟨x6.Kind, x6.Name, r5, x6.Values, x6.Ending, x6.Holds, x6.Version⟩ : VGateObject)).set x0_2.toNat (⟨x10.Kind, x10.Name, x10.Team, r9.1, x10.Ending, x10.Holds, x10.Version⟩ : VGateObject)).set x0_2.toNat ((⟨x11.Kind, x11.Name, x11.Team, x11.Values, (r9.2.tmod 3) == 0, x11.Holds, x11.Version⟩ : VGateObject))).length : Int))) (Option.bind (((((x0_0.set x0_2.toNat (⟨r1, x2.Name, x2.Team, x2.Values, x2.Ending, x2.Holds, x2.Version⟩ : VGateObject)).set x0_2.toNat (⟨x4.Kind, r3, x4.Team, x4.Values, x4.Ending, x4.Holds, x4.Version⟩ : VGateObject)).set x0_2.toNat (⟨x6.Kind, x6.Name, r5, x6.Values, x6.Ending, x6.Holds, x6.Version⟩ : VGateObject)).set x0_2.toNat (⟨x10.Kind, x10.Name, x10.Team, r9.1, x10.Ending, x10.Holds, x10.Version⟩ : VGateObject)).set x0_2.toNat ((⟨x11.Kind, x11.Name, x11.Team, x11.Values, (r9.2.tmod 3) == 0, x11.Holds, x11.Version⟩ : VGateObject)))[x0_2.toNat]? fun x12 => Option.bind (((((x0_0.set x0_2.toNat (⟨r1, x2.Name, x2.Team, x2.Values, x2.Ending, x2.Holds, x2.Version⟩ : VGateObject)).set x0_2.toNat (⟨x4.Kind, r3, x4.Team, x4.Values, x4.Ending, x4.Holds, x4.Version⟩ : VGateObject)).set x0_2.toNat (⟨x6.Kind, x6.Name, r5, x6.Values, x6.Ending, x6.Holds, x6.Version⟩ : VGateObject)).set x0_2.toNat (⟨x10.Kind, x10.Name, x10.Team, r9.1, x10.Ending, x10.Holds, x10.Version⟩ : VGateObject)).set x0_2.toNat ((⟨x11.Kind, x11.Name, x11.Team, x11.Values, (r9.2.tmod 3) == 0, x11.Holds, x11.Version⟩ : VGateObject)))[x0_2.toNat]? fun x13 => Option.bind (G84 x13.Holds (IntKind.i64.wrap (r9.2 + 1))) fun r14 =>
      Option.bind (((((x0_0.set x0_2.toNat (⟨r1, x2.Name, x2.Team, x2.Values, x2.Ending, x2.Holds, x2.Version⟩ : VGateObject)).set x0_2.toNat (⟨x4.Kind, r3, x4.Team, x4.Values, x4.Ending, x4.Holds, x4.Version⟩ : VGateObject)).set x0_2.toNat (⟨x6.Kind, x6.Name, r5, x6.Values, x6.Ending, x6.Holds, x6.Version⟩ : VGateObject)).set x0_2.toNat (⟨x10.Kind, x10.Name, x10.Team, r9.1, x10.Ending, x10.Holds, x10.Version⟩ : VGateObject)).set x0_2.toNat ((⟨x11.Kind, x11.Name, x11.Team, x11.Values, (r9.2.tmod 3) == 0, x11.Holds, x11.Version⟩ : VGateObject)))[x0_2.toNat]? fun x15 => cond (decide (0 ≤ x0_2)) (cond (decide (x0_2 < (((((((x0_0.set x0_2.toNat (⟨r1, x2.Name, x2.Team, x2.Values, x2.Ending, x2.Holds, x2.Version⟩ : VGateObject)).set x0_2.toNat (⟨x4.Kind, r3, x4.Team, x4.Values, x4.Ending, x4.Holds, x4.Version⟩ : VGateObject)).set x0_2.toNat (⟨x6.Kind, x6.Name, r5, x6.Values, x6.Ending, x6.Holds, x6.Version⟩ : VGateObject)).set x0_2.toNat (⟨x10.Kind, x10.Name, x10.Team, r9.1, x10.Ending, x10.Holds, x10.Version⟩ : VGateObject)).set x0_2.toNat ((⟨x11.Kind, x11.Name, x11.Team, x11.Values, (r9.2.tmod 3) == 0, x11.Holds, x11.Version⟩ : VGateObject))).set x0_2.toNat (⟨x15.Kind, x15.Name, x15.Team, x15.Values, x15.Ending, r14.1, x15.Version⟩ : VGateObject)).length : Int))) (Option.bind ((((((x0_0.set x0_2.toNat (⟨r1, x2.Name, x2.Team, x2.Values, x2.Ending, x2.Holds, x2.Version⟩ : VGateObject)).set x0_2.toNat (⟨x4.Kind, r3, x4.Team, x4.Values, x4.Ending, x4.Holds, x4.Version⟩ : VGateObject)).set x0_2.toNat (⟨x6.Kind, x6.Name, r5, x6.Values, x6.Ending, x6.Holds, x6.Version⟩ : VGateObject)).set x0_2.toNat (⟨x10.Kind, x10.Name, x10.Team, r9.1, x10.Ending, x10.Holds, x10.Version⟩ : VGateObject)).set x0_2.toNat ((⟨x11.Kind, x11.Name, x11.Team, x11.Values, (r9.2.tmod 3) == 0, x11.Holds, x11.Version⟩ : VGateObject))).set x0_2.toNat (⟨x15.Kind, x15.Name, x15.Team, x15.Values, x15.Ending, r14.1, x15.Version⟩ : VGateObject))[x0_2.toNat]? fun x16 => rec0 (((((((x0_0.set x0_2.toNat (⟨r1, x2.Name, x2.Team, x2.Values, x2.Ending, x2.Holds, x2.Version⟩ : VGateObject)).set x0_2.toNat (⟨x4.Kind, r3, x4.Team, x4.Values, x4.Ending, x4.Holds, x4.Version⟩ : VGateObject)).set x0_2.toNat (⟨x6.Kind, x6.Name, r5, x6.Values, x6.Ending, x6.Holds, x6.Version⟩ : VGateObject)).set x0_2.toNat (⟨x10.Kind, x10.Name, x10.Team, r9.1, x10.Ending, x10.Holds, x10.Version⟩ : VGateObject)).set x0_2.toNat ((⟨x11.Kind, x11.Name, x11.Team, x11.Values, (r9.2.tmod 3) == 0, x11.Holds, x11.Version⟩ : VGateObject))).set x0_2.toNat (⟨x15.Kind, x15.Name, x15.Team, x15.Values, x15.Ending, r14.1, x15.Version⟩ : VGateObject)).set x0_2.toNat (⟨x16.Kind, x16.Name, x16.Team, x16.Values, x16.Ending, x16.Holds, r14.2⟩ : VGateObject), IntKind.i64.wrap (r14.2 + 1), IntKind.i64.wrap (x0_2 + 1))) none) none) none) none) none) none)) none) none) none) none) none) none) none) none)
      (some (x0_0, x0_1))
noncomputable def LP55_0 (n : Nat)  (x : A55_0) : Option (List (C .e82) × Int) := lpN (r55_0 n ) n x
noncomputable def MP55_0 (kp : Nat → Prop) (kh : Nat → Option Obj) (hd : Nat → Value) (n : Nat)  (x : A55_0) : Option (List (C .e82) × Int) := iter (fun rec S => run (X55.gh kp kh hd) (F55 n) (codeAt (bodyOf Go.Proofs.Try.f55) [1, 0, 1, 0, 0]) 0 S (lopK rec (blkK 0 (seqK (run (X55.gh kp kh hd) (F55 n) (codeAt (bodyOf Go.Proofs.Try.f55) [1, 1]) 0) (kTopW (X55.gh kp kh hd) Go.Proofs.Try.f55 [true, false] dec55))))) [0, 1, 5, 90000, 90001] n (s55_0 x)
theorem m55_0 (kp : Nat → Prop) (kh : Nat → Option Obj) (hd : Nat → Value) (n : Nat)  (x : A55_0) : MP55_0 kp kh hd n  x = LP55_0 n  x := by
  refine iter_eq s55_0 (r55_0 n ) (fun rec0 x => ?_) n x
  obtain ⟨x0_0, x0_1, x0_2⟩ := x
  kernel_rfl
noncomputable def G55n (n : Nat) (a0 : List (C .e82)) (a1 : Int) : Option (List (C .e82) × Int) :=
      LP55_0 n  (a0, a1, 0)
theorem t55 (kp : Nat → Prop) (kh : Nat → Option Obj) (hd : Nat → Value) (n : Nat) (a0 : List (C .e82)) (a1 : Int) : runFnW (X55.gh kp kh hd) (F55 n) Go.Proofs.Try.f55 [(false, [.row .e82 a0]), (false, [.int .i64 a1])] dec55 = G55n n a0 a1 := by
  have h : runFnW (X55.gh kp kh hd) (F55 n) Go.Proofs.Try.f55 [(false, [.row .e82 a0]), (false, [.int .i64 a1])] dec55 =
      MP55_0 kp kh hd n  (a0, a1, 0) := by kernel_rfl
  simp only [h, G55n, m55_0]
noncomputable def G55 (a0 : List (C .e82)) (a1 : Int) : Option (List (C .e82) × Int) := G55n fuel a0 a1
noncomputable def con55 : ConW C := { R0 := List (C .e82) × Int, out := fun r => [.row .e82 r.1], ret := fun r => [(false, [.int .i64 r.2])], g := fun rs => match rs with
  | [(false, [.row .e82 y0]), (false, [.int .i64 y1])] => G55 y0 y1
  | _ => none }
theorem x55 : XOk Go.Proofs.Try.prog X55 := ⟨tks_ok, els_ok⟩
theorem q55 : Cons Go.Proofs.Try.prog X55 := ⟨lkR_ok (l := [(53, con53)]) ⟨c53, trivial⟩, lkW_ok (l := [(84, con84)]) ⟨c84, trivial⟩⟩
theorem c55 : ConWOk Go.Proofs.Try.prog KK 55 con55 := by
  refine conw_of x55 q55 (by kernel_rfl) (f := 55) (fn := Go.Proofs.Try.f55) (c := bodyOf Go.Proofs.Try.f55) (by kernel_rfl) (by kernel_rfl) (by kernel_rfl) (nameB (by kernel_rfl)) con55 dec55 (fun os rs r0 h => ?_) (fun rs r0 h => ?_)
  · unfold dec55 at h
    split at h
    · cases h; exact ⟨rfl, rfl⟩
    · cases h
  · simp only [con55] at h
    split at h
    · rename_i y0 y1
      exact ⟨Nat.le_of_ble_eq_true (by kernel_rfl), F55 fuel, fun kp kh hd => (t55 kp kh hd fuel y0 y1).trans h⟩
    · cases h
/-! ### f56 loop.example/wharfdesk/laws.markGateLedgerS -/
noncomputable def X56 : Cx C := { K := KK, tk := lk tks, con := lkC [(53, con53)], conw := lkC [] }
def F56 (n : Nat) : Cf := { N := n, keep := [0, 1, 4, 5, 9, 90000, 90001], live := lk [(0, [0, 1, 5, 90000, 90001])] }
def dec56 (os : List (Lf C)) (rs : List (Bool × List (Lf C))) : Option (List (C .e115) × Int) := match os, rs with
  | [.row .e115 o0], [(false, [.int .i64 z0])] => some (o0, z0)
  | _, _ => none
abbrev A56_0 : Type := List (C .e115) × Int × Int
def s56_0 : A56_0 → St C := fun (x0_0, x0_1, x0_2) => { env := [(0, .one (.ref 100000 [])), (1, .one (.int .i64 x0_1)), (5, .one (.int .i64 x0_2)), (90000, .frame), (90001, .hdr 100000 0)], objs := [(100000, .row .e115 x0_0 false)], base := 0 }
noncomputable def r56_0 (n : Nat)  (rec0 : A56_0 → Option (List (C .e115) × Int)) : A56_0 → Option (List (C .e115) × Int) := fun (x0_0, x0_1, x0_2) =>
      cond (decide (x0_2 < (x0_0.length : Int)))
      (Option.bind (G53 x0_1) fun r1 =>
      cond (decide (0 ≤ x0_2)) (cond (decide (x0_2 < (x0_0.length : Int))) (Option.bind x0_0[x0_2.toNat]? fun x2 => Option.bind (G53 (IntKind.i64.wrap (x0_1 + 1))) fun r3 =>
      cond (decide (0 ≤ x0_2)) (cond (decide (x0_2 < ((x0_0.set x0_2.toNat (⟨r1, x2.Resource, x2.Most, x2.Free⟩ : VGateLedger)).length : Int))) (Option.bind (x0_0.set x0_2.toNat (⟨r1, x2.Resource, x2.Most, x2.Free⟩ : VGateLedger))[x0_2.toNat]? fun x4 => cond (decide (0 ≤ x0_2)) (cond (decide (x0_2 < (((x0_0.set x0_2.toNat (⟨r1, x2.Resource, x2.Most, x2.Free⟩ : VGateLedger)).set x0_2.toNat (⟨x4.Team, r3, x4.Most, x4.Free⟩ : VGateLedger)).length : Int))) (Option.bind ((x0_0.set x0_2.toNat (⟨r1, x2.Resource, x2.Most, x2.Free⟩ : VGateLedger)).set x0_2.toNat (⟨x4.Team, r3, x4.Most, x4.Free⟩ : VGateLedger))[x0_2.toNat]? fun x5 => cond (decide (0 ≤ x0_2)) (cond (decide (x0_2 < ((((x0_0.set x0_2.toNat (⟨r1, x2.Resource, x2.Most, x2.Free⟩ : VGateLedger)).set x0_2.toNat (⟨x4.Team, r3, x4.Most, x4.Free⟩ : VGateLedger)).set x0_2.toNat ((⟨x5.Team, x5.Resource, IntKind.i64.wrap ((IntKind.i64.wrap (x0_1 + 1)) + 1), x5.Free⟩ : VGateLedger))).length : Int))) (Option.bind (((x0_0.set x0_2.toNat (⟨r1, x2.Resource, x2.Most, x2.Free⟩ : VGateLedger)).set x0_2.toNat (⟨x4.Team, r3, x4.Most, x4.Free⟩ : VGateLedger)).set x0_2.toNat ((⟨x5.Team, x5.Resource, IntKind.i64.wrap ((IntKind.i64.wrap (x0_1 + 1)) + 1), x5.Free⟩ : VGateLedger)))[x0_2.toNat]? fun x6 => rec0 ((((x0_0.set x0_2.toNat (⟨r1, x2.Resource, x2.Most, x2.Free⟩ : VGateLedger)).set x0_2.toNat (⟨x4.Team, r3, x4.Most, x4.Free⟩ : VGateLedger)).set x0_2.toNat ((⟨x5.Team, x5.Resource, IntKind.i64.wrap ((IntKind.i64.wrap (x0_1 + 1)) + 1), x5.Free⟩ : VGateLedger))).set x0_2.toNat ((⟨x6.Team, x6.Resource, x6.Most, IntKind.i64.wrap ((IntKind.i64.wrap ((IntKind.i64.wrap (x0_1 + 1)) + 1)) + 1)⟩ : VGateLedger)), IntKind.i64.wrap ((IntKind.i64.wrap ((IntKind.i64.wrap ((IntKind.i64.wrap (x0_1 + 1)) + 1)) + 1)) + 1), IntKind.i64.wrap (x0_2 + 1))) none) none) none) none) none) none) none) none)
      (some (x0_0, x0_1))
noncomputable def LP56_0 (n : Nat)  (x : A56_0) : Option (List (C .e115) × Int) := lpN (r56_0 n ) n x
noncomputable def MP56_0 (kp : Nat → Prop) (kh : Nat → Option Obj) (hd : Nat → Value) (n : Nat)  (x : A56_0) : Option (List (C .e115) × Int) := iter (fun rec S => run (X56.gh kp kh hd) (F56 n) (codeAt (bodyOf Go.Proofs.Try.f56) [1, 0, 1, 0, 0]) 0 S (lopK rec (blkK 0 (seqK (run (X56.gh kp kh hd) (F56 n) (codeAt (bodyOf Go.Proofs.Try.f56) [1, 1]) 0) (kTopW (X56.gh kp kh hd) Go.Proofs.Try.f56 [true, false] dec56))))) [0, 1, 5, 90000, 90001] n (s56_0 x)
theorem m56_0 (kp : Nat → Prop) (kh : Nat → Option Obj) (hd : Nat → Value) (n : Nat)  (x : A56_0) : MP56_0 kp kh hd n  x = LP56_0 n  x := by
  refine iter_eq s56_0 (r56_0 n ) (fun rec0 x => ?_) n x
  obtain ⟨x0_0, x0_1, x0_2⟩ := x
  kernel_rfl
noncomputable def G56n (n : Nat) (a0 : List (C .e115)) (a1 : Int) : Option (List (C .e115) × Int) :=
      LP56_0 n  (a0, a1, 0)
theorem t56 (kp : Nat → Prop) (kh : Nat → Option Obj) (hd : Nat → Value) (n : Nat) (a0 : List (C .e115)) (a1 : Int) : runFnW (X56.gh kp kh hd) (F56 n) Go.Proofs.Try.f56 [(false, [.row .e115 a0]), (false, [.int .i64 a1])] dec56 = G56n n a0 a1 := by
  have h : runFnW (X56.gh kp kh hd) (F56 n) Go.Proofs.Try.f56 [(false, [.row .e115 a0]), (false, [.int .i64 a1])] dec56 =
      MP56_0 kp kh hd n  (a0, a1, 0) := by kernel_rfl
  simp only [h, G56n, m56_0]
noncomputable def G56 (a0 : List (C .e115)) (a1 : Int) : Option (List (C .e115) × Int) := G56n fuel a0 a1
noncomputable def con56 : ConW C := { R0 := List (C .e115) × Int, out := fun r => [.row .e115 r.1], ret := fun r => [(false, [.int .i64 r.2])], g := fun rs => match rs with
  | [(false, [.row .e115 y0]), (false, [.int .i64 y1])] => G56 y0 y1
  | _ => none }
theorem x56 : XOk Go.Proofs.Try.prog X56 := ⟨tks_ok, els_ok⟩
theorem q56 : Cons Go.Proofs.Try.prog X56 := ⟨lkR_ok (l := [(53, con53)]) ⟨c53, trivial⟩, lkW_ok (l := []) trivial⟩
theorem c56 : ConWOk Go.Proofs.Try.prog KK 56 con56 := by
  refine conw_of x56 q56 (by kernel_rfl) (f := 56) (fn := Go.Proofs.Try.f56) (c := bodyOf Go.Proofs.Try.f56) (by kernel_rfl) (by kernel_rfl) (by kernel_rfl) (nameB (by kernel_rfl)) con56 dec56 (fun os rs r0 h => ?_) (fun rs r0 h => ?_)
  · unfold dec56 at h
    split at h
    · cases h; exact ⟨rfl, rfl⟩
    · cases h
  · simp only [con56] at h
    split at h
    · rename_i y0 y1
      exact ⟨Nat.le_of_ble_eq_true (by kernel_rfl), F56 fuel, fun kp kh hd => (t56 kp kh hd fuel y0 y1).trans h⟩
    · cases h
/-! ### f57 loop.example/wharfdesk/laws.markGatePurseS -/
noncomputable def X57 : Cx C := { K := KK, tk := lk tks, con := lkC [(53, con53)], conw := lkC [] }
def F57 (n : Nat) : Cf := { N := n, keep := [0, 1, 4, 5, 9, 90000, 90001], live := lk [(0, [0, 1, 5, 90000, 90001])] }
def dec57 (os : List (Lf C)) (rs : List (Bool × List (Lf C))) : Option (List (C .e118) × Int) := match os, rs with
  | [.row .e118 o0], [(false, [.int .i64 z0])] => some (o0, z0)
  | _, _ => none
abbrev A57_0 : Type := List (C .e118) × Int × Int
def s57_0 : A57_0 → St C := fun (x0_0, x0_1, x0_2) => { env := [(0, .one (.ref 100000 [])), (1, .one (.int .i64 x0_1)), (5, .one (.int .i64 x0_2)), (90000, .frame), (90001, .hdr 100000 0)], objs := [(100000, .row .e118 x0_0 false)], base := 0 }
noncomputable def r57_0 (n : Nat)  (rec0 : A57_0 → Option (List (C .e118) × Int)) : A57_0 → Option (List (C .e118) × Int) := fun (x0_0, x0_1, x0_2) =>
      cond (decide (x0_2 < (x0_0.length : Int)))
      (Option.bind (G53 x0_1) fun r1 =>
      cond (decide (0 ≤ x0_2)) (cond (decide (x0_2 < (x0_0.length : Int))) (Option.bind x0_0[x0_2.toNat]? fun x2 => Option.bind (G53 (IntKind.i64.wrap (x0_1 + 1))) fun r3 =>
      cond (decide (0 ≤ x0_2)) (cond (decide (x0_2 < ((x0_0.set x0_2.toNat (⟨r1, x2.Team, x2.Resource, x2.Amount, x2.Until⟩ : VGatePurse)).length : Int))) (Option.bind (x0_0.set x0_2.toNat (⟨r1, x2.Team, x2.Resource, x2.Amount, x2.Until⟩ : VGatePurse))[x0_2.toNat]? fun x4 => Option.bind (G53 (IntKind.i64.wrap ((IntKind.i64.wrap (x0_1 + 1)) + 1))) fun r5 =>
      cond (decide (0 ≤ x0_2)) (cond (decide (x0_2 < (((x0_0.set x0_2.toNat (⟨r1, x2.Team, x2.Resource, x2.Amount, x2.Until⟩ : VGatePurse)).set x0_2.toNat (⟨x4.Door, r3, x4.Resource, x4.Amount, x4.Until⟩ : VGatePurse)).length : Int))) (Option.bind ((x0_0.set x0_2.toNat (⟨r1, x2.Team, x2.Resource, x2.Amount, x2.Until⟩ : VGatePurse)).set x0_2.toNat (⟨x4.Door, r3, x4.Resource, x4.Amount, x4.Until⟩ : VGatePurse))[x0_2.toNat]? fun x6 => cond (decide (0 ≤ x0_2)) (cond (decide (x0_2 < ((((x0_0.set x0_2.toNat (⟨r1, x2.Team, x2.Resource, x2.Amount, x2.Until⟩ : VGatePurse)).set x0_2.toNat (⟨x4.Door, r3, x4.Resource, x4.Amount, x4.Until⟩ : VGatePurse)).set x0_2.toNat (⟨x6.Door, x6.Team, r5, x6.Amount, x6.Until⟩ : VGatePurse)).length : Int))) (Option.bind (((x0_0.set x0_2.toNat (⟨r1, x2.Team, x2.Resource, x2.Amount, x2.Until⟩ : VGatePurse)).set x0_2.toNat (⟨x4.Door, r3, x4.Resource, x4.Amount, x4.Until⟩ : VGatePurse)).set x0_2.toNat (⟨x6.Door, x6.Team, r5, x6.Amount, x6.Until⟩ : VGatePurse))[x0_2.toNat]? fun x7 => cond (decide (0 ≤ x0_2)) (cond (decide (x0_2 < (((((x0_0.set x0_2.toNat (⟨r1, x2.Team, x2.Resource, x2.Amount, x2.Until⟩ : VGatePurse)).set x0_2.toNat (⟨x4.Door, r3, x4.Resource, x4.Amount, x4.Until⟩ : VGatePurse)).set x0_2.toNat (⟨x6.Door, x6.Team, r5, x6.Amount, x6.Until⟩ : VGatePurse)).set x0_2.toNat ((⟨x7.Door, x7.Team, x7.Resource, IntKind.i64.wrap ((IntKind.i64.wrap ((IntKind.i64.wrap (x0_1 + 1)) + 1)) + 1), x7.Until⟩ : VGatePurse))).length : Int))) (Option.bind ((((x0_0.set x0_2.toNat (⟨r1, x2.Team, x2.Resource, x2.Amount, x2.Until⟩ : VGatePurse)).set x0_2.toNat (⟨x4.Door, r3, x4.Resource, x4.Amount, x4.Until⟩ : VGatePurse)).set x0_2.toNat (⟨x6.Door, x6.Team, r5, x6.Amount, x6.Until⟩ : VGatePurse)).set x0_2.toNat ((⟨x7.Door, x7.Team, x7.Resource, IntKind.i64.wrap ((IntKind.i64.wrap ((IntKind.i64.wrap (x0_1 + 1)) + 1)) + 1), x7.Until⟩ : VGatePurse)))[x0_2.toNat]? fun x8 => rec0 (((((x0_0.set x0_2.toNat (⟨r1, x2.Team, x2.Resource, x2.Amount, x2.Until⟩ : VGatePurse)).set x0_2.toNat (⟨x4.Door, r3, x4.Resource, x4.Amount, x4.Until⟩ : VGatePurse)).set x0_2.toNat (⟨x6.Door, x6.Team, r5, x6.Amount, x6.Until⟩ : VGatePurse)).set x0_2.toNat ((⟨x7.Door, x7.Team, x7.Resource, IntKind.i64.wrap ((IntKind.i64.wrap ((IntKind.i64.wrap (x0_1 + 1)) + 1)) + 1), x7.Until⟩ : VGatePurse))).set x0_2.toNat ((⟨x8.Door, x8.Team, x8.Resource, x8.Amount, IntKind.i64.wrap ((IntKind.i64.wrap ((IntKind.i64.wrap ((IntKind.i64.wrap (x0_1 + 1)) + 1)) + 1)) + 1)⟩ : VGatePurse)), IntKind.i64.wrap ((IntKind.i64.wrap ((IntKind.i64.wrap ((IntKind.i64.wrap ((IntKind.i64.wrap (x0_1 + 1)) + 1)) + 1)) + 1)) + 1), IntKind.i64.wrap (x0_2 + 1))) none) none) none) none) none) none) none) none) none) none)
      (some (x0_0, x0_1))
noncomputable def LP57_0 (n : Nat)  (x : A57_0) : Option (List (C .e118) × Int) := lpN (r57_0 n ) n x
noncomputable def MP57_0 (kp : Nat → Prop) (kh : Nat → Option Obj) (hd : Nat → Value) (n : Nat)  (x : A57_0) : Option (List (C .e118) × Int) := iter (fun rec S => run (X57.gh kp kh hd) (F57 n) (codeAt (bodyOf Go.Proofs.Try.f57) [1, 0, 1, 0, 0]) 0 S (lopK rec (blkK 0 (seqK (run (X57.gh kp kh hd) (F57 n) (codeAt (bodyOf Go.Proofs.Try.f57) [1, 1]) 0) (kTopW (X57.gh kp kh hd) Go.Proofs.Try.f57 [true, false] dec57))))) [0, 1, 5, 90000, 90001] n (s57_0 x)
theorem m57_0 (kp : Nat → Prop) (kh : Nat → Option Obj) (hd : Nat → Value) (n : Nat)  (x : A57_0) : MP57_0 kp kh hd n  x = LP57_0 n  x := by
  refine iter_eq s57_0 (r57_0 n ) (fun rec0 x => ?_) n x
  obtain ⟨x0_0, x0_1, x0_2⟩ := x
  kernel_rfl
noncomputable def G57n (n : Nat) (a0 : List (C .e118)) (a1 : Int) : Option (List (C .e118) × Int) :=
      LP57_0 n  (a0, a1, 0)
theorem t57 (kp : Nat → Prop) (kh : Nat → Option Obj) (hd : Nat → Value) (n : Nat) (a0 : List (C .e118)) (a1 : Int) : runFnW (X57.gh kp kh hd) (F57 n) Go.Proofs.Try.f57 [(false, [.row .e118 a0]), (false, [.int .i64 a1])] dec57 = G57n n a0 a1 := by
  have h : runFnW (X57.gh kp kh hd) (F57 n) Go.Proofs.Try.f57 [(false, [.row .e118 a0]), (false, [.int .i64 a1])] dec57 =
      MP57_0 kp kh hd n  (a0, a1, 0) := by kernel_rfl
  simp only [h, G57n, m57_0]
noncomputable def G57 (a0 : List (C .e118)) (a1 : Int) : Option (List (C .e118) × Int) := G57n fuel a0 a1
noncomputable def con57 : ConW C := { R0 := List (C .e118) × Int, out := fun r => [.row .e118 r.1], ret := fun r => [(false, [.int .i64 r.2])], g := fun rs => match rs with
  | [(false, [.row .e118 y0]), (false, [.int .i64 y1])] => G57 y0 y1
  | _ => none }
theorem x57 : XOk Go.Proofs.Try.prog X57 := ⟨tks_ok, els_ok⟩
theorem q57 : Cons Go.Proofs.Try.prog X57 := ⟨lkR_ok (l := [(53, con53)]) ⟨c53, trivial⟩, lkW_ok (l := []) trivial⟩
theorem c57 : ConWOk Go.Proofs.Try.prog KK 57 con57 := by
  refine conw_of x57 q57 (by kernel_rfl) (f := 57) (fn := Go.Proofs.Try.f57) (c := bodyOf Go.Proofs.Try.f57) (by kernel_rfl) (by kernel_rfl) (by kernel_rfl) (nameB (by kernel_rfl)) con57 dec57 (fun os rs r0 h => ?_) (fun rs r0 h => ?_)
  · unfold dec57 at h
    split at h
    · cases h; exact ⟨rfl, rfl⟩
    · cases h
  · simp only [con57] at h
    split at h
    · rename_i y0 y1
      exact ⟨Nat.le_of_ble_eq_true (by kernel_rfl), F57 fuel, fun kp kh hd => (t57 kp kh hd fuel y0 y1).trans h⟩
    · cases h
/-! ### f27 loop.example/wharfdesk/laws.markGateBook -/
noncomputable def X27 : Cx C := { K := KK, tk := lk tks, con := lkC [], conw := lkC [(26, con26), (55, con55), (56, con56), (57, con57)] }
def F27 (n : Nat) : Cf := { N := n, keep := [0, 1, 2, 4, 90000, 90004, 90005, 90006, 90007], live := lk [] }
def dec27 (os : List (Lf C)) (rs : List (Bool × List (Lf C))) : Option (List (C .e82) × List (C .e77) × List (C .e115) × List (C .e118) × Int) := match os, rs with
  | [.row .e82 o0, .row .e77 o1, .row .e115 o2, .row .e118 o3], [(false, [.int .i64 z0])] => some (o0, o1, o2, o3, z0)
  | _, _ => none
noncomputable def G27n (n : Nat) (a0 : VGateBook) (a1 : Int) : Option (List (C .e82) × List (C .e77) × List (C .e115) × List (C .e118) × Int) :=
      Option.bind (G55 a0.Objects a1) fun r1 =>
      Option.bind (G26 a0.Grants r1.2) fun r2 =>
      Option.bind (G56 a0.Ledgers r2.2) fun r3 =>
      Option.bind (G57 a0.Purses r3.2) fun r4 =>
      some (r1.1, r2.1, r3.1, r4.1, r4.2)
theorem t27 (kp : Nat → Prop) (kh : Nat → Option Obj) (hd : Nat → Value) (n : Nat) (a0 : VGateBook) (a1 : Int) : runFnW (X27.gh kp kh hd) (F27 n) Go.Proofs.Try.f27 [(true, [.int .i64 a0.Now, .int .i64 a0.Tick, .int .i64 a0.Given, .row .e82 a0.Objects, .row .e77 a0.Grants, .row .e115 a0.Ledgers, .row .e118 a0.Purses]), (false, [.int .i64 a1])] dec27 = G27n n a0 a1 := by
  kernel_rfl
noncomputable def G27 (a0 : VGateBook) (a1 : Int) : Option (List (C .e82) × List (C .e77) × List (C .e115) × List (C .e118) × Int) := G27n fuel a0 a1
noncomputable def con27 : ConW C := { R0 := List (C .e82) × List (C .e77) × List (C .e115) × List (C .e118) × Int, out := fun r => [.row .e82 r.1, .row .e77 r.2.1, .row .e115 r.2.2.1, .row .e118 r.2.2.2.1], ret := fun r => [(false, [.int .i64 r.2.2.2.2])], g := fun rs => match rs with
  | [(true, [.int .i64 y0_0, .int .i64 y0_1, .int .i64 y0_2, .row .e82 y0_3, .row .e77 y0_4, .row .e115 y0_5, .row .e118 y0_6]), (false, [.int .i64 y1])] => G27 ⟨y0_0, y0_1, y0_2, y0_3, y0_4, y0_5, y0_6⟩ y1
  | _ => none }
theorem x27 : XOk Go.Proofs.Try.prog X27 := ⟨tks_ok, els_ok⟩
theorem q27 : Cons Go.Proofs.Try.prog X27 := ⟨lkR_ok (l := []) trivial, lkW_ok (l := [(26, con26), (55, con55), (56, con56), (57, con57)]) ⟨c26, c55, c56, c57, trivial⟩⟩
theorem c27 : ConWOk Go.Proofs.Try.prog KK 27 con27 := by
  refine conw_of x27 q27 (by kernel_rfl) (f := 27) (fn := Go.Proofs.Try.f27) (c := bodyOf Go.Proofs.Try.f27) (by kernel_rfl) (by kernel_rfl) (by kernel_rfl) (nameB (by kernel_rfl)) con27 dec27 (fun os rs r0 h => ?_) (fun rs r0 h => ?_)
  · unfold dec27 at h
    split at h
    · cases h; exact ⟨rfl, rfl⟩
    · cases h
  · simp only [con27] at h
    split at h
    · rename_i y0_0 y0_1 y0_2 y0_3 y0_4 y0_5 y0_6 y1
      exact ⟨Nat.le_of_ble_eq_true (by kernel_rfl), F27 fuel, fun kp kh hd => (t27 kp kh hd fuel ⟨y0_0, y0_1, y0_2, y0_3, y0_4, y0_5, y0_6⟩ y1).trans h⟩
    · cases h
/-! ### f58 loop.example/wharfdesk/laws.markStewServiceS -/
noncomputable def X58 : Cx C := { K := KK, tk := lk tks, con := lkC [(53, con53)], conw := lkC [] }
def F58 (n : Nat) : Cf := { N := n, keep := [0, 1, 4, 5, 9, 90000, 90001], live := lk [(0, [0, 1, 5, 90000, 90001])] }
def dec58 (os : List (Lf C)) (rs : List (Bool × List (Lf C))) : Option (List (C .e121) × Int) := match os, rs with
  | [.row .e121 o0], [(false, [.int .i64 z0])] => some (o0, z0)
  | _, _ => none
abbrev A58_0 : Type := List (C .e121) × Int × Int
def s58_0 : A58_0 → St C := fun (x0_0, x0_1, x0_2) => { env := [(0, .one (.ref 100000 [])), (1, .one (.int .i64 x0_1)), (5, .one (.int .i64 x0_2)), (90000, .frame), (90001, .hdr 100000 0)], objs := [(100000, .row .e121 x0_0 false)], base := 0 }
noncomputable def r58_0 (n : Nat)  (rec0 : A58_0 → Option (List (C .e121) × Int)) : A58_0 → Option (List (C .e121) × Int) := fun (x0_0, x0_1, x0_2) =>
      cond (decide (x0_2 < (x0_0.length : Int)))
      (Option.bind (G53 x0_1) fun r1 =>
      cond (decide (0 ≤ x0_2)) (cond (decide (x0_2 < (x0_0.length : Int))) (Option.bind x0_0[x0_2.toNat]? fun x2 => cond (decide (0 ≤ x0_2)) (cond (decide (x0_2 < ((x0_0.set x0_2.toNat (⟨r1, x2.Version, x2.Gone, x2.Image, x2.Want, x2.Down, x2.Over, x2.Next, x2.Per, x2.Least, x2.Most, x2.Load, x2.Cool⟩ : VStewService)).length : Int))) (Option.bind (x0_0.set x0_2.toNat (⟨r1, x2.Version, x2.Gone, x2.Image, x2.Want, x2.Down, x2.Over, x2.Next, x2.Per, x2.Least, x2.Most, x2.Load, x2.Cool⟩ : VStewService))[x0_2.toNat]? fun x3 => cond (decide (3 = 0)) none (cond (decide (0 ≤ x0_2)) (cond (decide (x0_2 < (((x0_0.set x0_2.toNat (⟨r1, x2.Version, x2.Gone, x2.Image, x2.Want, x2.Down, x2.Over, x2.Next, x2.Per, x2.Least, x2.Most, x2.Load, x2.Cool⟩ : VStewService)).set x0_2.toNat ((⟨x3.Name, IntKind.i64.wrap (x0_1 + 1), x3.Gone, x3.Image, x3.Want, x3.Down, x3.Over, x3.Next, x3.Per, x3.Least, x3.Most, x3.Load, x3.Cool⟩ : VStewService))).length : Int))) (Option.bind ((x0_0.set x0_2.toNat (⟨r1, x2.Version, x2.Gone, x2.Image, x2.Want, x2.Down, x2.Over, x2.Next, x2.Per, x2.Least, x2.Most, x2.Load, x2.Cool⟩ : VStewService)).set x0_2.toNat ((⟨x3.Name, IntKind.i64.wrap (x0_1 + 1), x3.Gone, x3.Image, x3.Want, x3.Down, x3.Over, x3.Next, x3.Per, x3.Least, x3.Most, x3.Load, x3.Cool⟩ : VStewService)))[x0_2.toNat]? fun x4 => cond (decide (0 ≤ x0_2)) (cond (decide (x0_2 < ((((x0_0.set x0_2.toNat (⟨r1, x2.Version, x2.Gone, x2.Image, x2.Want, x2.Down, x2.Over, x2.Next, x2.Per, x2.Least, x2.Most, x2.Load, x2.Cool⟩ : VStewService)).set x0_2.toNat ((⟨x3.Name, IntKind.i64.wrap (x0_1 + 1), x3.Gone, x3.Image, x3.Want, x3.Down, x3.Over, x3.Next, x3.Per, x3.Least, x3.Most, x3.Load, x3.Cool⟩ : VStewService))).set x0_2.toNat ((⟨x4.Name, x4.Version, ((IntKind.i64.wrap ((IntKind.i64.wrap (x0_1 + 1)) + 1)).tmod 3) == 0, x4.Image, x4.Want, x4.Down, x4.Over, x4.Next, x4.Per, x4.Least, x4.Most, x4.Load, x4.Cool⟩ : VStewService))).length : Int))) (Option.bind (((x0_0.set x0_2.toNat (⟨r1, x2.Version, x2.Gone, x2.Image, x2.Want, x2.Down, x2.Over, x2.Next, x2.Per, x2.Least, x2.Most, x2.Load, x2.Cool⟩ : VStewService)).set x0_2.toNat ((⟨x3.Name, IntKind.i64.wrap (x0_1 + 1), x3.Gone, x3.Image, x3.Want, x3.Down, x3.Over, x3.Next, x3.Per, x3.Least, x3.Most, x3.Load, x3.Cool⟩ : VStewService))).set x0_2.toNat ((⟨x4.Name, x4.Version, ((IntKind.i64.wrap ((IntKind.i64.wrap (x0_1 + 1)) + 1)).tmod 3) == 0, x4.Image, x4.Want, x4.Down, x4.Over, x4.Next, x4.Per, x4.Least, x4.Most, x4.Load, x4.Cool⟩ : VStewService)))[x0_2.toNat]? fun x5 => cond (decide (0 ≤ x0_2)) (cond (decide (x0_2 < (((((x0_0.set x0_2.toNat (⟨r1, x2.Version, x2.Gone, x2.Image, x2.Want, x2.Down, x2.Over, x2.Next, x2.Per, x2.Least, x2.Most, x2.Load, x2.Cool⟩ : VStewService)).set x0_2.toNat ((⟨x3.Name, IntKind.i64.wrap (x0_1 + 1), x3.Gone, x3.Image, x3.Want, x3.Down, x3.Over, x3.Next, x3.Per, x3.Least, x3.Most, x3.Load, x3.Cool⟩ : VStewService))).set x0_2.toNat ((⟨x4.Name, x4.Version, ((IntKind.i64.wrap ((IntKind.i64.wrap (x0_1 + 1)) + 1)).tmod 3) == 0, x4.Image, x4.Want, x4.Down, x4.Over, x4.Next, x4.Per, x4.Least, x4.Most, x4.Load, x4.Cool⟩ : VStewService))).set x0_2.toNat ((⟨x5.Name, x5.Version, x5.Gone, IntKind.i64.wrap ((IntKind.i64.wrap ((IntKind.i64.wrap (x0_1 + 1)) + 1)) + 1), x5.Want, x5.Down, x5.Over, x5.Next, x5.Per, x5.Least, x5.Most, x5.Load, x5.Cool⟩ : VStewService))).length : Int))) (Option.bind ((((x0_0.set x0_2.toNat (⟨r1, x2.Version, x2.Gone, x2.Image, x2.Want, x2.Down, x2.Over, x2.Next, x2.Per, x2.Least, x2.Most, x2.Load, x2.Cool⟩ : VStewService)).set x0_2.toNat ((⟨x3.Name, IntKind.i64.wrap (x0_1 + 1), x3.Gone, x3.Image, x3.Want, x3.Down, x3.Over, x3.Next, x3.Per, x3.Least, x3.Most, x3.Load, x3.Cool⟩ : VStewService))).set x0_2.toNat ((⟨x4.Name, x4.Version, ((IntKind.i64.wrap ((IntKind.i64.wrap (x0_1 + 1)) + 1)).tmod 3) == 0, x4.Image, x4.Want, x4.Down, x4.Over, x4.Next, x4.Per, x4.Least, x4.Most, x4.Load, x4.Cool⟩ : VStewService))).set x0_2.toNat ((⟨x5.Name, x5.Version, x5.Gone, IntKind.i64.wrap ((IntKind.i64.wrap ((IntKind.i64.wrap (x0_1 + 1)) + 1)) + 1), x5.Want, x5.Down, x5.Over, x5.Next, x5.Per, x5.Least, x5.Most, x5.Load, x5.Cool⟩ : VStewService)))[x0_2.toNat]? fun x6 => cond (decide (0 ≤ x0_2)) (cond (decide (x0_2 < ((((((x0_0.set x0_2.toNat (⟨r1, x2.Version, x2.Gone, x2.Image, x2.Want, x2.Down, x2.Over, x2.Next, x2.Per, x2.Least, x2.Most, x2.Load, x2.Cool⟩ : VStewService)).set x0_2.toNat ((⟨x3.Name, IntKind.i64.wrap (x0_1 + 1), x3.Gone, x3.Image, x3.Want, x3.Down, x3.Over, x3.Next, x3.Per, x3.Least, x3.Most, x3.Load, x3.Cool⟩ : VStewService))).set x0_2.toNat ((⟨x4.Name, x4.Version, ((IntKind.i64.wrap ((IntKind.i64.wrap (x0_1 + 1)) + 1)).tmod 3) == 0, x4.Image, x4.Want, x4.Down, x4.Over, x4.Next, x4.Per, x4.Least, x4.Most, x4.Load, x4.Cool⟩ : VStewService))).set x0_2.toNat ((⟨x5.Name, x5.Version, x5.Gone, IntKind.i64.wrap ((IntKind.i64.wrap ((IntKind.i64.wrap (x0_1 + 1)) + 1)) + 1), x5.Want, x5.Down, x5.Over, x5.Next, x5.Per, x5.Least, x5.Most, x5.Load, x5.Cool⟩ : VStewService))).set x0_2.toNat ((⟨x6.Name, x6.Version, x6.Gone, x6.Image, IntKind.i64.wrap ((IntKind.i64.wrap ((IntKind.i64.wrap ((IntKind.i64.wrap (x0_1 + 1)) + 1)) + 1)) + 1), x6.Down, x6.Over, x6.Next, x6.Per, x6.Least, x6.Most, x6.Load, x6.Cool⟩ : VStewService))).length : Int))) (Option.bind (((((x0_0.set x0_2.toNat (⟨r1, x2.Version, x2.Gone, x2.Image, x2.Want, x2.Down, x2.Over, x2.Next, x2.Per, x2.Least, x2.Most, x2.Load, x2.Cool⟩ : VStewService)).set x0_2.toNat ((⟨x3.Name, IntKind.i64.wrap (x0_1 + 1), x3.Gone, x3.Image, x3.Want, x3.Down, x3.Over, x3.Next, x3.Per, x3.Least, x3.Most, x3.Load, x3.Cool⟩ : VStewService))).set x0_2.toNat ((⟨x4.Name, x4.Version, ((IntKind.i64.wrap ((IntKind.i64.wrap (x0_1 + 1)) + 1)).tmod 3) == 0, x4.Image, x4.Want, x4.Down, x4.Over, x4.Next, x4.Per, x4.Least, x4.Most, x4.Load, x4.Cool⟩ : VStewService))).set x0_2.toNat ((⟨x5.Name, x5.Version, x5.Gone, IntKind.i64.wrap ((IntKind.i64.wrap ((IntKind.i64.wrap (x0_1 + 1)) + 1)) + 1), x5.Want, x5.Down, x5.Over, x5.Next, x5.Per, x5.Least, x5.Most, x5.Load, x5.Cool⟩ : VStewService))).set x0_2.toNat ((⟨x6.Name, x6.Version, x6.Gone, x6.Image, IntKind.i64.wrap ((IntKind.i64.wrap ((IntKind.i64.wrap ((IntKind.i64.wrap (x0_1 + 1)) + 1)) + 1)) + 1), x6.Down, x6.Over, x6.Next, x6.Per, x6.Least, x6.Most, x6.Load, x6.Cool⟩ : VStewService)))[x0_2.toNat]? fun x7 => cond (decide (0 ≤ x0_2)) (cond (decide (x0_2 < (((((((x0_0.set x0_2.toNat (⟨r1, x2.Version, x2.Gone, x2.Image, x2.Want, x2.Down, x2.Over, x2.Next, x2.Per, x2.Least, x2.Most, x2.Load, x2.Cool⟩ : VStewService)).set x0_2.toNat ((⟨x3.Name, IntKind.i64.wrap (x0_1 + 1), x3.Gone, x3.Image, x3.Want, x3.Down, x3.Over, x3.Next, x3.Per, x3.Least, x3.Most, x3.Load, x3.Cool⟩ : VStewService))).set x0_2.toNat ((⟨x4.Name, x4.Version, ((IntKind.i64.wrap ((IntKind.i64.wrap (x0_1 + 1)) + 1)).tmod 3) == 0, x4.Image, x4.Want, x4.Down, x4.Over, x4.Next, x4.Per, x4.Least, x4.Most, x4.Load, x4.Cool⟩ : VStewService))).set x0_2.toNat ((⟨x5.Name, x5.Version, x5.Gone, IntKind.i64.wrap ((IntKind.i64.wrap ((IntKind.i64.wrap (x0_1 + 1)) + 1)) + 1), x5.Want, x5.Down, x5.Over, x5.Next, x5.Per, x5.Least, x5.Most, x5.Load, x5.Cool⟩ : VStewService))).set x0_2.toNat ((⟨x6.Name, x6.Version, x6.Gone, x6.Image, IntKind.i64.wrap ((IntKind.i64.wrap ((IntKind.i64.wrap ((IntKind.i64.wrap (x0_1 + 1)) + 1)) + 1)) + 1), x6.Down, x6.Over, x6.Next, x6.Per, x6.Least, x6.Most, x6.Load, x6.Cool⟩ : VStewService))).set x0_2.toNat ((⟨x7.Name, x7.Version, x7.Gone, x7.Image, x7.Want, IntKind.i64.wrap ((IntKind.i64.wrap ((IntKind.i64.wrap ((IntKind.i64.wrap ((IntKind.i64.wrap (x0_1 + 1)) + 1)) + 1)) + 1)) + 1), x7.Over, x7.Next, x7.Per, x7.Least, x7.Most, x7.Load, x7.Cool⟩ : VStewService))).length : Int))) (Option.bind ((((((x0_0.set x0_2.toNat (⟨r1, x2.Version, x2.Gone, x2.Image, x2.Want, x2.Down, x2.Over, x2.Next, x2.Per, x2.Least, x2.Most, x2.Load, x2.Cool⟩ : VStewService)).set x0_2.toNat ((⟨x3.Name, IntKind.i64.wrap (x0_1 + 1), x3.Gone, x3.Image, x3.Want, x3.Down, x3.Over, x3.Next, x3.Per, x3.Least, x3.Most, x3.Load, x3.Cool⟩ : VStewService))).set x0_2.toNat ((⟨x4.Name, x4.Version, ((IntKind.i64.wrap ((IntKind.i64.wrap (x0_1 + 1)) + 1)).tmod 3) == 0, x4.Image, x4.Want, x4.Down, x4.Over, x4.Next, x4.Per, x4.Least, x4.Most, x4.Load, x4.Cool⟩ : VStewService))).set x0_2.toNat ((⟨x5.Name, x5.Version, x5.Gone, IntKind.i64.wrap ((IntKind.i64.wrap ((IntKind.i64.wrap (x0_1 + 1)) + 1)) + 1), x5.Want, x5.Down, x5.Over, x5.Next, x5.Per, x5.Least, x5.Most, x5.Load, x5.Cool⟩ : VStewService))).set x0_2.toNat ((⟨x6.Name, x6.Version, x6.Gone, x6.Image, IntKind.i64.wrap ((IntKind.i64.wrap ((IntKind.i64.wrap ((IntKind.i64.wrap (x0_1 + 1)) + 1)) + 1)) + 1), x6.Down, x6.Over, x6.Next, x6.Per, x6.Least, x6.Most, x6.Load, x6.Cool⟩ : VStewService))).set x0_2.toNat ((⟨x7.Name, x7.Version, x7.Gone, x7.Image, x7.Want, IntKind.i64.wrap ((IntKind.i64.wrap ((IntKind.i64.wrap ((IntKind.i64.wrap ((IntKind.i64.wrap (x0_1 + 1)) + 1)) + 1)) + 1)) + 1), x7.Over, x7.Next, x7.Per, x7.Least, x7.Most, x7.Load, x7.Cool⟩ : VStewService)))[x0_2.toNat]? fun x8 => cond (decide (0 ≤ x0_2)) (cond (decide (x0_2 < ((((((((x0_0.set x0_2.toNat (⟨r1, x2.Version, x2.Gone, x2.Image, x2.Want, x2.Down, x2.Over, x2.Next, x2.Per, x2.Least, x2.Most, x2.Load, x2.Cool⟩ : VStewService)).set x0_2.toNat ((⟨x3.Name, IntKind.i64.wrap (x0_1 + 1), x3.Gone, x3.Image, x3.Want, x3.Down, x3.Over, x3.Next, x3.Per, x3.Least, x3.Most, x3.Load, x3.Cool⟩ : VStewService))).set x0_2.toNat ((⟨x4.Name, x4.Version, ((IntKind.i64.wrap ((IntKind.i64.wrap (x0_1 + 1)) + 1)).tmod 3) == 0, x4.Image, x4.Want, x4.Down, x4.Over, x4.Next, x4.Per, x4.Least, x4.Most, x4.Load, x4.Cool⟩ : VStewService))).set x0_2.toNat ((⟨x5.Name, x5.Version, x5.Gone, IntKind.i64.wrap ((IntKind.i64.wrap ((IntKind.i64.wrap (x0_1 + 1)) + 1)) + 1), x5.Want, x5.Down, x5.Over, x5.Next, x5.Per, x5.Least, x5.Most, x5.Load, x5.Cool⟩ : VStewService))).set x0_2.toNat ((⟨x6.Name, x6.Version, x6.Gone, x6.Image, IntKind.i64.wrap ((IntKind.i64.wrap ((IntKind.i64.wrap ((IntKind.i64.wrap (x0_1 + 1)) + 1)) + 1)) + 1), x6.Down, x6.Over, x6.Next, x6.Per, x6.Least, x6.Most, x6.Load, x6.Cool⟩ : VStewService))).set x0_2.toNat ((⟨x7.Name, x7.Version, x7.Gone, x7.Image, x7.Want, IntKind.i64.wrap ((IntKind.i64.wrap ((IntKind.i64.wrap ((IntKind.i64.wrap ((IntKind.i64.wrap (x0_1 + 1)) + 1)) + 1)) + 1)) + 1), x7.Over, x7.Next, x7.Per, x7.Least, x7.Most, x7.Load, x7.Cool⟩ : VStewService))).set x0_2.toNat ((⟨x8.Name, x8.Version, x8.Gone, x8.Image, x8.Want, x8.Down, IntKind.i64.wrap ((IntKind.i64.wrap ((IntKind.i64.wrap ((IntKind.i64.wrap ((IntKind.i64.wrap ((IntKind.i64.wrap (x0_1 + 1)) + 1)) + 1)) + 1)) + 1)) + 1), x8.Next, x8.Per, x8.Least, x8.Most, x8.Load, x8.Cool⟩ : VStewService))).length : Int))) (Option.bind (((((((x0_0.set x0_2.toNat (⟨r1, x2.Version, x2.Gone, x2.Image, x2.Want, x2.Down, x2.Over, x2.Next, x2.Per, x2.Least, x2.Most, x2.Load, x2.Cool⟩ : VStewService)).set x0_2.toNat ((⟨x3.Name, IntKind.i64.wrap (x0_1 + 1), x3.Gone, x3.Image, x3.Want, x3.Down, x3.Over, x3.Next, x3.Per, x3.Least, x3.Most, x3.Load, x3.Cool⟩ : VStewService))).set x0_2.toNat ((⟨x4.Name, x4.Version, ((IntKind.i64.wrap ((IntKind.i64.wrap (x0_1 + 1)) + 1)).tmod 3) == 0, x4.Image, x4.Want, x4.Down, x4.Over, x4.Next, x4.Per, x4.Least, x4.Most, x4.Load, x4.Cool⟩ : VStewService))).set x0_2.toNat ((⟨x5.Name, x5.Version, x5.Gone, IntKind.i64.wrap ((IntKind.i64.wrap ((IntKind.i64.wrap (x0_1 + 1)) + 1)) + 1), x5.Want, x5.Down, x5.Over, x5.Next, x5.Per, x5.Least, x5.Most, x5.Load, x5.Cool⟩ : VStewService))).set x0_2.toNat ((⟨x6.Name, x6.Version, x6.Gone, x6.Image, IntKind.i64.wrap ((IntKind.i64.wrap ((IntKind.i64.wrap ((IntKind.i64.wrap (x0_1 + 1)) + 1)) + 1)) + 1), x6.Down, x6.Over, x6.Next, x6.Per, x6.Least, x6.Most, x6.Load, x6.Cool⟩ : VStewService))).set x0_2.toNat ((⟨x7.Name, x7.Version, x7.Gone, x7.Image, x7.Want, IntKind.i64.wrap ((IntKind.i64.wrap ((IntKind.i64.wrap ((IntKind.i64.wrap ((IntKind.i64.wrap (x0_1 + 1)) + 1)) + 1)) + 1)) + 1), x7.Over, x7.Next, x7.Per, x7.Least, x7.Most, x7.Load, x7.Cool⟩ : VStewService))).set x0_2.toNat ((⟨x8.Name, x8.Version, x8.Gone, x8.Image, x8.Want, x8.Down, IntKind.i64.wrap ((IntKind.i64.wrap ((IntKind.i64.wrap ((IntKind.i64.wrap ((IntKind.i64.wrap ((IntKind.i64.wrap (x0_1 + 1)) + 1)) + 1)) + 1)) + 1)) + 1), x8.Next, x8.Per, x8.Least, x8.Most, x8.Load, x8.Cool⟩ : VStewService)))[x0_2.toNat]? fun x9 => cond (decide (0 ≤ x0_2)) (cond (decide (x0_2 < (((((((((x0_0.set x0_2.toNat (⟨r1, x2.Version, x2.Gone, x2.Image, x2.Want, x2.Down, x2.Over, x2.Next, x2.Per, x2.Least, x2.Most, x2.Load, x2.Cool⟩ : VStewService)).set x0_2.toNat ((⟨x3.Name, IntKind.i64.wrap (x0_1 + 1), x3.Gone, x3.Image, x3.Want, x3.Down, x3.Over, x3.Next, x3.Per, x3.Least, x3.Most, x3.Load, x3.Cool⟩ : VStewService))).set x0_2.toNat ((⟨x4.Name, x4.Version, ((IntKind.i64.wrap ((IntKind.i64.wrap (x0_1 + 1)) + 1)).tmod 3) == 0, x4.Image, x4.Want, x4.Down, x4.Over, x4.Next, x4.Per, x4.Least, x4.Most, x4.Load, x4.Cool⟩ : VStewService))).set x0_2.toNat ((⟨x5.Name, x5.Version, x5.Gone, IntKind.i64.wrap ((IntKind.i64.wrap ((IntKind.i64.wrap (x0_1 + 1)) + 1)) + 1), x5.Want, x5.Down, x5.Over, x5.Next, x5.Per, x5.Least, x5.Most, x5.Load, x5.Cool⟩ : VStewService))).set x0_2.toNat ((⟨x6.Name, x6.Version, x6.Gone, x6.Image, IntKind.i64.wrap ((IntKind.i64.wrap ((IntKind.i64.wrap ((IntKind.i64.wrap (x0_1 + 1)) + 1)) + 1)) + 1), x6.Down, x6.Over, x6.Next, x6.Per, x6.Least, x6.Most, x6.Load, x6.Cool⟩ : VStewService))).set x0_2.toNat ((⟨x7.Name, x7.Version, x7.Gone, x7.Image, x7.Want, IntKind.i64.wrap ((IntKind.i64.wrap ((IntKind.i64.wrap ((IntKind.i64.wrap ((IntKind.i64.wrap (x0_1 + 1)) + 1)) + 1)) + 1)) + 1), x7.Over, x7.Next, x7.Per, x7.Least, x7.Most, x7.Load, x7.Cool⟩ : VStewService))).set x0_2.toNat ((⟨x8.Name, x8.Version, x8.Gone, x8.Image, x8.Want, x8.Down, IntKind.i64.wrap ((IntKind.i64.wrap ((IntKind.i64.wrap ((IntKind.i64.wrap ((IntKind.i64.wrap ((IntKind.i64.wrap (x0_1 + 1)) + 1)) + 1)) + 1)) + 1)) + 1), x8.Next, x8.Per, x8.Least, x8.Most, x8.Load, x8.Cool⟩ : VStewService))).set x0_2.toNat ((⟨x9.Name, x9.Version, x9.Gone, x9.Image, x9.Want, x9.Down, x9.Over, IntKind.i64.wrap ((IntKind.i64.wrap ((IntKind.i64.wrap ((IntKind.i64.wrap ((IntKind.i64.wrap ((IntKind.i64.wrap ((IntKind.i64.wrap (x0_1 + 1)) + 1)) + 1)) + 1)) + 1)) + 1)) + 1), x9.Per, x9.Least, x9.Most, x9.Load, x9.Cool⟩ : VStewService))).length : Int))) (Option.bind ((((((((x0_0.set x0_2.toNat (⟨r1, x2.Version, x2.Gone, x2.Image, x2.Want, x2.Down, x2.Over, x2.Next, x2.Per, x2.Least, x2.Most, x2.Load, x2.Cool⟩ : VStewService)).set x0_2.toNat ((⟨x3.Name, IntKind.i64.wrap (x0_1 + 1), x3.Gone, x3.Image, x3.Want, x3.Down, x3.Over, x3.Next, x3.Per, x3.Least, x3.Most, x3.Load, x3.Cool⟩ : VStewService))).set x0_2.toNat ((⟨x4.Name, x4.Version, ((IntKind.i64.wrap ((IntKind.i64.wrap (x0_1 + 1)) + 1)).tmod 3) == 0, x4.Image, x4.Want, x4.Down, x4.Over, x4.Next, x4.Per, x4.Least, x4.Most, x4.Load, x4.Cool⟩ : VStewService))).set x0_2.toNat ((⟨x5.Name, x5.Version, x5.Gone, IntKind.i64.wrap ((IntKind.i64.wrap ((IntKind.i64.wrap (x0_1 + 1)) + 1)) + 1), x5.Want, x5.Down, x5.Over, x5.Next, x5.Per, x5.Least, x5.Most, x5.Load, x5.Cool⟩ : VStewService))).set x0_2.toNat ((⟨x6.Name, x6.Version, x6.Gone, x6.Image, IntKind.i64.wrap ((IntKind.i64.wrap ((IntKind.i64.wrap ((IntKind.i64.wrap (x0_1 + 1)) + 1)) + 1)) + 1), x6.Down, x6.Over, x6.Next, x6.Per, x6.Least, x6.Most, x6.Load, x6.Cool⟩ : VStewService))).set x0_2.toNat ((⟨x7.Name, x7.Version, x7.Gone, x7.Image, x7.Want, IntKind.i64.wrap ((IntKind.i64.wrap ((IntKind.i64.wrap ((IntKind.i64.wrap ((IntKind.i64.wrap (x0_1 + 1)) + 1)) + 1)) + 1)) + 1), x7.Over, x7.Next, x7.Per, x7.Least, x7.Most, x7.Load, x7.Cool⟩ : VStewService))).set x0_2.toNat ((⟨x8.Name, x8.Version, x8.Gone, x8.Image, x8.Want, x8.Down, IntKind.i64.wrap ((IntKind.i64.wrap ((IntKind.i64.wrap ((IntKind.i64.wrap ((IntKind.i64.wrap ((IntKind.i64.wrap (x0_1 + 1)) + 1)) + 1)) + 1)) + 1)) + 1), x8.Next, x8.Per, x8.Least, x8.Most, x8.Load, x8.Cool⟩ : VStewService))).set x0_2.toNat ((⟨x9.Name, x9.Version, x9.Gone, x9.Image, x9.Want, x9.Down, x9.Over, IntKind.i64.wrap ((IntKind.i64.wrap ((IntKind.i64.wrap ((IntKind.i64.wrap ((IntKind.i64.wrap ((IntKind.i64.wrap ((IntKind.i64.wrap (x0_1 + 1)) + 1)) + 1)) + 1)) + 1)) + 1)) + 1), x9.Per, x9.Least, x9.Most, x9.Load, x9.Cool⟩ : VStewService)))[x0_2.toNat]? fun x10 => cond (decide (0 ≤ x0_2)) (cond (decide (x0_2 < ((((((((((x0_0.set x0_2.toNat (⟨r1, x2.Version, x2.Gone, x2.Image, x2.Want, x2.Down, x2.Over, x2.Next, x2.Per, x2.Least, x2.Most, x2.Load, x2.Cool⟩ : VStewService)).set x0_2.toNat ((⟨x3.Name, IntKind.i64.wrap (x0_1 + 1), x3.Gone, x3.Image, x3.Want, x3.Down, x3.Over, x3.Next, x3.Per, x3.Least, x3.Most, x3.Load, x3.Cool⟩ : VStewService))).set x0_2.toNat ((⟨x4.Name, x4.Version, ((IntKind.i64.wrap ((IntKind.i64.wrap (x0_1 + 1)) + 1)).tmod 3) == 0, x4.Image, x4.Want, x4.Down, x4.Over, x4.Next, x4.Per, x4.Least, x4.Most, x4.Load, x4.Cool⟩ : VStewService))).set x0_2.toNat ((⟨x5.Name, x5.Version, x5.Gone, IntKind.i64.wrap ((IntKind.i64.wrap ((IntKind.i64.wrap (x0_1 + 1)) + 1)) + 1), x5.Want, x5.Down, x5.Over, x5.Next, x5.Per, x5.Least, x5.Most, x5.Load, x5.Cool⟩ : VStewService))).set x0_2.toNat ((⟨x6.Name, x6.Version, x6.Gone, x6.Image, IntKind.i64.wrap ((IntKind.i64.wrap ((IntKind.i64.wrap ((IntKind.i64.wrap (x0_1 + 1)) + 1)) + 1)) + 1), x6.Down, x6.Over, x6.Next, x6.Per, x6.Least, x6.Most, x6.Load, x6.Cool⟩ : VStewService))).set x0_2.toNat ((⟨x7.Name, x7.Version, x7.Gone, x7.Image, x7.Want, IntKind.i64.wrap ((IntKind.i64.wrap ((IntKind.i64.wrap ((IntKind.i64.wrap ((IntKind.i64.wrap (x0_1 + 1)) + 1)) + 1)) + 1)) + 1), x7.Over, x7.Next, x7.Per, x7.Least, x7.Most, x7.Load, x7.Cool⟩ : VStewService))).set x0_2.toNat ((⟨x8.Name, x8.Version, x8.Gone, x8.Image, x8.Want, x8.Down, IntKind.i64.wrap ((IntKind.i64.wrap ((IntKind.i64.wrap ((IntKind.i64.wrap ((IntKind.i64.wrap ((IntKind.i64.wrap (x0_1 + 1)) + 1)) + 1)) + 1)) + 1)) + 1), x8.Next, x8.Per, x8.Least, x8.Most, x8.Load, x8.Cool⟩ : VStewService))).set x0_2.toNat ((⟨x9.Name, x9.Version, x9.Gone, x9.Image, x9.Want, x9.Down, x9.Over, IntKind.i64.wrap ((IntKind.i64.wrap ((IntKind.i64.wrap ((IntKind.i64.wrap ((IntKind.i64.wrap ((IntKind.i64.wrap ((IntKind.i64.wrap (x0_1 + 1)) + 1)) + 1)) + 1)) + 1)) + 1)) + 1), x9.Per, x9.Least, x9.Most, x9.Load, x9.Cool⟩ : VStewService))).set x0_2.toNat ((⟨x10.Name, x10.Version, x10.Gone, x10.Image, x10.Want, x10.Down, x10.Over, x10.Next, IntKind.i64.wrap ((IntKind.i64.wrap ((IntKind.i64.wrap ((IntKind.i64.wrap ((IntKind.i64.wrap ((IntKind.i64.wrap ((IntKind.i64.wrap ((IntKind.i64.wrap (x0_1 + 1)) + 1)) + 1)) + 1)) + 1)) + 1)) + 1)) + 1), x10.Least, x10.Most, x10.Load, x10.Cool⟩ : VStewService))).length : Int))) (Option.bind (((((((((x0_0.set x0_2.toNat (⟨r1, x2.Version, x2.Gone, x2.Image, x2.Want, x2.Down, x2.Over, x2.Next, x2.Per, x2.Least, x2.Most, x2.Load, x2.Cool⟩ : VStewService)).set x0_2.toNat ((⟨x3.Name, IntKind.i64.wrap (x0_1 + 1), x3.Gone, x3.Image, x3.Want, x3.Down, x3.Over, x3.Next, x3.Per, x3.Least, x3.Most, x3.Load, x3.Cool⟩ : VStewService))).set x0_2.toNat ((⟨x4.Name, x4.Version, ((IntKind.i64.wrap ((IntKind.i64.wrap (x0_1 + 1)) + 1)).tmod 3) == 0, x4.Image, x4.Want, x4.Down, x4.Over, x4.Next, x4.Per, x4.Least, x4.Most, x4.Load, x4.Cool⟩ : VStewService))).set x0_2.toNat ((⟨x5.Name, x5.Version, x5.Gone, IntKind.i64.wrap ((IntKind.i64.wrap ((IntKind.i64.wrap (x0_1 + 1)) + 1)) + 1), x5.Want, x5.Down, x5.Over, x5.Next, x5.Per, x5.Least, x5.Most, x5.Load, x5.Cool⟩ : VStewService))).set x0_2.toNat ((⟨x6.Name, x6.Version, x6.Gone, x6.Image, IntKind.i64.wrap ((IntKind.i64.wrap ((IntKind.i64.wrap ((IntKind.i64.wrap (x0_1 + 1)) + 1)) + 1)) + 1), x6.Down, x6.Over, x6.Next, x6.Per, x6.Least, x6.Most, x6.Load, x6.Cool⟩ : VStewService))).set x0_2.toNat ((⟨x7.Name, x7.Version, x7.Gone, x7.Image, x7.Want, IntKind.i64.wrap ((IntKind.i64.wrap ((IntKind.i64.wrap ((IntKind.i64.wrap ((IntKind.i64.wrap (x0_1 + 1)) + 1)) + 1)) + 1)) + 1), x7.Over, x7.Next, x7.Per, x7.Least, x7.Most, x7.Load, x7.Cool⟩ : VStewService))).set x0_2.toNat ((⟨x8.Name, x8.Version, x8.Gone, x8.Image, x8.Want, x8.Down, IntKind.i64.wrap ((IntKind.i64.wrap ((IntKind.i64.wrap ((IntKind.i64.wrap ((IntKind.i64.wrap ((IntKind.i64.wrap (x0_1 + 1)) + 1)) + 1)) + 1)) + 1)) + 1), x8.Next, x8.Per, x8.Least, x8.Most, x8.Load, x8.Cool⟩ : VStewService))).set x0_2.toNat ((⟨x9.Name, x9.Version, x9.Gone, x9.Image, x9.Want, x9.Down, x9.Over, IntKind.i64.wrap ((IntKind.i64.wrap ((IntKind.i64.wrap ((IntKind.i64.wrap ((IntKind.i64.wrap ((IntKind.i64.wrap ((IntKind.i64.wrap (x0_1 + 1)) + 1)) + 1)) + 1)) + 1)) + 1)) + 1), x9.Per, x9.Least, x9.Most, x9.Load, x9.Cool⟩ : VStewService))).set x0_2.toNat ((⟨x10.Name, x10.Version, x10.Gone, x10.Image, x10.Want, x10.Down, x10.Over, x10.Next, IntKind.i64.wrap ((IntKind.i64.wrap ((IntKind.i64.wrap ((IntKind.i64.wrap ((IntKind.i64.wrap ((IntKind.i64.wrap ((IntKind.i64.wrap ((IntKind.i64.wrap (x0_1 + 1)) + 1)) + 1)) + 1)) + 1)) + 1)) + 1)) + 1), x10.Least, x10.Most, x10.Load, x10.Cool⟩ : VStewService)))[x0_2.toNat]? fun x11 => cond (decide (0 ≤ x0_2)) (cond (decide (x0_2 < (((((((((((x0_0.set x0_2.toNat (⟨r1, x2.Version, x2.Gone, x2.Image, x2.Want, x2.Down, x2.Over, x2.Next, x2.Per, x2.Least, x2.Most, x2.Load, x2.Cool⟩ : VStewService)).set x0_2.toNat ((⟨x3.Name, IntKind.i64.wrap (x0_1 + 1), x3.Gone, x3.Image, x3.Want, x3.Down, x3.Over, x3.Next, x3.Per, x3.Least, x3.Most, x3.Load, x3.Cool⟩ : VStewService))).set x0_2.toNat ((⟨x4.Name, x4.Version, ((IntKind.i64.wrap ((IntKind.i64.wrap (x0_1 + 1)) + 1)).tmod 3) == 0, x4.Image, x4.Want, x4.Down, x4.Over, x4.Next, x4.Per, x4.Least, x4.Most, x4.Load, x4.Cool⟩ : VStewService))).set x0_2.toNat ((⟨x5.Name, x5.Version, x5.Gone, IntKind.i64.wrap ((IntKind.i64.wrap ((IntKind.i64.wrap (x0_1 + 1)) + 1)) + 1), x5.Want, x5.Down, x5.Over, x5.Next, x5.Per, x5.Least, x5.Most, x5.Load, x5.Cool⟩ : VStewService))).set x0_2.toNat ((⟨x6.Name, x6.Version, x6.Gone, x6.Image, IntKind.i64.wrap ((IntKind.i64.wrap ((IntKind.i64.wrap ((IntKind.i64.wrap (x0_1 + 1)) + 1)) + 1)) + 1), x6.Down, x6.Over, x6.Next, x6.Per, x6.Least, x6.Most, x6.Load, x6.Cool⟩ : VStewService))).set x0_2.toNat ((⟨x7.Name, x7.Version, x7.Gone, x7.Image, x7.Want, IntKind.i64.wrap ((IntKind.i64.wrap ((IntKind.i64.wrap ((IntKind.i64.wrap ((IntKind.i64.wrap (x0_1 + 1)) + 1)) + 1)) + 1)) + 1), x7.Over, x7.Next, x7.Per, x7.Least, x7.Most, x7.Load, x7.Cool⟩ : VStewService))).set x0_2.toNat ((⟨x8.Name, x8.Version, x8.Gone, x8.Image, x8.Want, x8.Down, IntKind.i64.wrap ((IntKind.i64.wrap ((IntKind.i64.wrap ((IntKind.i64.wrap ((IntKind.i64.wrap ((IntKind.i64.wrap (x0_1 + 1)) + 1)) + 1)) + 1)) + 1)) + 1), x8.Next, x8.Per, x8.Least, x8.Most, x8.Load, x8.Cool⟩ : VStewService))).set x0_2.toNat ((⟨x9.Name, x9.Version, x9.Gone, x9.Image, x9.Want, x9.Down, x9.Over, IntKind.i64.wrap ((IntKind.i64.wrap ((IntKind.i64.wrap ((IntKind.i64.wrap ((IntKind.i64.wrap ((IntKind.i64.wrap ((IntKind.i64.wrap (x0_1 + 1)) + 1)) + 1)) + 1)) + 1)) + 1)) + 1), x9.Per, x9.Least, x9.Most, x9.Load, x9.Cool⟩ : VStewService))).set x0_2.toNat ((⟨x10.Name, x10.Version, x10.Gone, x10.Image, x10.Want, x10.Down, x10.Over, x10.Next, IntKind.i64.wrap ((IntKind.i64.wrap ((IntKind.i64.wrap ((IntKind.i64.wrap ((IntKind.i64.wrap ((IntKind.i64.wrap ((IntKind.i64.wrap ((IntKind.i64.wrap (x0_1 + 1)) + 1)) + 1)) + 1)) + 1)) + 1)) + 1)) + 1), x10.Least, x10.Most, x10.Load, x10.Cool⟩ : VStewService))).set x0_2.toNat ((⟨x11.Name, x11.Version, x11.Gone, x11.Image, x11.Want, x11.Down, x11.Over, x11.Next, x11.Per, IntKind.i64.wrap ((IntKind.i64.wrap ((IntKind.i64.wrap ((IntKind.i64.wrap ((IntKind.i64.wrap ((IntKind.i64.wrap ((IntKind.i64.wrap ((IntKind.i64.wrap ((IntKind.i64.wrap (x0_1 + 1)) + 1)) + 1)) + 1)) + 1)) + 1)) + 1)) + 1)) + 1), x11.Most, x11.Load, x11.Cool⟩ : VStewService))).length : Int))) (Option.bind ((((((((((x0_0.set x0_2.toNat (⟨r1, x2.Version, x2.Gone, x2.Image, x2.Want, x2.Down, x2.Over, x2.Next, x2.Per, x2.Least, x2.Most, x2.Load, x2.Cool⟩ : VStewService)).set x0_2.toNat ((⟨x3.Name, IntKind.i64.wrap (x0_1 + 1), x3.Gone, x3.Image, x3.Want, x3.Down, x3.Over, x3.Next, x3.Per, x3.Least, x3.Most, x3.Load, x3.Cool⟩ : VStewService))).set x0_2.toNat ((⟨x4.Name, x4.Version, ((IntKind.i64.wrap ((IntKind.i64.wrap (x0_1 + 1)) + 1)).tmod 3) == 0, x4.Image, x4.Want, x4.Down, x4.Over, x4.Next, x4.Per, x4.Least, x4.Most, x4.Load, x4.Cool⟩ : VStewService))).set x0_2.toNat ((⟨x5.Name, x5.Version, x5.Gone, IntKind.i64.wrap ((IntKind.i64.wrap ((IntKind.i64.wrap (x0_1 + 1)) + 1)) + 1), x5.Want, x5.Down, x5.Over, x5.Next, x5.Per, x5.Least, x5.Most, x5.Load, x5.Cool⟩ : VStewService))).set x0_2.toNat ((⟨x6.Name, x6.Version, x6.Gone, x6.Image, IntKind.i64.wrap ((IntKind.i64.wrap ((IntKind.i64.wrap ((IntKind.i64.wrap (x0_1 + 1)) + 1)) + 1)) + 1), x6.Down, x6.Over, x6.Next, x6.Per, x6.Least, x6.Most, x6.Load, x6.Cool⟩ : VStewService))).set x0_2.toNat ((⟨x7.Name, x7.Version, x7.Gone, x7.Image, x7.Want, IntKind.i64.wrap ((IntKind.i64.wrap ((IntKind.i64.wrap ((IntKind.i64.wrap ((IntKind.i64.wrap (x0_1 + 1)) + 1)) + 1)) + 1)) + 1), x7.Over, x7.Next, x7.Per, x7.Least, x7.Most, x7.Load, x7.Cool⟩ : VStewService))).set x0_2.toNat ((⟨x8.Name, x8.Version, x8.Gone, x8.Image, x8.Want, x8.Down, IntKind.i64.wrap ((IntKind.i64.wrap ((IntKind.i64.wrap ((IntKind.i64.wrap ((IntKind.i64.wrap ((IntKind.i64.wrap (x0_1 + 1)) + 1)) + 1)) + 1)) + 1)) + 1), x8.Next, x8.Per, x8.Least, x8.Most, x8.Load, x8.Cool⟩ : VStewService))).set x0_2.toNat ((⟨x9.Name, x9.Version, x9.Gone, x9.Image, x9.Want, x9.Down, x9.Over, IntKind.i64.wrap ((IntKind.i64.wrap ((IntKind.i64.wrap ((IntKind.i64.wrap ((IntKind.i64.wrap ((IntKind.i64.wrap ((IntKind.i64.wrap (x0_1 + 1)) + 1)) + 1)) + 1)) + 1)) + 1)) + 1), x9.Per, x9.Least, x9.Most, x9.Load, x9.Cool⟩ : VStewService))).set x0_2.toNat ((⟨x10.Name, x10.Version, x10.Gone, x10.Image, x10.Want, x10.Down, x10.Over, x10.Next, IntKind.i64.wrap ((IntKind.i64.wrap ((IntKind.i64.wrap ((IntKind.i64.wrap ((IntKind.i64.wrap ((IntKind.i64.wrap ((IntKind.i64.wrap ((IntKind.i64.wrap (x0_1 + 1)) + 1)) + 1)) + 1)) + 1)) + 1)) + 1)) + 1), x10.Least, x10.Most, x10.Load, x10.Cool⟩ : VStewService))).set x0_2.toNat ((⟨x11.Name, x11.Version, x11.Gone, x11.Image, x11.Want, x11.Down, x11.Over, x11.Next, x11.Per, IntKind.i64.wrap ((IntKind.i64.wrap ((IntKind.i64.wrap ((IntKind.i64.wrap ((IntKind.i64.wrap ((IntKind.i64.wrap ((IntKind.i64.wrap ((IntKind.i64.wrap ((IntKind.i64.wrap (x0_1 + 1)) + 1)) + 1)) + 1)) + 1)) + 1)) + 1)) + 1)) + 1), x11.Most, x11.Load, x11.Cool⟩ : VStewService)))[x0_2.toNat]? fun x12 => cond (decide (0 ≤ x0_2)) (cond (decide (x0_2 < ((((((((((((x0_0.set x0_2.toNat (⟨r1, x2.Version, x2.Gone, x2.Image, x2.Want, x2.Down, x2.Over, x2.Next, x2.Per, x2.Least, x2.Most, x2.Load, x2.Cool⟩ : VStewService)).set x0_2.toNat ((⟨x3.Name, IntKind.i64.wrap (x0_1 + 1), x3.Gone, x3.Image, x3.Want, x3.Down, x3.Over, x3.Next, x3.Per, x3.Least, x3.Most, x3.Load, x3.Cool⟩ : VStewService))).set x0_2.toNat ((⟨x4.Name, x4.Version, ((IntKind.i64.wrap ((IntKind.i64.wrap (x0_1 + 1)) + 1)).tmod 3) == 0, x4.Image, x4.Want, x4.Down, x4.Over, x4.Next, x4.Per, x4.Least, x4.Most, x4.Load, x4.Cool⟩ : VStewService))).set x0_2.toNat ((⟨x5.Name, x5.Version, x5.Gone, IntKind.i64.wrap ((IntKind.i64.wrap ((IntKind.i64.wrap (x0_1 + 1)) + 1)) + 1), x5.Want, x5.Down, x5.Over, x5.Next, x5.Per, x5.Least, x5.Most, x5.Load, x5.Cool⟩ : VStewService))).set x0_2.toNat ((⟨x6.Name, x6.Version, x6.Gone, x6.Image, IntKind.i64.wrap ((IntKind.i64.wrap ((IntKind.i64.wrap ((IntKind.i64.wrap (x0_1 + 1)) + 1)) + 1)) + 1), x6.Down, x6.Over, x6.Next, x6.Per, x6.Least, x6.Most, x6.Load, x6.Cool⟩ : VStewService))).set x0_2.toNat ((⟨x7.Name, x7.Version, x7.Gone, x7.Image, x7.Want, IntKind.i64.wrap ((IntKind.i64.wrap ((IntKind.i64.wrap ((IntKind.i64.wrap ((IntKind.i64.wrap (x0_1 + 1)) + 1)) + 1)) + 1)) + 1), x7.Over, x7.Next, x7.Per, x7.Least, x7.Most, x7.Load, x7.Cool⟩ : VStewService))).set x0_2.toNat ((⟨x8.Name, x8.Version, x8.Gone, x8.Image, x8.Want, x8.Down, IntKind.i64.wrap ((IntKind.i64.wrap ((IntKind.i64.wrap ((IntKind.i64.wrap ((IntKind.i64.wrap ((IntKind.i64.wrap (x0_1 + 1)) + 1)) + 1)) + 1)) + 1)) + 1), x8.Next, x8.Per, x8.Least, x8.Most, x8.Load, x8.Cool⟩ : VStewService))).set x0_2.toNat ((⟨x9.Name, x9.Version, x9.Gone, x9.Image, x9.Want, x9.Down, x9.Over, IntKind.i64.wrap ((IntKind.i64.wrap ((IntKind.i64.wrap ((IntKind.i64.wrap ((IntKind.i64.wrap ((IntKind.i64.wrap ((IntKind.i64.wrap (x0_1 + 1)) + 1)) + 1)) + 1)) + 1)) + 1)) + 1), x9.Per, x9.Least, x9.Most, x9.Load, x9.Cool⟩ : VStewService))).set x0_2.toNat ((⟨x10.Name, x10.Version, x10.Gone, x10.Image, x10.Want, x10.Down, x10.Over, x10.Next, IntKind.i64.wrap ((IntKind.i64.wrap ((IntKind.i64.wrap ((IntKind.i64.wrap ((IntKind.i64.wrap ((IntKind.i64.wrap ((IntKind.i64.wrap ((IntKind.i64.wrap (x0_1 + 1)) + 1)) + 1)) + 1)) + 1)) + 1)) + 1)) + 1), x10.Least, x10.Most, x10.Load, x10.Cool⟩ : VStewService))).set x0_2.toNat ((⟨x11.Name, x11.Version, x11.Gone, x11.Image, x11.Want, x11.Down, x11.Over, x11.Next, x11.Per, IntKind.i64.wrap ((IntKind.i64.wrap ((IntKind.i64.wrap ((IntKind.i64.wrap ((IntKind.i64.wrap ((IntKind.i64.wrap ((IntKind.i64.wrap ((IntKind.i64.wrap ((IntKind.i64.wrap (x0_1 + 1)) + 1)) + 1)) + 1)) + 1)) + 1)) + 1)) + 1)) + 1), x11.Most, x11.Load, x11.Cool⟩ : VStewService))).set x0_2.toNat ((⟨x12.Name, x12.Version, x12.Gone, x12.Image, x12.Want, x12.Down, x12.Over, x12.Next, x12.Per, x12.Least, IntKind.i64.wrap ((IntKind.i64.wrap ((IntKind.i64.wrap ((IntKind.i64.wrap ((IntKind.i64.wrap ((IntKind.i64.wrap ((IntKind.i64.wrap ((IntKind.i64.wrap ((IntKind.i64.wrap ((IntKind.i64.wrap (x0_1 + 1)) + 1)) + 1)) + 1)) + 1)) + 1)) + 1)) + 1)) + 1)) + 1), x12.Load, x12.Cool⟩ : VStewService))).length : Int))) (Option.bind (((((((((((x0_0.set x0_2.toNat (⟨r1, x2.Version, x2.Gone, x2.Image, x2.Want, x2.Down, x2.Over, x2.Next, x2.Per, x2.Least, x2.Most, x2.Load, x2.Cool⟩ : VStewService)).set x0_2.toNat ((⟨x3.Name, IntKind.i64.wrap (x0_1 + 1), x3.Gone, x3.Image, x3.Want, x3.Down, x3.Over, x3.Next, x3.Per, x3.Least, x3.Most, x3.Load, x3.Cool⟩ : VStewService))).set x0_2.toNat ((⟨x4.Name, x4.Version, ((IntKind.i64.wrap ((IntKind.i64.wrap (x0_1 + 1)) + 1)).tmod 3) == 0, x4.Image, x4.Want, x4.Down, x4.Over, x4.Next, x4.Per, x4.Least, x4.Most, x4.Load, x4.Cool⟩ : VStewService))).set x0_2.toNat ((⟨x5.Name, x5.Version, x5.Gone, IntKind.i64.wrap ((IntKind.i64.wrap ((IntKind.i64.wrap (x0_1 + 1)) + 1)) + 1), x5.Want, x5.Down, x5.Over, x5.Next, x5.Per, x5.Least, x5.Most, x5.Load, x5.Cool⟩ : VStewService))).set x0_2.toNat ((⟨x6.Name, x6.Version, x6.Gone, x6.Image, IntKind.i64.wrap ((IntKind.i64.wrap ((IntKind.i64.wrap ((IntKind.i64.wrap (x0_1 + 1)) + 1)) + 1)) + 1), x6.Down, x6.Over, x6.Next, x6.Per, x6.Least, x6.Most, x6.Load, x6.Cool⟩ : VStewService))).set x0_2.toNat ((⟨x7.Name, x7.Version, x7.Gone, x7.Image, x7.Want, IntKind.i64.wrap ((IntKind.i64.wrap ((IntKind.i64.wrap ((IntKind.i64.wrap ((IntKind.i64.wrap (x0_1 + 1)) + 1)) + 1)) + 1)) + 1), x7.Over, x7.Next, x7.Per, x7.Least, x7.Most, x7.Load, x7.Cool⟩ : VStewService))).set x0_2.toNat ((⟨x8.Name, x8.Version, x8.Gone, x8.Image, x8.Want, x8.Down, IntKind.i64.wrap ((IntKind.i64.wrap ((IntKind.i64.wrap ((IntKind.i64.wrap ((IntKind.i64.wrap ((IntKind.i64.wrap (x0_1 + 1)) + 1)) + 1)) + 1)) + 1)) + 1), x8.Next, x8.Per, x8.Least, x8.Most, x8.Load, x8.Cool⟩ : VStewService))).set x0_2.toNat ((⟨x9.Name, x9.Version, x9.Gone, x9.Image, x9.Want, x9.Down, x9.Over, IntKind.i64.wrap ((IntKind.i64.wrap ((IntKind.i64.wrap ((IntKind.i64.wrap ((IntKind.i64.wrap ((IntKind.i64.wrap ((IntKind.i64.wrap (x0_1 + 1)) + 1)) + 1)) + 1)) + 1)) + 1)) + 1), x9.Per, x9.Least, x9.Most, x9.Load, x9.Cool⟩ : VStewService))).set x0_2.toNat ((⟨x10.Name, x10.Version, x10.Gone, x10.Image, x10.Want, x10.Down, x10.Over, x10.Next, IntKind.i64.wrap ((IntKind.i64.wrap ((IntKind.i64.wrap ((IntKind.i64.wrap ((IntKind.i64.wrap ((IntKind.i64.wrap ((IntKind.i64.wrap ((IntKind.i64.wrap (x0_1 + 1)) + 1)) + 1)) + 1)) + 1)) + 1)) + 1)) + 1), x10.Least, x10.Most, x10.Load, x10.Cool⟩ : VStewService))).set x0_2.toNat ((⟨x11.Name, x11.Version, x11.Gone, x11.Image, x11.Want, x11.Down, x11.Over, x11.Next, x11.Per, IntKind.i64.wrap ((IntKind.i64.wrap ((IntKind.i64.wrap ((IntKind.i64.wrap ((IntKind.i64.wrap ((IntKind.i64.wrap ((IntKind.i64.wrap ((IntKind.i64.wrap ((IntKind.i64.wrap (x0_1 + 1)) + 1)) + 1)) + 1)) + 1)) + 1)) + 1)) + 1)) + 1), x11.Most, x11.Load, x11.Cool⟩ : VStewService))).set x0_2.toNat ((⟨x12.Name, x12.Version, x12.Gone, x12.Image, x12.Want, x12.Down, x12.Over, x12.Next, x12.Per, x12.Least, IntKind.i64.wrap ((IntKind.i64.wrap ((IntKind.i64.wrap ((IntKind.i64.wrap ((IntKind.i64.wrap ((IntKind.i64.wrap ((IntKind.i64.wrap ((IntKind.i64.wrap ((IntKind.i64.wrap ((IntKind.i64.wrap (x0_1 + 1)) + 1)) + 1)) + 1)) + 1)) + 1)) + 1)) + 1)) + 1)) + 1), x12.Load, x12.Cool⟩ : VStewService)))[x0_2.toNat]? fun x13 => cond (decide (0 ≤ x0_2)) (cond (decide (x0_2 < (((((((((((((x0_0.set x0_2.toNat (⟨r1, x2.Version, x2.Gone, x2.Image, x2.Want, x2.Down, x2.Over, x2.Next, x2.Per, x2.Least, x2.Most, x2.Load, x2.Cool⟩ : VStewService)).set x0_2.toNat ((⟨x3.Name, IntKind.i64.wrap (x0_1 + 1), x3.Gone, x3.Image, x3.Want, x3.Down, x3.Over, x3.Next, x3.Per, x3.Least, x3.Most, x3.Load, x3.Cool⟩ : VStewService))).set x0_2.toNat ((⟨x4.Name, x4.Version, ((IntKind.i64.wrap ((IntKind.i64.wrap (x0_1 + 1)) + 1)).tmod 3) == 0, x4.Image, x4.Want, x4.Down, x4.Over, x4.Next, x4.Per, x4.Least, x4.Most, x4.Load, x4.Cool⟩ : VStewService))).set x0_2.toNat ((⟨x5.Name, x5.Version, x5.Gone, IntKind.i64.wrap ((IntKind.i64.wrap ((IntKind.i64.wrap (x0_1 + 1)) + 1)) + 1), x5.Want, x5.Down, x5.Over, x5.Next, x5.Per, x5.Least, x5.Most, x5.Load, x5.Cool⟩ : VStewService))).set x0_2.toNat ((⟨x6.Name, x6.Version, x6.Gone, x6.Image, IntKind.i64.wrap ((IntKind.i64.wrap ((IntKind.i64.wrap ((IntKind.i64.wrap (x0_1 + 1)) + 1)) + 1)) + 1), x6.Down, x6.Over, x6.Next, x6.Per, x6.Least, x6.Most, x6.Load, x6.Cool⟩ : VStewService))).set x0_2.toNat ((⟨x7.Name, x7.Version, x7.Gone, x7.Image, x7.Want, IntKind.i64.wrap ((IntKind.i64.wrap ((IntKind.i64.wrap ((IntKind.i64.wrap ((IntKind.i64.wrap (x0_1 + 1)) + 1)) + 1)) + 1)) + 1), x7.Over, x7.Next, x7.Per, x7.Least, x7.Most, x7.Load, x7.Cool⟩ : VStewService))).set x0_2.toNat ((⟨x8.Name, x8.Version, x8.Gone, x8.Image, x8.Want, x8.Down, IntKind.i64.wrap ((IntKind.i64.wrap ((IntKind.i64.wrap ((IntKind.i64.wrap ((IntKind.i64.wrap ((IntKind.i64.wrap (x0_1 + 1)) + 1)) + 1)) + 1)) + 1)) + 1), x8.Next, x8.Per, x8.Least, x8.Most, x8.Load, x8.Cool⟩ : VStewService))).set x0_2.toNat ((⟨x9.Name, x9.Version, x9.Gone, x9.Image, x9.Want, x9.Down, x9.Over, IntKind.i64.wrap ((IntKind.i64.wrap ((IntKind.i64.wrap ((IntKind.i64.wrap ((IntKind.i64.wrap ((IntKind.i64.wrap ((IntKind.i64.wrap (x0_1 + 1)) + 1)) + 1)) + 1)) + 1)) + 1)) + 1), x9.Per, x9.Least, x9.Most, x9.Load, x9.Cool⟩ : VStewService))).set x0_2.toNat ((⟨x10.Name, x10.Version, x10.Gone, x10.Image, x10.Want, x10.Down, x10.Over, x10.Next, IntKind.i64.wrap ((IntKind.i64.wrap ((IntKind.i64.wrap ((IntKind.i64.wrap ((IntKind.i64.wrap ((IntKind.i64.wrap ((IntKind.i64.wrap ((IntKind.i64.wrap (x0_1 + 1)) + 1)) + 1)) + 1)) + 1)) + 1)) + 1)) + 1), x10.Least, x10.Most, x10.Load, x10.Cool⟩ : VStewService))).set x0_2.toNat ((⟨x11.Name, x11.Version, x11.Gone, x11.Image, x11.Want, x11.Down, x11.Over, x11.Next, x11.Per, IntKind.i64.wrap ((IntKind.i64.wrap ((IntKind.i64.wrap ((IntKind.i64.wrap ((IntKind.i64.wrap ((IntKind.i64.wrap ((IntKind.i64.wrap ((IntKind.i64.wrap ((IntKind.i64.wrap (x0_1 + 1)) + 1)) + 1)) + 1)) + 1)) + 1)) + 1)) + 1)) + 1), x11.Most, x11.Load, x11.Cool⟩ : VStewService))).set x0_2.toNat ((⟨x12.Name, x12.Version, x12.Gone, x12.Image, x12.Want, x12.Down, x12.Over, x12.Next, x12.Per, x12.Least, IntKind.i64.wrap ((IntKind.i64.wrap ((IntKind.i64.wrap ((IntKind.i64.wrap ((IntKind.i64.wrap ((IntKind.i64.wrap ((IntKind.i64.wrap ((IntKind.i64.wrap ((IntKind.i64.wrap ((IntKind.i64.wrap (x0_1 + 1)) + 1)) + 1)) + 1)) + 1)) + 1)) + 1)) + 1)) + 1)) + 1), x12.Load, x12.Cool⟩ : VStewService))).set x0_2.toNat ((⟨x13.Name, x13.Version, x13.Gone, x13.Image, x13.Want, x13.Down, x13.Over, x13.Next, x13.Per, x13.Least, x13.Most, IntKind.i64.wrap ((IntKind.i64.wrap ((IntKind.i64.wrap ((IntKind.i64.wrap ((IntKind.i64.wrap ((IntKind.i64.wrap ((IntKind.i64.wrap ((IntKind.i64.wrap ((IntKind.i64.wrap ((IntKind.i64.wrap ((IntKind.i64.wrap (x0_1 + 1)) + 1)) + 1)) + 1)) + 1)) + 1)) + 1)) + 1)) + 1)) + 1)) + 1), x13.Cool⟩ : VStewService))).length : Int))) (Option.bind ((((((((((((x0_0.set x0_2.toNat (⟨r1, x2.Version, x2.Gone, x2.Image, x2.Want, x2.Down, x2.Over, x2.Next, x2.Per, x2.Least, x2.Most, x2.Load, x2.Cool⟩ : VStewService)).set x0_2.toNat ((⟨x3.Name, IntKind.i64.wrap (x0_1 + 1), x3.Gone, x3.Image, x3.Want, x3.Down, x3.Over, x3.Next, x3.Per, x3.Least, x3.Most, x3.Load, x3.Cool⟩ : VStewService))).set x0_2.toNat ((⟨x4.Name, x4.Version, ((IntKind.i64.wrap ((IntKind.i64.wrap (x0_1 + 1)) + 1)).tmod 3) == 0, x4.Image, x4.Want, x4.Down, x4.Over, x4.Next, x4.Per, x4.Least, x4.Most, x4.Load, x4.Cool⟩ : VStewService))).set x0_2.toNat ((⟨x5.Name, x5.Version, x5.Gone, IntKind.i64.wrap ((IntKind.i64.wrap ((IntKind.i64.wrap (x0_1 + 1)) + 1)) + 1), x5.Want, x5.Down, x5.Over, x5.Next, x5.Per, x5.Least, x5.Most, x5.Load, x5.Cool⟩ : VStewService))).set x0_2.toNat ((⟨x6.Name, x6.Version, x6.Gone, x6.Image, IntKind.i64.wrap ((IntKind.i64.wrap ((IntKind.i64.wrap ((IntKind.i64.wrap (x0_1 + 1)) + 1)) + 1)) + 1), x6.Down, x6.Over, x6.Next, x6.Per, x6.Least, x6.Most, x6.Load, x6.Cool⟩ : VStewService))).set x0_2.toNat ((⟨x7.Name, x7.Version, x7.Gone, x7.Image, x7.Want, IntKind.i64.wrap ((IntKind.i64.wrap ((IntKind.i64.wrap ((IntKind.i64.wrap ((IntKind.i64.wrap (x0_1 + 1)) + 1)) + 1)) + 1)) + 1), x7.Over, x7.Next, x7.Per, x7.Least, x7.Most, x7.Load, x7.Cool⟩ : VStewService))).set x0_2.toNat ((⟨x8.Name, x8.Version, x8.Gone, x8.Image, x8.Want, x8.Down, IntKind.i64.wrap ((IntKind.i64.wrap ((IntKind.i64.wrap ((IntKind.i64.wrap ((IntKind.i64.wrap ((IntKind.i64.wrap (x0_1 + 1)) + 1)) + 1)) + 1)) + 1)) + 1), x8.Next, x8.Per, x8.Least, x8.Most, x8.Load, x8.Cool⟩ : VStewService))).set x0_2.toNat ((⟨x9.Name, x9.Version, x9.Gone, x9.Image, x9.Want, x9.Down, x9.Over, IntKind.i64.wrap ((IntKind.i64.wrap ((IntKind.i64.wrap ((IntKind.i64.wrap ((IntKind.i64.wrap ((IntKind.i64.wrap ((IntKind.i64.wrap (x0_1 + 1)) + 1)) + 1)) + 1)) + 1)) + 1)) + 1), x9.Per, x9.Least, x9.Most, x9.Load, x9.Cool⟩ : VStewService))).set x0_2.toNat ((⟨x10.Name, x10.Version, x10.Gone, x10.Image, x10.Want, x10.Down, x10.Over, x10.Next, IntKind.i64.wrap ((IntKind.i64.wrap ((IntKind.i64.wrap ((IntKind.i64.wrap ((IntKind.i64.wrap ((IntKind.i64.wrap ((IntKind.i64.wrap ((IntKind.i64.wrap (x0_1 + 1)) + 1)) + 1)) + 1)) + 1)) + 1)) + 1)) + 1), x10.Least, x10.Most, x10.Load, x10.Cool⟩ : VStewService))).set x0_2.toNat ((⟨x11.Name, x11.Version, x11.Gone, x11.Image, x11.Want, x11.Down, x11.Over, x11.Next, x11.Per, IntKind.i64.wrap ((IntKind.i64.wrap ((IntKind.i64.wrap ((IntKind.i64.wrap ((IntKind.i64.wrap ((IntKind.i64.wrap ((IntKind.i64.wrap ((IntKind.i64.wrap ((IntKind.i64.wrap (x0_1 + 1)) + 1)) + 1)) + 1)) + 1)) + 1)) + 1)) + 1)) + 1), x11.Most, x11.Load, x11.Cool⟩ : VStewService))).set x0_2.toNat ((⟨x12.Name, x12.Version, x12.Gone, x12.Image, x12.Want, x12.Down, x12.Over, x12.Next, x12.Per, x12.Least, IntKind.i64.wrap ((IntKind.i64.wrap ((IntKind.i64.wrap ((IntKind.i64.wrap ((IntKind.i64.wrap ((IntKind.i64.wrap ((IntKind.i64.wrap ((IntKind.i64.wrap ((IntKind.i64.wrap ((IntKind.i64.wrap (x0_1 + 1)) + 1)) + 1)) + 1)) + 1)) + 1)) + 1)) + 1)) + 1)) + 1), x12.Load, x12.Cool⟩ : VStewService))).set x0_2.toNat ((⟨x13.Name, x13.Version, x13.Gone, x13.Image, x13.Want, x13.Down, x13.Over, x13.Next, x13.Per, x13.Least, x13.Most, IntKind.i64.wrap ((IntKind.i64.wrap ((IntKind.i64.wrap ((IntKind.i64.wrap ((IntKind.i64.wrap ((IntKind.i64.wrap ((IntKind.i64.wrap ((IntKind.i64.wrap ((IntKind.i64.wrap ((IntKind.i64.wrap ((IntKind.i64.wrap (x0_1 + 1)) + 1)) + 1)) + 1)) + 1)) + 1)) + 1)) + 1)) + 1)) + 1)) + 1), x13.Cool⟩ : VStewService)))[x0_2.toNat]? fun x14 => rec0 (((((((((((((x0_0.set x0_2.toNat (⟨r1, x2.Version, x2.Gone, x2.Image, x2.Want, x2.Down, x2.Over, x2.Next, x2.Per, x2.Least, x2.Most, x2.Load, x2.Cool⟩ : VStewService)).set x0_2.toNat ((⟨x3.Name, IntKind.i64.wrap (x0_1 + 1), x3.Gone, x3.Image, x3.Want, x3.Down, x3.Over, x3.Next, x3.Per, x3.Least, x3.Most, x3.Load, x3.Cool⟩ : VStewService))).set x0_2.toNat ((⟨x4.Name, x4.Version, ((IntKind.i64.wrap ((IntKind.i64.wrap (x0_1 + 1)) + 1)).tmod 3) == 0, x4.Image, x4.Want, x4.Down, x4.Over, x4.Next, x4.Per, x4.Least, x4.Most, x4.Load, x4.Cool⟩ : VStewService))).set x0_2.toNat ((⟨x5.Name, x5.Version, x5.Gone, IntKind.i64.wrap ((IntKind.i64.wrap ((IntKind.i64.wrap (x0_1 + 1)) + 1)) + 1), x5.Want, x5.Down, x5.Over, x5.Next, x5.Per, x5.Least, x5.Most, x5.Load, x5.Cool⟩ : VStewService))).set x0_2.toNat ((⟨x6.Name, x6.Version, x6.Gone, x6.Image, IntKind.i64.wrap ((IntKind.i64.wrap ((IntKind.i64.wrap ((IntKind.i64.wrap (x0_1 + 1)) + 1)) + 1)) + 1), x6.Down, x6.Over, x6.Next, x6.Per, x6.Least, x6.Most, x6.Load, x6.Cool⟩ : VStewService))).set x0_2.toNat ((⟨x7.Name, x7.Version, x7.Gone, x7.Image, x7.Want, IntKind.i64.wrap ((IntKind.i64.wrap ((IntKind.i64.wrap ((IntKind.i64.wrap ((IntKind.i64.wrap (x0_1 + 1)) + 1)) + 1)) + 1)) + 1), x7.Over, x7.Next, x7.Per, x7.Least, x7.Most, x7.Load, x7.Cool⟩ : VStewService))).set x0_2.toNat ((⟨x8.Name, x8.Version, x8.Gone, x8.Image, x8.Want, x8.Down, IntKind.i64.wrap ((IntKind.i64.wrap ((IntKind.i64.wrap ((IntKind.i64.wrap ((IntKind.i64.wrap ((IntKind.i64.wrap (x0_1 + 1)) + 1)) + 1)) + 1)) + 1)) + 1), x8.Next, x8.Per, x8.Least, x8.Most, x8.Load, x8.Cool⟩ : VStewService))).set x0_2.toNat ((⟨x9.Name, x9.Version, x9.Gone, x9.Image, x9.Want, x9.Down, x9.Over, IntKind.i64.wrap ((IntKind.i64.wrap ((IntKind.i64.wrap ((IntKind.i64.wrap ((IntKind.i64.wrap ((IntKind.i64.wrap ((IntKind.i64.wrap (x0_1 + 1)) + 1)) + 1)) + 1)) + 1)) + 1)) + 1), x9.Per, x9.Least, x9.Most, x9.Load, x9.Cool⟩ : VStewService))).set x0_2.toNat ((⟨x10.Name, x10.Version, x10.Gone, x10.Image, x10.Want, x10.Down, x10.Over, x10.Next, IntKind.i64.wrap ((IntKind.i64.wrap ((IntKind.i64.wrap ((IntKind.i64.wrap ((IntKind.i64.wrap ((IntKind.i64.wrap ((IntKind.i64.wrap ((IntKind.i64.wrap (x0_1 + 1)) + 1)) + 1)) + 1)) + 1)) + 1)) + 1)) + 1), x10.Least, x10.Most, x10.Load, x10.Cool⟩ : VStewService))).set x0_2.toNat ((⟨x11.Name, x11.Version, x11.Gone, x11.Image, x11.Want, x11.Down, x11.Over, x11.Next, x11.Per, IntKind.i64.wrap ((IntKind.i64.wrap ((IntKind.i64.wrap ((IntKind.i64.wrap ((IntKind.i64.wrap ((IntKind.i64.wrap ((IntKind.i64.wrap ((IntKind.i64.wrap ((IntKind.i64.wrap (x0_1 + 1)) + 1)) + 1)) + 1)) + 1)) + 1)) + 1)) + 1)) + 1), x11.Most, x11.Load, x11.Cool⟩ : VStewService))).set x0_2.toNat ((⟨x12.Name, x12.Version, x12.Gone, x12.Image, x12.Want, x12.Down, x12.Over, x12.Next, x12.Per, x12.Least, IntKind.i64.wrap ((IntKind.i64.wrap ((IntKind.i64.wrap ((IntKind.i64.wrap ((IntKind.i64.wrap ((IntKind.i64.wrap ((IntKind.i64.wrap ((IntKind.i64.wrap ((IntKind.i64.wrap ((IntKind.i64.wrap (x0_1 + 1)) + 1)) + 1)) + 1)) + 1)) + 1)) + 1)) + 1)) + 1)) + 1), x12.Load, x12.Cool⟩ : VStewService))).set x0_2.toNat ((⟨x13.Name, x13.Version, x13.Gone, x13.Image, x13.Want, x13.Down, x13.Over, x13.Next, x13.Per, x13.Least, x13.Most, IntKind.i64.wrap ((IntKind.i64.wrap ((IntKind.i64.wrap ((IntKind.i64.wrap ((IntKind.i64.wrap ((IntKind.i64.wrap ((IntKind.i64.wrap ((IntKind.i64.wrap ((IntKind.i64.wrap ((IntKind.i64.wrap ((IntKind.i64.wrap (x0_1 + 1)) + 1)) + 1)) + 1)) + 1)) + 1)) + 1)) + 1)) + 1)) + 1)) + 1), x13.Cool⟩ : VStewService))).set x0_2.toNat ((⟨x14.Name, x14.Version, x14.Gone, x14.Image, x14.Want, x14.Down, x14.Over, x14.Next, x14.Per, x14.Least, x14.Most, x14.Load, IntKind.i64.wrap ((IntKind.i64.wrap ((IntKind.i64.wrap ((IntKind.i64.wrap ((IntKind.i64.wrap ((IntKind.i64.wrap ((IntKind.i64.wrap ((IntKind.i64.wrap ((IntKind.i64.wrap ((IntKind.i64.wrap ((IntKind.i64.wrap ((IntKind.i64.wrap (x0_1 + 1)) + 1)) + 1)) + 1)) + 1)) + 1)) + 1)) + 1)) + 1)) + 1)) + 1)) + 1)⟩ : VStewService)), IntKind.i64.wrap ((IntKind.i64.wrap ((IntKind.i64.wrap ((IntKind.i64.wrap ((IntKind.i64.wrap ((IntKind.i64.wrap ((IntKind.i64.wrap ((IntKind.i64.wrap ((IntKind.i64.wrap ((IntKind.i64.wrap ((IntKind.i64.wrap ((IntKind.i64.wrap ((IntKind.i64.wrap (x0_1 + 1)) + 1)) + 1)) + 1)) + 1)) + 1)) + 1)) + 1)) + 1)) + 1)) + 1)) + 1)) + 1), IntKind.i64.wrap (x0_2 + 1))) none) none) none) none) none) none) none) none) none) none) none) none) none) none) none) none) none) none) none) none) none) none)) none) none) none) none)
      (some (x0_0, x0_1))
noncomputable def LP58_0 (n : Nat)  (x : A58_0) : Option (List (C .e121) × Int) := lpN (r58_0 n ) n x
noncomputable def MP58_0 (kp : Nat → Prop) (kh : Nat → Option Obj) (hd : Nat → Value) (n : Nat)  (x : A58_0) : Option (List (C .e121) × Int) := iter (fun rec S => run (X58.gh kp kh hd) (F58 n) (codeAt (bodyOf Go.Proofs.Try.f58) [1, 0, 1, 0, 0]) 0 S (lopK rec (blkK 0 (seqK (run (X58.gh kp kh hd) (F58 n) (codeAt (bodyOf Go.Proofs.Try.f58) [1, 1]) 0) (kTopW (X58.gh kp kh hd) Go.Proofs.Try.f58 [true, false] dec58))))) [0, 1, 5, 90000, 90001] n (s58_0 x)
theorem m58_0 (kp : Nat → Prop) (kh : Nat → Option Obj) (hd : Nat → Value) (n : Nat)  (x : A58_0) : MP58_0 kp kh hd n  x = LP58_0 n  x := by
  refine iter_eq s58_0 (r58_0 n ) (fun rec0 x => ?_) n x
  obtain ⟨x0_0, x0_1, x0_2⟩ := x
  kernel_rfl
noncomputable def G58n (n : Nat) (a0 : List (C .e121)) (a1 : Int) : Option (List (C .e121) × Int) :=
      LP58_0 n  (a0, a1, 0)
theorem t58 (kp : Nat → Prop) (kh : Nat → Option Obj) (hd : Nat → Value) (n : Nat) (a0 : List (C .e121)) (a1 : Int) : runFnW (X58.gh kp kh hd) (F58 n) Go.Proofs.Try.f58 [(false, [.row .e121 a0]), (false, [.int .i64 a1])] dec58 = G58n n a0 a1 := by
  have h : runFnW (X58.gh kp kh hd) (F58 n) Go.Proofs.Try.f58 [(false, [.row .e121 a0]), (false, [.int .i64 a1])] dec58 =
      MP58_0 kp kh hd n  (a0, a1, 0) := by kernel_rfl
  simp only [h, G58n, m58_0]
noncomputable def G58 (a0 : List (C .e121)) (a1 : Int) : Option (List (C .e121) × Int) := G58n fuel a0 a1
noncomputable def con58 : ConW C := { R0 := List (C .e121) × Int, out := fun r => [.row .e121 r.1], ret := fun r => [(false, [.int .i64 r.2])], g := fun rs => match rs with
  | [(false, [.row .e121 y0]), (false, [.int .i64 y1])] => G58 y0 y1
  | _ => none }
theorem x58 : XOk Go.Proofs.Try.prog X58 := ⟨tks_ok, els_ok⟩
theorem q58 : Cons Go.Proofs.Try.prog X58 := ⟨lkR_ok (l := [(53, con53)]) ⟨c53, trivial⟩, lkW_ok (l := []) trivial⟩
theorem c58 : ConWOk Go.Proofs.Try.prog KK 58 con58 := by
  refine conw_of x58 q58 (by kernel_rfl) (f := 58) (fn := Go.Proofs.Try.f58) (c := bodyOf Go.Proofs.Try.f58) (by kernel_rfl) (by kernel_rfl) (by kernel_rfl) (nameB (by kernel_rfl)) con58 dec58 (fun os rs r0 h => ?_) (fun rs r0 h => ?_)
  · unfold dec58 at h
    split at h
    · cases h; exact ⟨rfl, rfl⟩
    · cases h
  · simp only [con58] at h
    split at h
    · rename_i y0 y1
      exact ⟨Nat.le_of_ble_eq_true (by kernel_rfl), F58 fuel, fun kp kh hd => (t58 kp kh hd fuel y0 y1).trans h⟩
    · cases h
/-! ### f59 loop.example/wharfdesk/laws.markStewCopyS -/
noncomputable def X59 : Cx C := { K := KK, tk := lk tks, con := lkC [(53, con53)], conw := lkC [] }
def F59 (n : Nat) : Cf := { N := n, keep := [0, 1, 4, 5, 9, 90000, 90001], live := lk [(0, [0, 1, 5, 90000, 90001])] }
def dec59 (os : List (Lf C)) (rs : List (Bool × List (Lf C))) : Option (List (C .e124) × Int) := match os, rs with
  | [.row .e124 o0], [(false, [.int .i64 z0])] => some (o0, z0)
  | _, _ => none
abbrev A59_0 : Type := List (C .e124) × Int × Int
def s59_0 : A59_0 → St C := fun (x0_0, x0_1, x0_2) => { env := [(0, .one (.ref 100000 [])), (1, .one (.int .i64 x0_1)), (5, .one (.int .i64 x0_2)), (90000, .frame), (90001, .hdr 100000 0)], objs := [(100000, .row .e124 x0_0 false)], base := 0 }
noncomputable def r59_0 (n : Nat)  (rec0 : A59_0 → Option (List (C .e124) × Int)) : A59_0 → Option (List (C .e124) × Int) := fun (x0_0, x0_1, x0_2) =>
      cond (decide (x0_2 < (x0_0.length : Int)))
      (Option.bind (G53 x0_1) fun r1 =>
      cond (decide (0 ≤ x0_2)) (cond (decide (x0_2 < (x0_0.length : Int))) (Option.bind x0_0[x0_2.toNat]? fun x2 => cond (decide (0 ≤ x0_2)) (cond (decide (x0_2 < ((x0_0.set x0_2.toNat (⟨r1, x2.Number, x2.Version, x2.Image, x2.State, x2.Ending, x2.Berth⟩ : VStewCopy)).length : Int))) (Option.bind (x0_0.set x0_2.toNat (⟨r1, x2.Number, x2.Version, x2.Image, x2.State, x2.Ending, x2.Berth⟩ : VStewCopy))[x0_2.toNat]? fun x3 => cond (decide (0 ≤ x0_2)) (cond (decide (x0_2 < (((x0_0.set x0_2.toNat (⟨r1, x2.Number, x2.Version, x2.Image, x2.State, x2.Ending, x2.Berth⟩ : VStewCopy)).set x0_2.toNat ((⟨x3.Service, IntKind.i64.wrap (x0_1 + 1), x3.Version, x3.Image, x3.State, x3.Ending, x3.Berth⟩ : VStewCopy))).length : Int))) (Option.bind ((x0_0.set x0_2.toNat (⟨r1, x2.Number, x2.Version, x2.Image, x2.State, x2.Ending, x2.Berth⟩ : VStewCopy)).set x0_2.toNat ((⟨x3.Service, IntKind.i64.wrap (x0_1 + 1), x3.Version, x3.Image, x3.State, x3.Ending, x3.Berth⟩ : VStewCopy)))[x0_2.toNat]? fun x4 => cond (decide (0 ≤ x0_2)) (cond (decide (x0_2 < ((((x0_0.set x0_2.toNat (⟨r1, x2.Number, x2.Version, x2.Image, x2.State, x2.Ending, x2.Berth⟩ : VStewCopy)).set x0_2.toNat ((⟨x3.Service, IntKind.i64.wrap (x0_1 + 1), x3.Version, x3.Image, x3.State, x3.Ending, x3.Berth⟩ : VStewCopy))).set x0_2.toNat ((⟨x4.Service, x4.Number, IntKind.i64.wrap ((IntKind.i64.wrap (x0_1 + 1)) + 1), x4.Image, x4.State, x4.Ending, x4.Berth⟩ : VStewCopy))).length : Int))) (Option.bind (((x0_0.set x0_2.toNat (⟨r1, x2.Number, x2.Version, x2.Image, x2.State, x2.Ending, x2.Berth⟩ : VStewCopy)).set x0_2.toNat ((⟨x3.Service, IntKind.i64.wrap (x0_1 + 1), x3.Version, x3.Image, x3.State, x3.Ending, x3.Berth⟩ : VStewCopy))).set x0_2.toNat ((⟨x4.Service, x4.Number, IntKind.i64.wrap ((IntKind.i64.wrap (x0_1 + 1)) + 1), x4.Image, x4.State, x4.Ending, x4.Berth⟩ : VStewCopy)))[x0_2.toNat]? fun x5 => cond (decide (0 ≤ x0_2)) (cond (decide (x0_2 < (((((x0_0.set x0_2.toNat (⟨r1, x2.Number, x2.Version, x2.Image, x2.State, x2.Ending, x2.Berth⟩ : VStewCopy)).set x0_2.toNat ((⟨x3.Service, IntKind.i64.wrap (x0_1 + 1), x3.Version, x3.Image, x3.State, x3.Ending, x3.Berth⟩ : VStewCopy))).set x0_2.toNat ((⟨x4.Service, x4.Number, IntKind.i64.wrap ((IntKind.i64.wrap (x0_1 + 1)) + 1), x4.Image, x4.State, x4.Ending, x4.Berth⟩ : VStewCopy))).set x0_2.toNat ((⟨x5.Service, x5.Number, x5.Version, IntKind.i64.wrap ((IntKind.i64.wrap ((IntKind.i64.wrap (x0_1 + 1)) + 1)) + 1), x5.State, x5.Ending, x5.Berth⟩ : VStewCopy))).length : Int))) (Option.bind ((((x0_0.set x0_2.toNat (⟨r1, x2.Number, x2.Version, x2.Image, x2.State, x2.Ending, x2.Berth⟩ : VStewCopy)).set x0_2.toNat ((⟨x3.Service, IntKind.i64.wrap (x0_1 + 1), x3.Version, x3.Image, x3.State, x3.Ending, x3.Berth⟩ : VStewCopy))).set x0_2.toNat ((⟨x4.Service, x4.Number, IntKind.i64.wrap ((IntKind.i64.wrap (x0_1 + 1)) + 1), x4.Image, x4.State, x4.Ending, x4.Berth⟩ : VStewCopy))).set x0_2.toNat ((⟨x5.Service, x5.Number, x5.Version, IntKind.i64.wrap ((IntKind.i64.wrap ((IntKind.i64.wrap (x0_1 + 1)) + 1)) + 1), x5.State, x5.Ending, x5.Berth⟩ : VStewCopy)))[x0_2.toNat]? fun x6 => cond (decide (3 = 0)) none (cond (decide (0 ≤ x0_2)) (cond (decide (x0_2 < ((((((x0_0.set x0_2.toNat (⟨r1, x2.Number, x2.Version, x2.Image, x2.State, x2.Ending, x2.Berth⟩ : VStewCopy)).set x0_2.toNat ((⟨x3.Service, IntKind.i64.wrap (x0_1 + 1), x3.Version, x3.Image, x3.State, x3.Ending, x3.Berth⟩ : VStewCopy))).set x0_2.toNat ((⟨x4.Service, x4.Number, IntKind.i64.wrap ((IntKind.i64.wrap (x0_1 + 1)) + 1), x4.Image, x4.State, x4.Ending, x4.Berth⟩ : VStewCopy))).set x0_2.toNat ((⟨x5.Service, x5.Number, x5.Version, IntKind.i64.wrap ((IntKind.i64.wrap ((IntKind.i64.wrap (x0_1 + 1)) + 1)) + 1), x5.State, x5.Ending, x5.Berth⟩ : VStewCopy))).set x0_2.toNat ((⟨x6.Service, x6.Number, x6.Version, x6.Image, IntKind.i64.wrap ((IntKind.i64.wrap ((IntKind.i64.wrap ((IntKind.i64.wrap (x0_1 + 1)) + 1)) + 1)) + 1), x6.Ending, x6.Berth⟩ : VStewCopy))).length : Int))) (Option.bind (((((x0_0.set x0_2.toNat (⟨r1, x2.Number, x2.Version, x2.Image, x2.State, x2.Ending, x2.Berth⟩ : VStewCopy)).set x0_2.toNat ((⟨x3.Service, IntKind.i64.wrap (x0_1 + 1), x3.Version, x3.Image, x3.State, x3.Ending, x3.Berth⟩ : VStewCopy))).set x0_2.toNat ((⟨x4.Service, x4.Number, IntKind.i64.wrap ((IntKind.i64.wrap (x0_1 + 1)) + 1), x4.Image, x4.State, x4.Ending, x4.Berth⟩ : VStewCopy))).set x0_2.toNat ((⟨x5.Service, x5.Number, x5.Version, IntKind.i64.wrap ((IntKind.i64.wrap ((IntKind.i64.wrap (x0_1 + 1)) + 1)) + 1), x5.State, x5.Ending, x5.Berth⟩ : VStewCopy))).set x0_2.toNat ((⟨x6.Service, x6.Number, x6.Version, x6.Image, IntKind.i64.wrap ((IntKind.i64.wrap ((IntKind.i64.wrap ((IntKind.i64.wrap (x0_1 + 1)) + 1)) + 1)) + 1), x6.Ending, x6.Berth⟩ : VStewCopy)))[x0_2.toNat]? fun x7 => Option.bind (G53 (IntKind.i64.wrap ((IntKind.i64.wrap ((IntKind.i64.wrap ((IntKind.i64.wrap ((IntKind.i64.wrap ((IntKind.i64.wrap (x0_1 + 1)) + 1)) + 1)) + 1)) + 1)) + 1))) fun r8 =>
      cond (decide (0 ≤ x0_2)) (cond (decide (x0_2 < (((((((x0_0.set x0_2.toNat (⟨r1, x2.Number, x2.Version, x2.Image, x2.State, x2.Ending, x2.Berth⟩ : VStewCopy)).set x0_2.toNat ((⟨x3.Service, IntKind.i64.wrap (x0_1 + 1), x3.Version, x3.Image, x3.State, x3.Ending, x3.Berth⟩ : VStewCopy))).set x0_2.toNat ((⟨x4.Service, x4.Number, IntKind.i64.wrap ((IntKind.i64.wrap (x0_1 + 1)) + 1), x4.Image, x4.State, x4.Ending, x4.Berth⟩ : VStewCopy))).set x0_2.toNat ((⟨x5.Service, x5.Number, x5.Version, IntKind.i64.wrap ((IntKind.i64.wrap ((IntKind.i64.wrap (x0_1 + 1)) + 1)) + 1), x5.State, x5.Ending, x5.Berth⟩ : VStewCopy))).set x0_2.toNat ((⟨x6.Service, x6.Number, x6.Version, x6.Image, IntKind.i64.wrap ((IntKind.i64.wrap ((IntKind.i64.wrap ((IntKind.i64.wrap (x0_1 + 1)) + 1)) + 1)) + 1), x6.Ending, x6.Berth⟩ : VStewCopy))).set x0_2.toNat ((⟨x7.Service, x7.Number, x7.Version, x7.Image, x7.State, ((IntKind.i64.wrap ((IntKind.i64.wrap ((IntKind.i64.wrap ((IntKind.i64.wrap ((IntKind.i64.wrap (x0_1 + 1)) + 1)) + 1)) + 1)) + 1)).tmod 3) == 0, x7.Berth⟩ : VStewCopy))).length : Int))) (Option.bind ((((((x0_0.set x0_2.toNat (⟨r1, x2.Number, x2.Version, x2.Image, x2.State, x2.Ending, x2.Berth⟩ : VStewCopy)).set x0_2.toNat ((⟨x3.Service, IntKind.i64.wrap (x0_1 + 1), x3.Version, x3.Image, x3.State, x3.Ending, x3.Berth⟩ : VStewCopy))).set x0_2.toNat ((⟨x4.Service, x4.Number, IntKind.i64.wrap ((IntKind.i64.wrap (x0_1 + 1)) + 1), x4.Image, x4.State, x4.Ending, x4.Berth⟩ : VStewCopy))).set x0_2.toNat ((⟨x5.Service, x5.Number, x5.Version, IntKind.i64.wrap ((IntKind.i64.wrap ((IntKind.i64.wrap (x0_1 + 1)) + 1)) + 1), x5.State, x5.Ending, x5.Berth⟩ : VStewCopy))).set x0_2.toNat ((⟨x6.Service, x6.Number, x6.Version, x6.Image, IntKind.i64.wrap ((IntKind.i64.wrap ((IntKind.i64.wrap ((IntKind.i64.wrap (x0_1 + 1)) + 1)) + 1)) + 1), x6.Ending, x6.Berth⟩ : VStewCopy))).set x0_2.toNat ((⟨x7.Service, x7.Number, x7.Version, x7.Image, x7.State, ((IntKind.i64.wrap ((IntKind.i64.wrap ((IntKind.i64.wrap ((IntKind.i64.wrap ((IntKind.i64.wrap (x0_1 + 1)) + 1)) + 1)) + 1)) + 1)).tmod 3) == 0, x7.Berth⟩ : VStewCopy)))[x0_2.toNat]? fun x9 => rec0 (((((((x0_0.set x0_2.toNat (⟨r1, x2.Number, x2.Version, x2.Image, x2.State, x2.Ending, x2.Berth⟩ : VStewCopy)).set x0_2.toNat ((⟨x3.Service, IntKind.i64.wrap (x0_1 + 1), x3.Version, x3.Image, x3.State, x3.Ending, x3.Berth⟩ : VStewCopy))).set x0_2.toNat ((⟨x4.Service, x4.Number, IntKind.i64.wrap ((IntKind.i64.wrap (x0_1 + 1)) + 1), x4.Image, x4.State, x4.Ending, x4.Berth⟩ : VStewCopy))).set x0_2.toNat ((⟨x5.Service, x5.Number, x5.Version, IntKind.i64.wrap ((IntKind.i64.wrap ((IntKind.i64.wrap (x0_1 + 1)) + 1)) + 1), x5.State, x5.Ending, x5.Berth⟩ : VStewCopy))).set x0_2.toNat ((⟨x6.Service, x6.Number, x6.Version, x6.Image, IntKind.i64.wrap ((IntKind.i64.wrap ((IntKind.i64.wrap ((IntKind.i64.wrap (x0_1 + 1)) + 1)) + 1)) + 1), x6.Ending, x6.Berth⟩ : VStewCopy))).set x0_2.toNat ((⟨x7.Service, x7.Number, x7.Version, x7.Image, x7.State, ((IntKind.i64.wrap ((IntKind.i64.wrap ((IntKind.i64.wrap ((IntKind.i64.wrap ((IntKind.i64.wrap (x0_1 + 1)) + 1)) + 1)) + 1)) + 1)).tmod 3) == 0, x7.Berth⟩ : VStewCopy))).set x0_2.toNat (⟨x9.Service, x9.Number, x9.Version, x9.Image, x9.State, x9.Ending, r8⟩ : VStewCopy), IntKind.i64.wrap ((IntKind.i64.wrap ((IntKind.i64.wrap ((IntKind.i64.wrap ((IntKind.i64.wrap ((IntKind.i64.wrap ((IntKind.i64.wrap (x0_1 + 1)) + 1)) + 1)) + 1)) + 1)) + 1)) + 1), IntKind.i64.wrap (x0_2 + 1))) none) none) none) none)) none) none) none) none) none) none) none) none) none) none)
      (some (x0_0, x0_1))
noncomputable def LP59_0 (n : Nat)  (x : A59_0) : Option (List (C .e124) × Int) := lpN (r59_0 n ) n x
noncomputable def MP59_0 (kp : Nat → Prop) (kh : Nat → Option Obj) (hd : Nat → Value) (n : Nat)  (x : A59_0) : Option (List (C .e124) × Int) := iter (fun rec S => run (X59.gh kp kh hd) (F59 n) (codeAt (bodyOf Go.Proofs.Try.f59) [1, 0, 1, 0, 0]) 0 S (lopK rec (blkK 0 (seqK (run (X59.gh kp kh hd) (F59 n) (codeAt (bodyOf Go.Proofs.Try.f59) [1, 1]) 0) (kTopW (X59.gh kp kh hd) Go.Proofs.Try.f59 [true, false] dec59))))) [0, 1, 5, 90000, 90001] n (s59_0 x)
theorem m59_0 (kp : Nat → Prop) (kh : Nat → Option Obj) (hd : Nat → Value) (n : Nat)  (x : A59_0) : MP59_0 kp kh hd n  x = LP59_0 n  x := by
  refine iter_eq s59_0 (r59_0 n ) (fun rec0 x => ?_) n x
  obtain ⟨x0_0, x0_1, x0_2⟩ := x
  kernel_rfl
noncomputable def G59n (n : Nat) (a0 : List (C .e124)) (a1 : Int) : Option (List (C .e124) × Int) :=
      LP59_0 n  (a0, a1, 0)
theorem t59 (kp : Nat → Prop) (kh : Nat → Option Obj) (hd : Nat → Value) (n : Nat) (a0 : List (C .e124)) (a1 : Int) : runFnW (X59.gh kp kh hd) (F59 n) Go.Proofs.Try.f59 [(false, [.row .e124 a0]), (false, [.int .i64 a1])] dec59 = G59n n a0 a1 := by
  have h : runFnW (X59.gh kp kh hd) (F59 n) Go.Proofs.Try.f59 [(false, [.row .e124 a0]), (false, [.int .i64 a1])] dec59 =
      MP59_0 kp kh hd n  (a0, a1, 0) := by kernel_rfl
  simp only [h, G59n, m59_0]
noncomputable def G59 (a0 : List (C .e124)) (a1 : Int) : Option (List (C .e124) × Int) := G59n fuel a0 a1
noncomputable def con59 : ConW C := { R0 := List (C .e124) × Int, out := fun r => [.row .e124 r.1], ret := fun r => [(false, [.int .i64 r.2])], g := fun rs => match rs with
  | [(false, [.row .e124 y0]), (false, [.int .i64 y1])] => G59 y0 y1
  | _ => none }
theorem x59 : XOk Go.Proofs.Try.prog X59 := ⟨tks_ok, els_ok⟩
theorem q59 : Cons Go.Proofs.Try.prog X59 := ⟨lkR_ok (l := [(53, con53)]) ⟨c53, trivial⟩, lkW_ok (l := []) trivial⟩
theorem c59 : ConWOk Go.Proofs.Try.prog KK 59 con59 := by
  refine conw_of x59 q59 (by kernel_rfl) (f := 59) (fn := Go.Proofs.Try.f59) (c := bodyOf Go.Proofs.Try.f59) (by kernel_rfl) (by kernel_rfl) (by kernel_rfl) (nameB (by kernel_rfl)) con59 dec59 (fun os rs r0 h => ?_) (fun rs r0 h => ?_)
  · unfold dec59 at h
    split at h
    · cases h; exact ⟨rfl, rfl⟩
    · cases h
  · simp only [con59] at h
    split at h
    · rename_i y0 y1
      exact ⟨Nat.le_of_ble_eq_true (by kernel_rfl), F59 fuel, fun kp kh hd => (t59 kp kh hd fuel y0 y1).trans h⟩
    · cases h
/-! ### f60 loop.example/wharfdesk/laws.markStewBerthS -/
noncomputable def X60 : Cx C := { K := KK, tk := lk tks, con := lkC [(53, con53)], conw := lkC [] }
def F60 (n : Nat) : Cf := { N := n, keep := [0, 1, 4, 5, 9, 90000, 90001], live := lk [(0, [0, 1, 5, 90000, 90001])] }
def dec60 (os : List (Lf C)) (rs : List (Bool × List (Lf C))) : Option (List (C .e127) × Int) := match os, rs with
  | [.row .e127 o0], [(false, [.int .i64 z0])] => some (o0, z0)
  | _, _ => none
abbrev A60_0 : Type := List (C .e127) × Int × Int
def s60_0 : A60_0 → St C := fun (x0_0, x0_1, x0_2) => { env := [(0, .one (.ref 100000 [])), (1, .one (.int .i64 x0_1)), (5, .one (.int .i64 x0_2)), (90000, .frame), (90001, .hdr 100000 0)], objs := [(100000, .row .e127 x0_0 false)], base := 0 }
noncomputable def r60_0 (n : Nat)  (rec0 : A60_0 → Option (List (C .e127) × Int)) : A60_0 → Option (List (C .e127) × Int) := fun (x0_0, x0_1, x0_2) =>
      cond (decide (x0_2 < (x0_0.length : Int)))
      (Option.bind (G53 x0_1) fun r1 =>
      cond (decide (0 ≤ x0_2)) (cond (decide (x0_2 < (x0_0.length : Int))) (Option.bind x0_0[x0_2.toNat]? fun x2 => cond (decide (3 = 0)) none (cond (decide (0 ≤ x0_2)) (cond (decide (x0_2 < ((x0_0.set x0_2.toNat (⟨r1, x2.Drain⟩ : VStewBerth)).length : Int))) (Option.bind (x0_0.set x0_2.toNat (⟨r1, x2.Drain⟩ : VStewBerth))[x0_2.toNat]? fun x3 => rec0 ((x0_0.set x0_2.toNat (⟨r1, x2.Drain⟩ : VStewBerth)).set x0_2.toNat ((⟨x3.Name, ((IntKind.i64.wrap (x0_1 + 1)).tmod 3) == 0⟩ : VStewBerth)), IntKind.i64.wrap ((IntKind.i64.wrap (x0_1 + 1)) + 1), IntKind.i64.wrap (x0_2 + 1))) none) none)) none) none)
      (some (x0_0, x0_1))
noncomputable def LP60_0 (n : Nat)  (x : A60_0) : Option (List (C .e127) × Int) := lpN (r60_0 n ) n x
noncomputable def MP60_0 (kp : Nat → Prop) (kh : Nat → Option Obj) (hd : Nat → Value) (n : Nat)  (x : A60_0) : Option (List (C .e127) × Int) := iter (fun rec S => run (X60.gh kp kh hd) (F60 n) (codeAt (bodyOf Go.Proofs.Try.f60) [1, 0, 1, 0, 0]) 0 S (lopK rec (blkK 0 (seqK (run (X60.gh kp kh hd) (F60 n) (codeAt (bodyOf Go.Proofs.Try.f60) [1, 1]) 0) (kTopW (X60.gh kp kh hd) Go.Proofs.Try.f60 [true, false] dec60))))) [0, 1, 5, 90000, 90001] n (s60_0 x)
theorem m60_0 (kp : Nat → Prop) (kh : Nat → Option Obj) (hd : Nat → Value) (n : Nat)  (x : A60_0) : MP60_0 kp kh hd n  x = LP60_0 n  x := by
  refine iter_eq s60_0 (r60_0 n ) (fun rec0 x => ?_) n x
  obtain ⟨x0_0, x0_1, x0_2⟩ := x
  kernel_rfl
noncomputable def G60n (n : Nat) (a0 : List (C .e127)) (a1 : Int) : Option (List (C .e127) × Int) :=
      LP60_0 n  (a0, a1, 0)
theorem t60 (kp : Nat → Prop) (kh : Nat → Option Obj) (hd : Nat → Value) (n : Nat) (a0 : List (C .e127)) (a1 : Int) : runFnW (X60.gh kp kh hd) (F60 n) Go.Proofs.Try.f60 [(false, [.row .e127 a0]), (false, [.int .i64 a1])] dec60 = G60n n a0 a1 := by
  have h : runFnW (X60.gh kp kh hd) (F60 n) Go.Proofs.Try.f60 [(false, [.row .e127 a0]), (false, [.int .i64 a1])] dec60 =
      MP60_0 kp kh hd n  (a0, a1, 0) := by kernel_rfl
  simp only [h, G60n, m60_0]
noncomputable def G60 (a0 : List (C .e127)) (a1 : Int) : Option (List (C .e127) × Int) := G60n fuel a0 a1
noncomputable def con60 : ConW C := { R0 := List (C .e127) × Int, out := fun r => [.row .e127 r.1], ret := fun r => [(false, [.int .i64 r.2])], g := fun rs => match rs with
  | [(false, [.row .e127 y0]), (false, [.int .i64 y1])] => G60 y0 y1
  | _ => none }
theorem x60 : XOk Go.Proofs.Try.prog X60 := ⟨tks_ok, els_ok⟩
theorem q60 : Cons Go.Proofs.Try.prog X60 := ⟨lkR_ok (l := [(53, con53)]) ⟨c53, trivial⟩, lkW_ok (l := []) trivial⟩
theorem c60 : ConWOk Go.Proofs.Try.prog KK 60 con60 := by
  refine conw_of x60 q60 (by kernel_rfl) (f := 60) (fn := Go.Proofs.Try.f60) (c := bodyOf Go.Proofs.Try.f60) (by kernel_rfl) (by kernel_rfl) (by kernel_rfl) (nameB (by kernel_rfl)) con60 dec60 (fun os rs r0 h => ?_) (fun rs r0 h => ?_)
  · unfold dec60 at h
    split at h
    · cases h; exact ⟨rfl, rfl⟩
    · cases h
  · simp only [con60] at h
    split at h
    · rename_i y0 y1
      exact ⟨Nat.le_of_ble_eq_true (by kernel_rfl), F60 fuel, fun kp kh hd => (t60 kp kh hd fuel y0 y1).trans h⟩
    · cases h
/-! ### f28 loop.example/wharfdesk/laws.markStewBook -/
noncomputable def X28 : Cx C := { K := KK, tk := lk tks, con := lkC [], conw := lkC [(58, con58), (59, con59), (60, con60)] }
def F28 (n : Nat) : Cf := { N := n, keep := [0, 1, 2, 4, 90000, 90002, 90003, 90004], live := lk [] }
def dec28 (os : List (Lf C)) (rs : List (Bool × List (Lf C))) : Option (List (C .e121) × List (C .e124) × List (C .e127) × Int) := match os, rs with
  | [.row .e121 o0, .row .e124 o1, .row .e127 o2], [(false, [.int .i64 z0])] => some (o0, o1, o2, z0)
  | _, _ => none
noncomputable def G28n (n : Nat) (a0 : VStewBook) (a1 : Int) : Option (List (C .e121) × List (C .e124) × List (C .e127) × Int) :=
      Option.bind (G58 a0.Services a1) fun r1 =>
      Option.bind (G59 a0.Copies r1.2) fun r2 =>
      Option.bind (G60 a0.Berths r2.2) fun r3 =>
      some (r1.1, r2.1, r3.1, r3.2)
theorem t28 (kp : Nat → Prop) (kh : Nat → Option Obj) (hd : Nat → Value) (n : Nat) (a0 : VStewBook) (a1 : Int) : runFnW (X28.gh kp kh hd) (F28 n) Go.Proofs.Try.f28 [(true, [.int .i64 a0.Now, .row .e121 a0.Services, .row .e124 a0.Copies, .row .e127 a0.Berths]), (false, [.int .i64 a1])] dec28 = G28n n a0 a1 := by
  kernel_rfl
noncomputable def G28 (a0 : VStewBook) (a1 : Int) : Option (List (C .e121) × List (C .e124) × List (C .e127) × Int) := G28n fuel a0 a1
noncomputable def con28 : ConW C := { R0 := List (C .e121) × List (C .e124) × List (C .e127) × Int, out := fun r => [.row .e121 r.1, .row .e124 r.2.1, .row .e127 r.2.2.1], ret := fun r => [(false, [.int .i64 r.2.2.2])], g := fun rs => match rs with
  | [(true, [.int .i64 y0_0, .row .e121 y0_1, .row .e124 y0_2, .row .e127 y0_3]), (false, [.int .i64 y1])] => G28 ⟨y0_0, y0_1, y0_2, y0_3⟩ y1
  | _ => none }
theorem x28 : XOk Go.Proofs.Try.prog X28 := ⟨tks_ok, els_ok⟩
theorem q28 : Cons Go.Proofs.Try.prog X28 := ⟨lkR_ok (l := []) trivial, lkW_ok (l := [(58, con58), (59, con59), (60, con60)]) ⟨c58, c59, c60, trivial⟩⟩
theorem c28 : ConWOk Go.Proofs.Try.prog KK 28 con28 := by
  refine conw_of x28 q28 (by kernel_rfl) (f := 28) (fn := Go.Proofs.Try.f28) (c := bodyOf Go.Proofs.Try.f28) (by kernel_rfl) (by kernel_rfl) (by kernel_rfl) (nameB (by kernel_rfl)) con28 dec28 (fun os rs r0 h => ?_) (fun rs r0 h => ?_)
  · unfold dec28 at h
    split at h
    · cases h; exact ⟨rfl, rfl⟩
    · cases h
  · simp only [con28] at h
    split at h
    · rename_i y0_0 y0_1 y0_2 y0_3 y1
      exact ⟨Nat.le_of_ble_eq_true (by kernel_rfl), F28 fuel, fun kp kh hd => (t28 kp kh hd fuel ⟨y0_0, y0_1, y0_2, y0_3⟩ y1).trans h⟩
    · cases h
/-! ### f11 loop.example/wharfdesk/laws.markHallBook -/
noncomputable def X11 : Cx C := { K := KK, tk := lk tks, con := lkC [], conw := lkC [(27, con27), (28, con28)] }
def F11 (n : Nat) : Cf := { N := n, keep := [0, 1, 2, 4, 90000, 90004, 90005, 90006, 90007, 90009, 90010, 90011], live := lk [] }
def dec11 (os : List (Lf C)) (rs : List (Bool × List (Lf C))) : Option (List (C .e82) × List (C .e77) × List (C .e115) × List (C .e118) × List (C .e121) × List (C .e124) × List (C .e127) × Int) := match os, rs with
  | [.row .e82 o0, .row .e77 o1, .row .e115 o2, .row .e118 o3, .row .e121 o4, .row .e124 o5, .row .e127 o6], [(false, [.int .i64 z0])] => some (o0, o1, o2, o3, o4, o5, o6, z0)
  | _, _ => none
noncomputable def G11n (n : Nat) (a0 : VHallBook) (a1 : Int) : Option (List (C .e82) × List (C .e77) × List (C .e115) × List (C .e118) × List (C .e121) × List (C .e124) × List (C .e127) × Int) :=
      Option.bind (G27 (⟨a0.Gate_Now, a0.Gate_Tick, a0.Gate_Given, a0.Gate_Objects, a0.Gate_Grants, a0.Gate_Ledgers, a0.Gate_Purses⟩ : VGateBook) a1) fun r1 =>
      Option.bind (G28 (⟨a0.Stew_Now, a0.Stew_Services, a0.Stew_Copies, a0.Stew_Berths⟩ : VStewBook) r1.2.2.2.2) fun r2 =>
      some (r1.1, r1.2.1, r1.2.2.1, r1.2.2.2.1, r2.1, r2.2.1, r2.2.2.1, r2.2.2.2)
theorem t11 (kp : Nat → Prop) (kh : Nat → Option Obj) (hd : Nat → Value) (n : Nat) (a0 : VHallBook) (a1 : Int) : runFnW (X11.gh kp kh hd) (F11 n) Go.Proofs.Try.f11 [(true, [.int .i64 a0.Gate_Now, .int .i64 a0.Gate_Tick, .int .i64 a0.Gate_Given, .row .e82 a0.Gate_Objects, .row .e77 a0.Gate_Grants, .row .e115 a0.Gate_Ledgers, .row .e118 a0.Gate_Purses, .int .i64 a0.Stew_Now, .row .e121 a0.Stew_Services, .row .e124 a0.Stew_Copies, .row .e127 a0.Stew_Berths]), (false, [.int .i64 a1])] dec11 = G11n n a0 a1 := by
  kernel_rfl
noncomputable def G11 (a0 : VHallBook) (a1 : Int) : Option (List (C .e82) × List (C .e77) × List (C .e115) × List (C .e118) × List (C .e121) × List (C .e124) × List (C .e127) × Int) := G11n fuel a0 a1
noncomputable def con11 : ConW C := { R0 := List (C .e82) × List (C .e77) × List (C .e115) × List (C .e118) × List (C .e121) × List (C .e124) × List (C .e127) × Int, out := fun r => [.row .e82 r.1, .row .e77 r.2.1, .row .e115 r.2.2.1, .row .e118 r.2.2.2.1, .row .e121 r.2.2.2.2.1, .row .e124 r.2.2.2.2.2.1, .row .e127 r.2.2.2.2.2.2.1], ret := fun r => [(false, [.int .i64 r.2.2.2.2.2.2.2])], g := fun rs => match rs with
  | [(true, [.int .i64 y0_0, .int .i64 y0_1, .int .i64 y0_2, .row .e82 y0_3, .row .e77 y0_4, .row .e115 y0_5, .row .e118 y0_6, .int .i64 y0_7, .row .e121 y0_8, .row .e124 y0_9, .row .e127 y0_10]), (false, [.int .i64 y1])] => G11 ⟨y0_0, y0_1, y0_2, y0_3, y0_4, y0_5, y0_6, y0_7, y0_8, y0_9, y0_10⟩ y1
  | _ => none }
theorem x11 : XOk Go.Proofs.Try.prog X11 := ⟨tks_ok, els_ok⟩
theorem q11 : Cons Go.Proofs.Try.prog X11 := ⟨lkR_ok (l := []) trivial, lkW_ok (l := [(27, con27), (28, con28)]) ⟨c27, c28, trivial⟩⟩
theorem c11 : ConWOk Go.Proofs.Try.prog KK 11 con11 := by
  refine conw_of x11 q11 (by kernel_rfl) (f := 11) (fn := Go.Proofs.Try.f11) (c := bodyOf Go.Proofs.Try.f11) (by kernel_rfl) (by kernel_rfl) (by kernel_rfl) (nameB (by kernel_rfl)) con11 dec11 (fun os rs r0 h => ?_) (fun rs r0 h => ?_)
  · unfold dec11 at h
    split at h
    · cases h; exact ⟨rfl, rfl⟩
    · cases h
  · simp only [con11] at h
    split at h
    · rename_i y0_0 y0_1 y0_2 y0_3 y0_4 y0_5 y0_6 y0_7 y0_8 y0_9 y0_10 y1
      exact ⟨Nat.le_of_ble_eq_true (by kernel_rfl), F11 fuel, fun kp kh hd => (t11 kp kh hd fuel ⟨y0_0, y0_1, y0_2, y0_3, y0_4, y0_5, y0_6, y0_7, y0_8, y0_9, y0_10⟩ y1).trans h⟩
    · cases h
/-! ### f85 loop.example/wharfdesk/laws.heldStringS -/
noncomputable def X85 : Cx C := { K := KK, tk := lk tks, con := lkC [(53, con53)], conw := lkC [] }
def F85 (n : Nat) : Cf := { N := n, keep := [0, 1, 4, 5, 9, 18], live := lk [(0, [0, 1, 5])] }
def dec85 (rs : List (Bool × List (Lf C))) : Option (Int) := match rs with
  | [(false, [.int .i64 z0])] => some z0
  | _ => none
abbrev A85_0 : Type := List (C .e9) × Int × Int
def s85_0 : A85_0 → St C := fun (x0_0, x0_1, x0_2) => { env := [(0, .one (.row .e9 x0_0)), (1, .one (.int .i64 x0_1)), (5, .one (.int .i64 x0_2))], objs := [], base := 0 }
noncomputable def r85_0 (n : Nat)  (rec0 : A85_0 → Option (Int)) : A85_0 → Option (Int) := fun (x0_0, x0_1, x0_2) =>
      cond (decide (x0_2 < (x0_0.length : Int)))
      (cond (decide (0 ≤ x0_2)) (Option.bind x0_0[x0_2.toNat]? fun x1 => Option.bind (G53 x0_1) fun r2 =>
      cond (!decide (x1 = r2))
      (some ((-1)))
      (rec0 (x0_0, IntKind.i64.wrap (x0_1 + 1), IntKind.i64.wrap (x0_2 + 1)))) none)
      (some (x0_1))
noncomputable def LP85_0 (n : Nat)  (x : A85_0) : Option (Int) := lpN (r85_0 n ) n x
noncomputable def MP85_0 (n : Nat)  (x : A85_0) : Option (Int) := iter (fun rec S => run X85 (F85 n) (codeAt (bodyOf Go.Proofs.Try.f85) [1, 0, 1, 0, 0]) 0 S (lopK rec (blkK 0 (seqK (run X85 (F85 n) (codeAt (bodyOf Go.Proofs.Try.f85) [1, 1]) 0) (kTop X85 Go.Proofs.Try.f85 dec85))))) [0, 1, 5] n (s85_0 x)
theorem m85_0 (n : Nat)  (x : A85_0) : MP85_0 n  x = LP85_0 n  x := by
  refine iter_eq s85_0 (r85_0 n ) (fun rec0 x => ?_) n x
  obtain ⟨x0_0, x0_1, x0_2⟩ := x
  kernel_rfl
noncomputable def G85n (n : Nat) (a0 : List (C .e9)) (a1 : Int) : Option (Int) :=
      LP85_0 n  (a0, a1, 0)
theorem t85 (n : Nat) (a0 : List (C .e9)) (a1 : Int) : runFn X85 (F85 n) Go.Proofs.Try.f85 [.one (.row .e9 a0), .one (.int .i64 a1)] dec85 = G85n n a0 a1 := by
  have h : runFn X85 (F85 n) Go.Proofs.Try.f85 [.one (.row .e9 a0), .one (.int .i64 a1)] dec85 =
      MP85_0 n  (a0, a1, 0) := by kernel_rfl
  simp only [h, G85n, m85_0]
noncomputable def G85 (a0 : List (C .e9)) (a1 : Int) : Option (Int) := G85n fuel a0 a1
noncomputable def con85 : Con C := { R0 := Int, ret := fun r => [(false, [.int .i64 r])], g := fun vs => match vs with
  | [.one (.row .e9 y0), .one (.int .i64 y1)] => G85 y0 y1
  | _ => none }
theorem x85 : XOk Go.Proofs.Try.prog X85 := ⟨tks_ok, els_ok⟩
theorem q85 : Cons Go.Proofs.Try.prog X85 := ⟨lkR_ok (l := [(53, con53)]) ⟨c53, trivial⟩, lkW_ok (l := []) trivial⟩
theorem c85 : ConOk Go.Proofs.Try.prog KK 85 con85 := by
  refine con_dec x85 q85 (by kernel_rfl) (f := 85) (fn := Go.Proofs.Try.f85) (c := bodyOf Go.Proofs.Try.f85) (by kernel_rfl) (by kernel_rfl) (by kernel_rfl) (nameB (by kernel_rfl)) con85 dec85 (fun rs r0 h => ?_) (fun vs r0 h => ?_)
  · unfold dec85 at h
    split at h
    · cases h; rfl
    · cases h
  · simp only [con85] at h
    split at h
    · rename_i y0 y1
      exact ⟨Nat.le_of_ble_eq_true (by kernel_rfl), F85 fuel, (t85 fuel y0 y1).trans h⟩
    · cases h
/-! ### f61 loop.example/wharfdesk/laws.heldGateObjectS -/
noncomputable def X61 : Cx C := { K := KK, tk := lk tks, con := lkC [(53, con53), (85, con85)], conw := lkC [] }
def F61 (n : Nat) : Cf := { N := n, keep := [0, 1, 4, 5, 9, 19, 29, 39, 50, 59, 70, 77], live := lk [(0, [0, 1, 5])] }
def dec61 (rs : List (Bool × List (Lf C))) : Option (Int) := match rs with
  | [(false, [.int .i64 z0])] => some z0
  | _ => none
abbrev A61_0 : Type := List (C .e82) × Int × Int
def s61_0 : A61_0 → St C := fun (x0_0, x0_1, x0_2) => { env := [(0, .one (.row .e82 x0_0)), (1, .one (.int .i64 x0_1)), (5, .one (.int .i64 x0_2))], objs := [], base := 0 }
noncomputable def r61_0 (n : Nat)  (rec0 : A61_0 → Option (Int)) : A61_0 → Option (Int) := fun (x0_0, x0_1, x0_2) =>
      cond (decide (x0_2 < (x0_0.length : Int)))
      (cond (decide (0 ≤ x0_2)) (Option.bind x0_0[x0_2.toNat]? fun x1 => Option.bind (G53 x0_1) fun r2 =>
      cond (!decide (x1.Kind = r2))
      (some ((-1)))
      (cond (decide (0 ≤ x0_2)) (Option.bind x0_0[x0_2.toNat]? fun x3 => Option.bind (G53 (IntKind.i64.wrap (x0_1 + 1))) fun r4 =>
      cond (!decide (x3.Name = r4))
      (some ((-1)))
      (cond (decide (0 ≤ x0_2)) (Option.bind x0_0[x0_2.toNat]? fun x5 => Option.bind (G53 (IntKind.i64.wrap ((IntKind.i64.wrap (x0_1 + 1)) + 1))) fun r6 =>
      cond (!decide (x5.Team = r6))
      (some ((-1)))
      (cond (decide (0 ≤ x0_2)) (Option.bind x0_0[x0_2.toNat]? fun x7 => Option.bind (G85 x7.Values (IntKind.i64.wrap ((IntKind.i64.wrap ((IntKind.i64.wrap (x0_1 + 1)) + 1)) + 1))) fun r8 =>
      cond (decide (r8 < 0))
      (some ((-1)))
      (cond (decide (0 ≤ x0_2)) (Option.bind x0_0[x0_2.toNat]? fun x9 => cond (decide (3 = 0)) none (cond (!(x9.Ending == ((r8.tmod 3) == 0)))
      (some ((-1)))
      (cond (decide (0 ≤ x0_2)) (Option.bind x0_0[x0_2.toNat]? fun x10 => Option.bind (G85 x10.Holds (IntKind.i64.wrap (r8 + 1))) fun r11 =>
      cond (decide (r11 < 0))
      (some ((-1)))
      (cond (decide (0 ≤ x0_2)) (Option.bind x0_0[x0_2.toNat]? fun x12 => cond (x12.Version != r11)
      (some ((-1)))
      (rec0 (x0_0, IntKind.i64.wrap (r11 + 1), IntKind.i64.wrap (x0_2 + 1)))) none)) none))) none)) none)) none)) none)) none)
      (some (x0_1))
noncomputable def LP61_0 (n : Nat)  (x : A61_0) : Option (Int) := lpN (r61_0 n ) n x
noncomputable def MP61_0 (n : Nat)  (x : A61_0) : Option (Int) := iter (fun rec S => run X61 (F61 n) (codeAt (bodyOf Go.Proofs.Try.f61) [1, 0, 1, 0, 0]) 0 S (lopK rec (blkK 0 (seqK (run X61 (F61 n) (codeAt (bodyOf Go.Proofs.Try.f61) [1, 1]) 0) (kTop X61 Go.Proofs.Try.f61 dec61))))) [0, 1, 5] n (s61_0 x)
theorem m61_0 (n : Nat)  (x : A61_0) : MP61_0 n  x = LP61_0 n  x := by
  refine iter_eq s61_0 (r61_0 n ) (fun rec0 x => ?_) n x
  obtain ⟨x0_0, x0_1, x0_2⟩ := x
  kernel_rfl
noncomputable def G61n (n : Nat) (a0 : List (C .e82)) (a1 : Int) : Option (Int) :=
      LP61_0 n  (a0, a1, 0)
theorem t61 (n : Nat) (a0 : List (C .e82)) (a1 : Int) : runFn X61 (F61 n) Go.Proofs.Try.f61 [.one (.row .e82 a0), .one (.int .i64 a1)] dec61 = G61n n a0 a1 := by
  have h : runFn X61 (F61 n) Go.Proofs.Try.f61 [.one (.row .e82 a0), .one (.int .i64 a1)] dec61 =
      MP61_0 n  (a0, a1, 0) := by kernel_rfl
  simp only [h, G61n, m61_0]
noncomputable def G61 (a0 : List (C .e82)) (a1 : Int) : Option (Int) := G61n fuel a0 a1
noncomputable def con61 : Con C := { R0 := Int, ret := fun r => [(false, [.int .i64 r])], g := fun vs => match vs with
  | [.one (.row .e82 y0), .one (.int .i64 y1)] => G61 y0 y1
  | _ => none }
theorem x61 : XOk Go.Proofs.Try.prog X61 := ⟨tks_ok, els_ok⟩
theorem q61 : Cons Go.Proofs.Try.prog X61 := ⟨lkR_ok (l := [(53, con53), (85, con85)]) ⟨c53, c85, trivial⟩, lkW_ok (l := []) trivial⟩
theorem c61 : ConOk Go.Proofs.Try.prog KK 61 con61 := by
  refine con_dec x61 q61 (by kernel_rfl) (f := 61) (fn := Go.Proofs.Try.f61) (c := bodyOf Go.Proofs.Try.f61) (by kernel_rfl) (by kernel_rfl) (by kernel_rfl) (nameB (by kernel_rfl)) con61 dec61 (fun rs r0 h => ?_) (fun vs r0 h => ?_)
  · unfold dec61 at h
    split at h
    · cases h; rfl
    · cases h
  · simp only [con61] at h
    split at h
    · rename_i y0 y1
      exact ⟨Nat.le_of_ble_eq_true (by kernel_rfl), F61 fuel, (t61 fuel y0 y1).trans h⟩
    · cases h
/-! ### f86 loop.example/wharfdesk/laws.heldIntS -/
noncomputable def X86 : Cx C := { K := KK, tk := lk tks, con := lkC [], conw := lkC [] }
def F86 (n : Nat) : Cf := { N := n, keep := [0, 1, 4, 5, 9, 17], live := lk [(0, [0, 1, 5])] }
def dec86 (rs : List (Bool × List (Lf C))) : Option (Int) := match rs with
  | [(false, [.int .i64 z0])] => some z0
  | _ => none
abbrev A86_0 : Type := List (C .e3) × Int × Int
def s86_0 : A86_0 → St C := fun (x0_0, x0_1, x0_2) => { env := [(0, .one (.row .e3 x0_0)), (1, .one (.int .i64 x0_1)), (5, .one (.int .i64 x0_2))], objs := [], base := 0 }
noncomputable def r86_0 (n : Nat)  (rec0 : A86_0 → Option (Int)) : A86_0 → Option (Int) := fun (x0_0, x0_1, x0_2) =>
      cond (decide (x0_2 < (x0_0.length : Int)))
      (cond (decide (0 ≤ x0_2)) (Option.bind x0_0[x0_2.toNat]? fun x1 => cond (x1 != x0_1)
      (some ((-1)))
      (rec0 (x0_0, IntKind.i64.wrap (x0_1 + 1), IntKind.i64.wrap (x0_2 + 1)))) none)
      (some (x0_1))
noncomputable def LP86_0 (n : Nat)  (x : A86_0) : Option (Int) := lpN (r86_0 n ) n x
noncomputable def MP86_0 (n : Nat)  (x : A86_0) : Option (Int) := iter (fun rec S => run X86 (F86 n) (codeAt (bodyOf Go.Proofs.Try.f86) [1, 0, 1, 0, 0]) 0 S (lopK rec (blkK 0 (seqK (run X86 (F86 n) (codeAt (bodyOf Go.Proofs.Try.f86) [1, 1]) 0) (kTop X86 Go.Proofs.Try.f86 dec86))))) [0, 1, 5] n (s86_0 x)
theorem m86_0 (n : Nat)  (x : A86_0) : MP86_0 n  x = LP86_0 n  x := by
  refine iter_eq s86_0 (r86_0 n ) (fun rec0 x => ?_) n x
  obtain ⟨x0_0, x0_1, x0_2⟩ := x
  kernel_rfl
noncomputable def G86n (n : Nat) (a0 : List (C .e3)) (a1 : Int) : Option (Int) :=
      LP86_0 n  (a0, a1, 0)
theorem t86 (n : Nat) (a0 : List (C .e3)) (a1 : Int) : runFn X86 (F86 n) Go.Proofs.Try.f86 [.one (.row .e3 a0), .one (.int .i64 a1)] dec86 = G86n n a0 a1 := by
  have h : runFn X86 (F86 n) Go.Proofs.Try.f86 [.one (.row .e3 a0), .one (.int .i64 a1)] dec86 =
      MP86_0 n  (a0, a1, 0) := by kernel_rfl
  simp only [h, G86n, m86_0]
noncomputable def G86 (a0 : List (C .e3)) (a1 : Int) : Option (Int) := G86n fuel a0 a1
noncomputable def con86 : Con C := { R0 := Int, ret := fun r => [(false, [.int .i64 r])], g := fun vs => match vs with
  | [.one (.row .e3 y0), .one (.int .i64 y1)] => G86 y0 y1
  | _ => none }
theorem x86 : XOk Go.Proofs.Try.prog X86 := ⟨tks_ok, els_ok⟩
theorem q86 : Cons Go.Proofs.Try.prog X86 := ⟨lkR_ok (l := []) trivial, lkW_ok (l := []) trivial⟩
theorem c86 : ConOk Go.Proofs.Try.prog KK 86 con86 := by
  refine con_dec x86 q86 (by kernel_rfl) (f := 86) (fn := Go.Proofs.Try.f86) (c := bodyOf Go.Proofs.Try.f86) (by kernel_rfl) (by kernel_rfl) (by kernel_rfl) (nameB (by kernel_rfl)) con86 dec86 (fun rs r0 h => ?_) (fun vs r0 h => ?_)
  · unfold dec86 at h
    split at h
    · cases h; rfl
    · cases h
  · simp only [con86] at h
    split at h
    · rename_i y0 y1
      exact ⟨Nat.le_of_ble_eq_true (by kernel_rfl), F86 fuel, (t86 fuel y0 y1).trans h⟩
    · cases h
/-! ### f62 loop.example/wharfdesk/laws.heldGateGrantS -/
noncomputable def X62 : Cx C := { K := KK, tk := lk tks, con := lkC [(53, con53), (86, con86)], conw := lkC [] }
def F62 (n : Nat) : Cf := { N := n, keep := [0, 1, 4, 5, 9, 18, 28, 38, 50, 59, 70, 81], live := lk [(0, [0, 1, 5])] }
def dec62 (rs : List (Bool × List (Lf C))) : Option (Int) := match rs with
  | [(false, [.int .i64 z0])] => some z0
  | _ => none
abbrev A62_0 : Type := List (C .e77) × Int × Int
def s62_0 : A62_0 → St C := fun (x0_0, x0_1, x0_2) => { env := [(0, .one (.row .e77 x0_0)), (1, .one (.int .i64 x0_1)), (5, .one (.int .i64 x0_2))], objs := [], base := 0 }
noncomputable def r62_0 (n : Nat)  (rec0 : A62_0 → Option (Int)) : A62_0 → Option (Int) := fun (x0_0, x0_1, x0_2) =>
      cond (decide (x0_2 < (x0_0.length : Int)))
      (cond (decide (0 ≤ x0_2)) (Option.bind x0_0[x0_2.toNat]? fun x1 => cond (x1.Number != x0_1)
      (some ((-1)))
      (cond (decide (0 ≤ x0_2)) (Option.bind x0_0[x0_2.toNat]? fun x2 => Option.bind (G53 (IntKind.i64.wrap (x0_1 + 1))) fun r3 =>
      cond (!decide (x2.To = r3))
      (some ((-1)))
      (cond (decide (0 ≤ x0_2)) (Option.bind x0_0[x0_2.toNat]? fun x4 => Option.bind (G53 (IntKind.i64.wrap ((IntKind.i64.wrap (x0_1 + 1)) + 1))) fun r5 =>
      cond (!decide (x4.By = r5))
      (some ((-1)))
      (cond (decide (0 ≤ x0_2)) (Option.bind x0_0[x0_2.toNat]? fun x6 => Option.bind (G86 x6.Rule_Verbs (IntKind.i64.wrap ((IntKind.i64.wrap ((IntKind.i64.wrap (x0_1 + 1)) + 1)) + 1))) fun r7 =>
      cond (decide (r7 < 0))
      (some ((-1)))
      (cond (decide (0 ≤ x0_2)) (Option.bind x0_0[x0_2.toNat]? fun x8 => Option.bind (G53 r7) fun r9 =>
      cond (!decide (x8.Rule_Kind = r9))
      (some ((-1)))
      (cond (decide (0 ≤ x0_2)) (Option.bind x0_0[x0_2.toNat]? fun x10 => Option.bind (G53 (IntKind.i64.wrap (r7 + 1))) fun r11 =>
      cond (!decide (x10.Rule_Team = r11))
      (some ((-1)))
      (cond (decide (0 ≤ x0_2)) (Option.bind x0_0[x0_2.toNat]? fun x12 => Option.bind (G53 (IntKind.i64.wrap ((IntKind.i64.wrap (r7 + 1)) + 1))) fun r13 =>
      cond (!decide (x12.Rule_Prefix = r13))
      (some ((-1)))
      (rec0 (x0_0, IntKind.i64.wrap ((IntKind.i64.wrap ((IntKind.i64.wrap (r7 + 1)) + 1)) + 1), IntKind.i64.wrap (x0_2 + 1)))) none)) none)) none)) none)) none)) none)) none)
      (some (x0_1))
noncomputable def LP62_0 (n : Nat)  (x : A62_0) : Option (Int) := lpN (r62_0 n ) n x
noncomputable def MP62_0 (n : Nat)  (x : A62_0) : Option (Int) := iter (fun rec S => run X62 (F62 n) (codeAt (bodyOf Go.Proofs.Try.f62) [1, 0, 1, 0, 0]) 0 S (lopK rec (blkK 0 (seqK (run X62 (F62 n) (codeAt (bodyOf Go.Proofs.Try.f62) [1, 1]) 0) (kTop X62 Go.Proofs.Try.f62 dec62))))) [0, 1, 5] n (s62_0 x)
theorem m62_0 (n : Nat)  (x : A62_0) : MP62_0 n  x = LP62_0 n  x := by
  refine iter_eq s62_0 (r62_0 n ) (fun rec0 x => ?_) n x
  obtain ⟨x0_0, x0_1, x0_2⟩ := x
  kernel_rfl
noncomputable def G62n (n : Nat) (a0 : List (C .e77)) (a1 : Int) : Option (Int) :=
      LP62_0 n  (a0, a1, 0)
theorem t62 (n : Nat) (a0 : List (C .e77)) (a1 : Int) : runFn X62 (F62 n) Go.Proofs.Try.f62 [.one (.row .e77 a0), .one (.int .i64 a1)] dec62 = G62n n a0 a1 := by
  have h : runFn X62 (F62 n) Go.Proofs.Try.f62 [.one (.row .e77 a0), .one (.int .i64 a1)] dec62 =
      MP62_0 n  (a0, a1, 0) := by kernel_rfl
  simp only [h, G62n, m62_0]
noncomputable def G62 (a0 : List (C .e77)) (a1 : Int) : Option (Int) := G62n fuel a0 a1
noncomputable def con62 : Con C := { R0 := Int, ret := fun r => [(false, [.int .i64 r])], g := fun vs => match vs with
  | [.one (.row .e77 y0), .one (.int .i64 y1)] => G62 y0 y1
  | _ => none }
theorem x62 : XOk Go.Proofs.Try.prog X62 := ⟨tks_ok, els_ok⟩
theorem q62 : Cons Go.Proofs.Try.prog X62 := ⟨lkR_ok (l := [(53, con53), (86, con86)]) ⟨c53, c86, trivial⟩, lkW_ok (l := []) trivial⟩
theorem c62 : ConOk Go.Proofs.Try.prog KK 62 con62 := by
  refine con_dec x62 q62 (by kernel_rfl) (f := 62) (fn := Go.Proofs.Try.f62) (c := bodyOf Go.Proofs.Try.f62) (by kernel_rfl) (by kernel_rfl) (by kernel_rfl) (nameB (by kernel_rfl)) con62 dec62 (fun rs r0 h => ?_) (fun vs r0 h => ?_)
  · unfold dec62 at h
    split at h
    · cases h; rfl
    · cases h
  · simp only [con62] at h
    split at h
    · rename_i y0 y1
      exact ⟨Nat.le_of_ble_eq_true (by kernel_rfl), F62 fuel, (t62 fuel y0 y1).trans h⟩
    · cases h
/-! ### f63 loop.example/wharfdesk/laws.heldGateLedgerS -/
noncomputable def X63 : Cx C := { K := KK, tk := lk tks, con := lkC [(53, con53)], conw := lkC [] }
def F63 (n : Nat) : Cf := { N := n, keep := [0, 1, 4, 5, 9, 19, 29, 38, 47], live := lk [(0, [0, 1, 5])] }
def dec63 (rs : List (Bool × List (Lf C))) : Option (Int) := match rs with
  | [(false, [.int .i64 z0])] => some z0
  | _ => none
abbrev A63_0 : Type := List (C .e115) × Int × Int
def s63_0 : A63_0 → St C := fun (x0_0, x0_1, x0_2) => { env := [(0, .one (.row .e115 x0_0)), (1, .one (.int .i64 x0_1)), (5, .one (.int .i64 x0_2))], objs := [], base := 0 }
noncomputable def r63_0 (n : Nat)  (rec0 : A63_0 → Option (Int)) : A63_0 → Option (Int) := fun (x0_0, x0_1, x0_2) =>
      cond (decide (x0_2 < (x0_0.length : Int)))
      (cond (decide (0 ≤ x0_2)) (Option.bind x0_0[x0_2.toNat]? fun x1 => Option.bind (G53 x0_1) fun r2 =>
      cond (!decide (x1.Team = r2))
      (some ((-1)))
      (cond (decide (0 ≤ x0_2)) (Option.bind x0_0[x0_2.toNat]? fun x3 => Option.bind (G53 (IntKind.i64.wrap (x0_1 + 1))) fun r4 =>
      cond (!decide (x3.Resource = r4))
      (some ((-1)))
      (cond (decide (0 ≤ x0_2)) (Option.bind x0_0[x0_2.toNat]? fun x5 => cond (x5.Most != (IntKind.i64.wrap ((IntKind.i64.wrap (x0_1 + 1)) + 1)))
      (some ((-1)))
      (cond (decide (0 ≤ x0_2)) (Option.bind x0_0[x0_2.toNat]? fun x6 => cond (x6.Free != (IntKind.i64.wrap ((IntKind.i64.wrap ((IntKind.i64.wrap (x0_1 + 1)) + 1)) + 1)))
      (some ((-1)))
      (rec0 (x0_0, IntKind.i64.wrap ((IntKind.i64.wrap ((IntKind.i64.wrap ((IntKind.i64.wrap (x0_1 + 1)) + 1)) + 1)) + 1), IntKind.i64.wrap (x0_2 + 1)))) none)) none)) none)) none)
      (some (x0_1))
noncomputable def LP63_0 (n : Nat)  (x : A63_0) : Option (Int) := lpN (r63_0 n ) n x
noncomputable def MP63_0 (n : Nat)  (x : A63_0) : Option (Int) := iter (fun rec S => run X63 (F63 n) (codeAt (bodyOf Go.Proofs.Try.f63) [1, 0, 1, 0, 0]) 0 S (lopK rec (blkK 0 (seqK (run X63 (F63 n) (codeAt (bodyOf Go.Proofs.Try.f63) [1, 1]) 0) (kTop X63 Go.Proofs.Try.f63 dec63))))) [0, 1, 5] n (s63_0 x)
theorem m63_0 (n : Nat)  (x : A63_0) : MP63_0 n  x = LP63_0 n  x := by
  refine iter_eq s63_0 (r63_0 n ) (fun rec0 x => ?_) n x
  obtain ⟨x0_0, x0_1, x0_2⟩ := x
  kernel_rfl
noncomputable def G63n (n : Nat) (a0 : List (C .e115)) (a1 : Int) : Option (Int) :=
      LP63_0 n  (a0, a1, 0)
theorem t63 (n : Nat) (a0 : List (C .e115)) (a1 : Int) : runFn X63 (F63 n) Go.Proofs.Try.f63 [.one (.row .e115 a0), .one (.int .i64 a1)] dec63 = G63n n a0 a1 := by
  have h : runFn X63 (F63 n) Go.Proofs.Try.f63 [.one (.row .e115 a0), .one (.int .i64 a1)] dec63 =
      MP63_0 n  (a0, a1, 0) := by kernel_rfl
  simp only [h, G63n, m63_0]
noncomputable def G63 (a0 : List (C .e115)) (a1 : Int) : Option (Int) := G63n fuel a0 a1
noncomputable def con63 : Con C := { R0 := Int, ret := fun r => [(false, [.int .i64 r])], g := fun vs => match vs with
  | [.one (.row .e115 y0), .one (.int .i64 y1)] => G63 y0 y1
  | _ => none }
theorem x63 : XOk Go.Proofs.Try.prog X63 := ⟨tks_ok, els_ok⟩
theorem q63 : Cons Go.Proofs.Try.prog X63 := ⟨lkR_ok (l := [(53, con53)]) ⟨c53, trivial⟩, lkW_ok (l := []) trivial⟩
theorem c63 : ConOk Go.Proofs.Try.prog KK 63 con63 := by
  refine con_dec x63 q63 (by kernel_rfl) (f := 63) (fn := Go.Proofs.Try.f63) (c := bodyOf Go.Proofs.Try.f63) (by kernel_rfl) (by kernel_rfl) (by kernel_rfl) (nameB (by kernel_rfl)) con63 dec63 (fun rs r0 h => ?_) (fun vs r0 h => ?_)
  · unfold dec63 at h
    split at h
    · cases h; rfl
    · cases h
  · simp only [con63] at h
    split at h
    · rename_i y0 y1
      exact ⟨Nat.le_of_ble_eq_true (by kernel_rfl), F63 fuel, (t63 fuel y0 y1).trans h⟩
    · cases h
/-! ### f64 loop.example/wharfdesk/laws.heldGatePurseS -/
noncomputable def X64 : Cx C := { K := KK, tk := lk tks, con := lkC [(53, con53)], conw := lkC [] }
def F64 (n : Nat) : Cf := { N := n, keep := [0, 1, 4, 5, 9, 19, 29, 39, 48, 57], live := lk [(0, [0, 1, 5])] }
def dec64 (rs : List (Bool × List (Lf C))) : Option (Int) := match rs with
  | [(false, [.int .i64 z0])] => some z0
  | _ => none
abbrev A64_0 : Type := List (C .e118) × Int × Int
def s64_0 : A64_0 → St C := fun (x0_0, x0_1, x0_2) => { env := [(0, .one (.row .e118 x0_0)), (1, .one (.int .i64 x0_1)), (5, .one (.int .i64 x0_2))], objs := [], base := 0 }
noncomputable def r64_0 (n : Nat)  (rec0 : A64_0 → Option (Int)) : A64_0 → Option (Int) := fun (x0_0, x0_1, x0_2) =>
      cond (decide (x0_2 < (x0_0.length : Int)))
      (cond (decide (0 ≤ x0_2)) (Option.bind x0_0[x0_2.toNat]? fun x1 => Option.bind (G53 x0_1) fun r2 =>
      cond (!decide (x1.Door = r2))
      (some ((-1)))
      (cond (decide (0 ≤ x0_2)) (Option.bind x0_0[x0_2.toNat]? fun x3 => Option.bind (G53 (IntKind.i64.wrap (x0_1 + 1))) fun r4 =>
      cond (!decide (x3.Team = r4))
      (some ((-1)))
      (cond (decide (0 ≤ x0_2)) (Option.bind x0_0[x0_2.toNat]? fun x5 => Option.bind (G53 (IntKind.i64.wrap ((IntKind.i64.wrap (x0_1 + 1)) + 1))) fun r6 =>
      cond (!decide (x5.Resource = r6))
      (some ((-1)))
      (cond (decide (0 ≤ x0_2)) (Option.bind x0_0[x0_2.toNat]? fun x7 => cond (x7.Amount != (IntKind.i64.wrap ((IntKind.i64.wrap ((IntKind.i64.wrap (x0_1 + 1)) + 1)) + 1)))
      (some ((-1)))
      (cond (decide (0 ≤ x0_2)) (Option.bind x0_0[x0_2.toNat]? fun x8 => cond (x8.Until != (IntKind.i64.wrap ((IntKind.i64.wrap ((IntKind.i64.wrap ((IntKind.i64.wrap (x0_1 + 1)) + 1)) + 1)) + 1)))
      (some ((-1)))
      (rec0 (x0_0, IntKind.i64.wrap ((IntKind.i64.wrap ((IntKind.i64.wrap ((IntKind.i64.wrap ((IntKind.i64.wrap (x0_1 + 1)) + 1)) + 1)) + 1)) + 1), IntKind.i64.wrap (x0_2 + 1)))) none)) none)) none)) none)) none)
      (some (x0_1))
noncomputable def LP64_0 (n : Nat)  (x : A64_0) : Option (Int) := lpN (r64_0 n ) n x
noncomputable def MP64_0 (n : Nat)  (x : A64_0) : Option (Int) := iter (fun rec S => run X64 (F64 n) (codeAt (bodyOf Go.Proofs.Try.f64) [1, 0, 1, 0, 0]) 0 S (lopK rec (blkK 0 (seqK (run X64 (F64 n) (codeAt (bodyOf Go.Proofs.Try.f64) [1, 1]) 0) (kTop X64 Go.Proofs.Try.f64 dec64))))) [0, 1, 5] n (s64_0 x)
theorem m64_0 (n : Nat)  (x : A64_0) : MP64_0 n  x = LP64_0 n  x := by
  refine iter_eq s64_0 (r64_0 n ) (fun rec0 x => ?_) n x
  obtain ⟨x0_0, x0_1, x0_2⟩ := x
  kernel_rfl
noncomputable def G64n (n : Nat) (a0 : List (C .e118)) (a1 : Int) : Option (Int) :=
      LP64_0 n  (a0, a1, 0)
theorem t64 (n : Nat) (a0 : List (C .e118)) (a1 : Int) : runFn X64 (F64 n) Go.Proofs.Try.f64 [.one (.row .e118 a0), .one (.int .i64 a1)] dec64 = G64n n a0 a1 := by
  have h : runFn X64 (F64 n) Go.Proofs.Try.f64 [.one (.row .e118 a0), .one (.int .i64 a1)] dec64 =
      MP64_0 n  (a0, a1, 0) := by kernel_rfl
  simp only [h, G64n, m64_0]
noncomputable def G64 (a0 : List (C .e118)) (a1 : Int) : Option (Int) := G64n fuel a0 a1
noncomputable def con64 : Con C := { R0 := Int, ret := fun r => [(false, [.int .i64 r])], g := fun vs => match vs with
  | [.one (.row .e118 y0), .one (.int .i64 y1)] => G64 y0 y1
  | _ => none }
theorem x64 : XOk Go.Proofs.Try.prog X64 := ⟨tks_ok, els_ok⟩
theorem q64 : Cons Go.Proofs.Try.prog X64 := ⟨lkR_ok (l := [(53, con53)]) ⟨c53, trivial⟩, lkW_ok (l := []) trivial⟩
theorem c64 : ConOk Go.Proofs.Try.prog KK 64 con64 := by
  refine con_dec x64 q64 (by kernel_rfl) (f := 64) (fn := Go.Proofs.Try.f64) (c := bodyOf Go.Proofs.Try.f64) (by kernel_rfl) (by kernel_rfl) (by kernel_rfl) (nameB (by kernel_rfl)) con64 dec64 (fun rs r0 h => ?_) (fun vs r0 h => ?_)
  · unfold dec64 at h
    split at h
    · cases h; rfl
    · cases h
  · simp only [con64] at h
    split at h
    · rename_i y0 y1
      exact ⟨Nat.le_of_ble_eq_true (by kernel_rfl), F64 fuel, (t64 fuel y0 y1).trans h⟩
    · cases h
/-! ### f29 loop.example/wharfdesk/laws.heldGateBook -/
noncomputable def X29 : Cx C := { K := KK, tk := lk tks, con := lkC [(61, con61), (62, con62), (63, con63), (64, con64)], conw := lkC [] }
def F29 (n : Nat) : Cf := { N := n, keep := [0, 1, 2, 4, 10, 16, 22, 28], live := lk [] }
def dec29 (rs : List (Bool × List (Lf C))) : Option (Int) := match rs with
  | [(false, [.int .i64 z0])] => some z0
  | _ => none
noncomputable def G29n (n : Nat) (a0 : VGateBook) (a1 : Int) : Option (Int) :=
      Option.bind (G61 a0.Objects a1) fun r1 =>
      cond (decide (r1 < 0))
      (some ((-1)))
      (Option.bind (G62 a0.Grants r1) fun r2 =>
      cond (decide (r2 < 0))
      (some ((-1)))
      (Option.bind (G63 a0.Ledgers r2) fun r3 =>
      cond (decide (r3 < 0))
      (some ((-1)))
      (Option.bind (G64 a0.Purses r3) fun r4 =>
      cond (decide (r4 < 0))
      (some ((-1)))
      (some (r4)))))
theorem t29 (n : Nat) (a0 : VGateBook) (a1 : Int) : runFn X29 (F29 n) Go.Proofs.Try.f29 [.agg [.int .i64 a0.Now, .int .i64 a0.Tick, .int .i64 a0.Given, .row .e82 a0.Objects, .row .e77 a0.Grants, .row .e115 a0.Ledgers, .row .e118 a0.Purses], .one (.int .i64 a1)] dec29 = G29n n a0 a1 := by
  kernel_rfl
noncomputable def G29 (a0 : VGateBook) (a1 : Int) : Option (Int) := G29n fuel a0 a1
noncomputable def con29 : Con C := { R0 := Int, ret := fun r => [(false, [.int .i64 r])], g := fun vs => match vs with
  | [.agg [.int .i64 y0_0, .int .i64 y0_1, .int .i64 y0_2, .row .e82 y0_3, .row .e77 y0_4, .row .e115 y0_5, .row .e118 y0_6], .one (.int .i64 y1)] => G29 ⟨y0_0, y0_1, y0_2, y0_3, y0_4, y0_5, y0_6⟩ y1
  | _ => none }
theorem x29 : XOk Go.Proofs.Try.prog X29 := ⟨tks_ok, els_ok⟩
theorem q29 : Cons Go.Proofs.Try.prog X29 := ⟨lkR_ok (l := [(61, con61), (62, con62), (63, con63), (64, con64)]) ⟨c61, c62, c63, c64, trivial⟩, lkW_ok (l := []) trivial⟩
theorem c29 : ConOk Go.Proofs.Try.prog KK 29 con29 := by
  refine con_dec x29 q29 (by kernel_rfl) (f := 29) (fn := Go.Proofs.Try.f29) (c := bodyOf Go.Proofs.Try.f29) (by kernel_rfl) (by kernel_rfl) (by kernel_rfl) (nameB (by kernel_rfl)) con29 dec29 (fun rs r0 h => ?_) (fun vs r0 h => ?_)
  · unfold dec29 at h
    split at h
    · cases h; rfl
    · cases h
  · simp only [con29] at h
    split at h
    · rename_i y0_0 y0_1 y0_2 y0_3 y0_4 y0_5 y0_6 y1
      exact ⟨Nat.le_of_ble_eq_true (by kernel_rfl), F29 fuel, (t29 fuel ⟨y0_0, y0_1, y0_2, y0_3, y0_4, y0_5, y0_6⟩ y1).trans h⟩
    · cases h
/-! ### f65 loop.example/wharfdesk/laws.heldStewServiceS -/
noncomputable def X65 : Cx C := { K := KK, tk := lk tks, con := lkC [(53, con53)], conw := lkC [] }
def F65 (n : Nat) : Cf := { N := n, keep := [0, 1, 4, 5, 9, 19, 28, 39, 48, 57, 66, 75, 84, 93, 102, 111, 120, 129], live := lk [(0, [0, 1, 5])] }
def dec65 (rs : List (Bool × List (Lf C))) : Option (Int) := match rs with
  | [(false, [.int .i64 z0])] => some z0
  | _ => none
abbrev A65_0 : Type := List (C .e121) × Int × Int
def s65_0 : A65_0 → St C := fun (x0_0, x0_1, x0_2) => { env := [(0, .one (.row .e121 x0_0)), (1, .one (.int .i64 x0_1)), (5, .one (.int .i64 x0_2))], objs := [], base := 0 }
noncomputable def r65_0 (n : Nat)  (rec0 : A65_0 → Option (Int)) : A65_0 → Option (Int) := fun (x0_0, x0_1, x0_2) =>
      cond (decide (x0_2 < (x0_0.length : Int)))
      (cond (decide (0 ≤ x0_2)) (Option.bind x0_0[x0_2.toNat]? fun x1 => Option.bind (G53 x0_1) fun r2 =>
      cond (!decide (x1.Name = r2))
      (some ((-1)))
      (cond (decide (0 ≤ x0_2)) (Option.bind x0_0[x0_2.toNat]? fun x3 => cond (x3.Version != (IntKind.i64.wrap (x0_1 + 1)))
      (some ((-1)))
      (cond (decide (0 ≤ x0_2)) (Option.bind x0_0[x0_2.toNat]? fun x4 => cond (decide (3 = 0)) none (cond (!(x4.Gone == (((IntKind.i64.wrap ((IntKind.i64.wrap (x0_1 + 1)) + 1)).tmod 3) == 0)))
      (some ((-1)))
      (cond (decide (0 ≤ x0_2)) (Option.bind x0_0[x0_2.toNat]? fun x5 => cond (x5.Image != (IntKind.i64.wrap ((IntKind.i64.wrap ((IntKind.i64.wrap (x0_1 + 1)) + 1)) + 1)))
      (some ((-1)))
      (cond (decide (0 ≤ x0_2)) (Option.bind x0_0[x0_2.toNat]? fun x6 => cond (x6.Want != (IntKind.i64.wrap ((IntKind.i64.wrap ((IntKind.i64.wrap ((IntKind.i64.wrap (x0_1 + 1)) + 1)) + 1)) + 1)))
      (some ((-1)))
      (cond (decide (0 ≤ x0_2)) (Option.bind x0_0[x0_2.toNat]? fun x7 => cond (x7.Down != (IntKind.i64.wrap ((IntKind.i64.wrap ((IntKind.i64.wrap ((IntKind.i64.wrap ((IntKind.i64.wrap (x0_1 + 1)) + 1)) + 1)) + 1)) + 1)))
      (some ((-1)))
      (cond (decide (0 ≤ x0_2)) (Option.bind x0_0[x0_2.toNat]? fun x8 => cond (x8.Over != (IntKind.i64.wrap ((IntKind.i64.wrap ((IntKind.i64.wrap ((IntKind.i64.wrap ((IntKind.i64.wrap ((IntKind.i64.wrap (x0_1 + 1)) + 1)) + 1)) + 1)) + 1)) + 1)))
      (some ((-1)))
      (cond (decide (0 ≤ x0_2)) (Option.bind x0_0[x0_2.toNat]? fun x9 => cond (x9.Next != (IntKind.i64.wrap ((IntKind.i64.wrap ((IntKind.i64.wrap ((IntKind.i64.wrap ((IntKind.i64.wrap ((IntKind.i64.wrap ((IntKind.i64.wrap (x0_1 + 1)) + 1)) + 1)) + 1)) + 1)) + 1)) + 1)))
      (some ((-1)))
      (cond (decide (0 ≤ x0_2)) (Option.bind x0_0[x0_2.toNat]? fun x10 => cond (x10.Per != (IntKind.i64.wrap ((IntKind.i64.wrap ((IntKind.i64.wrap ((IntKind.i64.wrap ((IntKind.i64.wrap ((IntKind.i64.wrap ((IntKind.i64.wrap ((IntKind.i64.wrap (x0_1 + 1)) + 1)) + 1)) + 1)) + 1)) + 1)) + 1)) + 1)))
      (some ((-1)))
      (cond (decide (0 ≤ x0_2)) (Option.bind x0_0[x0_2.toNat]? fun x11 => cond (x11.Least != (IntKind.i64.wrap ((IntKind.i64.wrap ((IntKind.i64.wrap ((IntKind.i64.wrap ((IntKind.i64.wrap ((IntKind.i64.wrap ((IntKind.i64.wrap ((IntKind.i64.wrap ((IntKind.i64.wrap (x0_1 + 1)) + 1)) + 1)) + 1)) + 1)) + 1)) + 1)) + 1)) + 1)))
      (some ((-1)))
      (cond (decide (0 ≤ x0_2)) (Option.bind x0_0[x0_2.toNat]? fun x12 => cond (x12.Most != (IntKind.i64.wrap ((IntKind.i64.wrap ((IntKind.i64.wrap ((IntKind.i64.wrap ((IntKind.i64.wrap ((IntKind.i64.wrap ((IntKind.i64.wrap ((IntKind.i64.wrap ((IntKind.i64.wrap ((IntKind.i64.wrap (x0_1 + 1)) + 1)) + 1)) + 1)) + 1)) + 1)) + 1)) + 1)) + 1)) + 1)))
      (some ((-1)))
      (cond (decide (0 ≤ x0_2)) (Option.bind x0_0[x0_2.toNat]? fun x13 => cond (x13.Load != (IntKind.i64.wrap ((IntKind.i64.wrap ((IntKind.i64.wrap ((IntKind.i64.wrap ((IntKind.i64.wrap ((IntKind.i64.wrap ((IntKind.i64.wrap ((IntKind.i64.wrap ((IntKind.i64.wrap ((IntKind.i64.wrap ((IntKind.i64.wrap (x0_1 + 1)) + 1)) + 1)) + 1)) + 1)) + 1)) + 1)) + 1)) + 1)) + 1)) + 1)))
      (some ((-1)))
      (cond (decide (0 ≤ x0_2)) (Option.bind x0_0[x0_2.toNat]? fun x14 => cond (x14.Cool != (IntKind.i64.wrap ((IntKind.i64.wrap ((IntKind.i64.wrap ((IntKind.i64.wrap ((IntKind.i64.wrap ((IntKind.i64.wrap ((IntKind.i64.wrap ((IntKind.i64.wrap ((IntKind.i64.wrap ((IntKind.i64.wrap ((IntKind.i64.wrap ((IntKind.i64.wrap (x0_1 + 1)) + 1)) + 1)) + 1)) + 1)) + 1)) + 1)) + 1)) + 1)) + 1)) + 1)) + 1)))
      (some ((-1)))
      (rec0 (x0_0, IntKind.i64.wrap ((IntKind.i64.wrap ((IntKind.i64.wrap ((IntKind.i64.wrap ((IntKind.i64.wrap ((IntKind.i64.wrap ((IntKind.i64.wrap ((IntKind.i64.wrap ((IntKind.i64.wrap ((IntKind.i64.wrap ((IntKind.i64.wrap ((IntKind.i64.wrap ((IntKind.i64.wrap (x0_1 + 1)) + 1)) + 1)) + 1)) + 1)) + 1)) + 1)) + 1)) + 1)) + 1)) + 1)) + 1)) + 1), IntKind.i64.wrap (x0_2 + 1)))) none)) none)) none)) none)) none)) none)) none)) none)) none)) none))) none)) none)) none)
      (some (x0_1))
noncomputable def LP65_0 (n : Nat)  (x : A65_0) : Option (Int) := lpN (r65_0 n ) n x
noncomputable def MP65_0 (n : Nat)  (x : A65_0) : Option (Int) := iter (fun rec S => run X65 (F65 n) (codeAt (bodyOf Go.Proofs.Try.f65) [1, 0, 1, 0, 0]) 0 S (lopK rec (blkK 0 (seqK (run X65 (F65 n) (codeAt (bodyOf Go.Proofs.Try.f65) [1, 1]) 0) (kTop X65 Go.Proofs.Try.f65 dec65))))) [0, 1, 5] n (s65_0 x)
theorem m65_0 (n : Nat)  (x : A65_0) : MP65_0 n  x = LP65_0 n  x := by
  refine iter_eq s65_0 (r65_0 n ) (fun rec0 x => ?_) n x
  obtain ⟨x0_0, x0_1, x0_2⟩ := x
  kernel_rfl
noncomputable def G65n (n : Nat) (a0 : List (C .e121)) (a1 : Int) : Option (Int) :=
      LP65_0 n  (a0, a1, 0)
theorem t65 (n : Nat) (a0 : List (C .e121)) (a1 : Int) : runFn X65 (F65 n) Go.Proofs.Try.f65 [.one (.row .e121 a0), .one (.int .i64 a1)] dec65 = G65n n a0 a1 := by
  have h : runFn X65 (F65 n) Go.Proofs.Try.f65 [.one (.row .e121 a0), .one (.int .i64 a1)] dec65 =
      MP65_0 n  (a0, a1, 0) := by kernel_rfl
  simp only [h, G65n, m65_0]
noncomputable def G65 (a0 : List (C .e121)) (a1 : Int) : Option (Int) := G65n fuel a0 a1
noncomputable def con65 : Con C := { R0 := Int, ret := fun r => [(false, [.int .i64 r])], g := fun vs => match vs with
  | [.one (.row .e121 y0), .one (.int .i64 y1)] => G65 y0 y1
  | _ => none }
theorem x65 : XOk Go.Proofs.Try.prog X65 := ⟨tks_ok, els_ok⟩
theorem q65 : Cons Go.Proofs.Try.prog X65 := ⟨lkR_ok (l := [(53, con53)]) ⟨c53, trivial⟩, lkW_ok (l := []) trivial⟩
theorem c65 : ConOk Go.Proofs.Try.prog KK 65 con65 := by
  refine con_dec x65 q65 (by kernel_rfl) (f := 65) (fn := Go.Proofs.Try.f65) (c := bodyOf Go.Proofs.Try.f65) (by kernel_rfl) (by kernel_rfl) (by kernel_rfl) (nameB (by kernel_rfl)) con65 dec65 (fun rs r0 h => ?_) (fun vs r0 h => ?_)
  · unfold dec65 at h
    split at h
    · cases h; rfl
    · cases h
  · simp only [con65] at h
    split at h
    · rename_i y0 y1
      exact ⟨Nat.le_of_ble_eq_true (by kernel_rfl), F65 fuel, (t65 fuel y0 y1).trans h⟩
    · cases h
/-! ### f66 loop.example/wharfdesk/laws.heldStewCopyS -/
noncomputable def X66 : Cx C := { K := KK, tk := lk tks, con := lkC [(53, con53)], conw := lkC [] }
def F66 (n : Nat) : Cf := { N := n, keep := [0, 1, 4, 5, 9, 19, 28, 37, 46, 55, 66, 76], live := lk [(0, [0, 1, 5])] }
def dec66 (rs : List (Bool × List (Lf C))) : Option (Int) := match rs with
  | [(false, [.int .i64 z0])] => some z0
  | _ => none
abbrev A66_0 : Type := List (C .e124) × Int × Int
def s66_0 : A66_0 → St C := fun (x0_0, x0_1, x0_2) => { env := [(0, .one (.row .e124 x0_0)), (1, .one (.int .i64 x0_1)), (5, .one (.int .i64 x0_2))], objs := [], base := 0 }
noncomputable def r66_0 (n : Nat)  (rec0 : A66_0 → Option (Int)) : A66_0 → Option (Int) := fun (x0_0, x0_1, x0_2) =>
      cond (decide (x0_2 < (x0_0.length : Int)))
      (cond (decide (0 ≤ x0_2)) (Option.bind x0_0[x0_2.toNat]? fun x1 => Option.bind (G53 x0_1) fun r2 =>
      cond (!decide (x1.Service = r2))
      (some ((-1)))
      (cond (decide (0 ≤ x0_2)) (Option.bind x0_0[x0_2.toNat]? fun x3 => cond (x3.Number != (IntKind.i64.wrap (x0_1 + 1)))
      (some ((-1)))
      (cond (decide (0 ≤ x0_2)) (Option.bind x0_0[x0_2.toNat]? fun x4 => cond (x4.Version != (IntKind.i64.wrap ((IntKind.i64.wrap (x0_1 + 1)) + 1)))
      (some ((-1)))
      (cond (decide (0 ≤ x0_2)) (Option.bind x0_0[x0_2.toNat]? fun x5 => cond (x5.Image != (IntKind.i64.wrap ((IntKind.i64.wrap ((IntKind.i64.wrap (x0_1 + 1)) + 1)) + 1)))
      (some ((-1)))
      (cond (decide (0 ≤ x0_2)) (Option.bind x0_0[x0_2.toNat]? fun x6 => cond (x6.State != (IntKind.i64.wrap ((IntKind.i64.wrap ((IntKind.i64.wrap ((IntKind.i64.wrap (x0_1 + 1)) + 1)) + 1)) + 1)))
      (some ((-1)))
      (cond (decide (0 ≤ x0_2)) (Option.bind x0_0[x0_2.toNat]? fun x7 => cond (decide (3 = 0)) none (cond (!(x7.Ending == (((IntKind.i64.wrap ((IntKind.i64.wrap ((IntKind.i64.wrap ((IntKind.i64.wrap ((IntKind.i64.wrap (x0_1 + 1)) + 1)) + 1)) + 1)) + 1)).tmod 3) == 0)))
      (some ((-1)))
      (cond (decide (0 ≤ x0_2)) (Option.bind x0_0[x0_2.toNat]? fun x8 => Option.bind (G53 (IntKind.i64.wrap ((IntKind.i64.wrap ((IntKind.i64.wrap ((IntKind.i64.wrap ((IntKind.i64.wrap ((IntKind.i64.wrap (x0_1 + 1)) + 1)) + 1)) + 1)) + 1)) + 1))) fun r9 =>
      cond (!decide (x8.Berth = r9))
      (some ((-1)))
      (rec0 (x0_0, IntKind.i64.wrap ((IntKind.i64.wrap ((IntKind.i64.wrap ((IntKind.i64.wrap ((IntKind.i64.wrap ((IntKind.i64.wrap ((IntKind.i64.wrap (x0_1 + 1)) + 1)) + 1)) + 1)) + 1)) + 1)) + 1), IntKind.i64.wrap (x0_2 + 1)))) none))) none)) none)) none)) none)) none)) none)
      (some (x0_1))
noncomputable def LP66_0 (n : Nat)  (x : A66_0) : Option (Int) := lpN (r66_0 n ) n x
noncomputable def MP66_0 (n : Nat)  (x : A66_0) : Option (Int) := iter (fun rec S => run X66 (F66 n) (codeAt (bodyOf Go.Proofs.Try.f66) [1, 0, 1, 0, 0]) 0 S (lopK rec (blkK 0 (seqK (run X66 (F66 n) (codeAt (bodyOf Go.Proofs.Try.f66) [1, 1]) 0) (kTop X66 Go.Proofs.Try.f66 dec66))))) [0, 1, 5] n (s66_0 x)
theorem m66_0 (n : Nat)  (x : A66_0) : MP66_0 n  x = LP66_0 n  x := by
  refine iter_eq s66_0 (r66_0 n ) (fun rec0 x => ?_) n x
  obtain ⟨x0_0, x0_1, x0_2⟩ := x
  kernel_rfl
noncomputable def G66n (n : Nat) (a0 : List (C .e124)) (a1 : Int) : Option (Int) :=
      LP66_0 n  (a0, a1, 0)
theorem t66 (n : Nat) (a0 : List (C .e124)) (a1 : Int) : runFn X66 (F66 n) Go.Proofs.Try.f66 [.one (.row .e124 a0), .one (.int .i64 a1)] dec66 = G66n n a0 a1 := by
  have h : runFn X66 (F66 n) Go.Proofs.Try.f66 [.one (.row .e124 a0), .one (.int .i64 a1)] dec66 =
      MP66_0 n  (a0, a1, 0) := by kernel_rfl
  simp only [h, G66n, m66_0]
noncomputable def G66 (a0 : List (C .e124)) (a1 : Int) : Option (Int) := G66n fuel a0 a1
noncomputable def con66 : Con C := { R0 := Int, ret := fun r => [(false, [.int .i64 r])], g := fun vs => match vs with
  | [.one (.row .e124 y0), .one (.int .i64 y1)] => G66 y0 y1
  | _ => none }
theorem x66 : XOk Go.Proofs.Try.prog X66 := ⟨tks_ok, els_ok⟩
theorem q66 : Cons Go.Proofs.Try.prog X66 := ⟨lkR_ok (l := [(53, con53)]) ⟨c53, trivial⟩, lkW_ok (l := []) trivial⟩
theorem c66 : ConOk Go.Proofs.Try.prog KK 66 con66 := by
  refine con_dec x66 q66 (by kernel_rfl) (f := 66) (fn := Go.Proofs.Try.f66) (c := bodyOf Go.Proofs.Try.f66) (by kernel_rfl) (by kernel_rfl) (by kernel_rfl) (nameB (by kernel_rfl)) con66 dec66 (fun rs r0 h => ?_) (fun vs r0 h => ?_)
  · unfold dec66 at h
    split at h
    · cases h; rfl
    · cases h
  · simp only [con66] at h
    split at h
    · rename_i y0 y1
      exact ⟨Nat.le_of_ble_eq_true (by kernel_rfl), F66 fuel, (t66 fuel y0 y1).trans h⟩
    · cases h
/-! ### f67 loop.example/wharfdesk/laws.heldStewBerthS -/
noncomputable def X67 : Cx C := { K := KK, tk := lk tks, con := lkC [(53, con53)], conw := lkC [] }
def F67 (n : Nat) : Cf := { N := n, keep := [0, 1, 4, 5, 9, 19, 30], live := lk [(0, [0, 1, 5])] }
def dec67 (rs : List (Bool × List (Lf C))) : Option (Int) := match rs with
  | [(false, [.int .i64 z0])] => some z0
  | _ => none
abbrev A67_0 : Type := List (C .e127) × Int × Int
def s67_0 : A67_0 → St C := fun (x0_0, x0_1, x0_2) => { env := [(0, .one (.row .e127 x0_0)), (1, .one (.int .i64 x0_1)), (5, .one (.int .i64 x0_2))], objs := [], base := 0 }
noncomputable def r67_0 (n : Nat)  (rec0 : A67_0 → Option (Int)) : A67_0 → Option (Int) := fun (x0_0, x0_1, x0_2) =>
      cond (decide (x0_2 < (x0_0.length : Int)))
      (cond (decide (0 ≤ x0_2)) (Option.bind x0_0[x0_2.toNat]? fun x1 => Option.bind (G53 x0_1) fun r2 =>
      cond (!decide (x1.Name = r2))
      (some ((-1)))
      (cond (decide (0 ≤ x0_2)) (Option.bind x0_0[x0_2.toNat]? fun x3 => cond (decide (3 = 0)) none (cond (!(x3.Drain == (((IntKind.i64.wrap (x0_1 + 1)).tmod 3) == 0)))
      (some ((-1)))
      (rec0 (x0_0, IntKind.i64.wrap ((IntKind.i64.wrap (x0_1 + 1)) + 1), IntKind.i64.wrap (x0_2 + 1))))) none)) none)
      (some (x0_1))
noncomputable def LP67_0 (n : Nat)  (x : A67_0) : Option (Int) := lpN (r67_0 n ) n x
noncomputable def MP67_0 (n : Nat)  (x : A67_0) : Option (Int) := iter (fun rec S => run X67 (F67 n) (codeAt (bodyOf Go.Proofs.Try.f67) [1, 0, 1, 0, 0]) 0 S (lopK rec (blkK 0 (seqK (run X67 (F67 n) (codeAt (bodyOf Go.Proofs.Try.f67) [1, 1]) 0) (kTop X67 Go.Proofs.Try.f67 dec67))))) [0, 1, 5] n (s67_0 x)
theorem m67_0 (n : Nat)  (x : A67_0) : MP67_0 n  x = LP67_0 n  x := by
  refine iter_eq s67_0 (r67_0 n ) (fun rec0 x => ?_) n x
  obtain ⟨x0_0, x0_1, x0_2⟩ := x
  kernel_rfl
noncomputable def G67n (n : Nat) (a0 : List (C .e127)) (a1 : Int) : Option (Int) :=
      LP67_0 n  (a0, a1, 0)
theorem t67 (n : Nat) (a0 : List (C .e127)) (a1 : Int) : runFn X67 (F67 n) Go.Proofs.Try.f67 [.one (.row .e127 a0), .one (.int .i64 a1)] dec67 = G67n n a0 a1 := by
  have h : runFn X67 (F67 n) Go.Proofs.Try.f67 [.one (.row .e127 a0), .one (.int .i64 a1)] dec67 =
      MP67_0 n  (a0, a1, 0) := by kernel_rfl
  simp only [h, G67n, m67_0]
noncomputable def G67 (a0 : List (C .e127)) (a1 : Int) : Option (Int) := G67n fuel a0 a1
noncomputable def con67 : Con C := { R0 := Int, ret := fun r => [(false, [.int .i64 r])], g := fun vs => match vs with
  | [.one (.row .e127 y0), .one (.int .i64 y1)] => G67 y0 y1
  | _ => none }
theorem x67 : XOk Go.Proofs.Try.prog X67 := ⟨tks_ok, els_ok⟩
theorem q67 : Cons Go.Proofs.Try.prog X67 := ⟨lkR_ok (l := [(53, con53)]) ⟨c53, trivial⟩, lkW_ok (l := []) trivial⟩
theorem c67 : ConOk Go.Proofs.Try.prog KK 67 con67 := by
  refine con_dec x67 q67 (by kernel_rfl) (f := 67) (fn := Go.Proofs.Try.f67) (c := bodyOf Go.Proofs.Try.f67) (by kernel_rfl) (by kernel_rfl) (by kernel_rfl) (nameB (by kernel_rfl)) con67 dec67 (fun rs r0 h => ?_) (fun vs r0 h => ?_)
  · unfold dec67 at h
    split at h
    · cases h; rfl
    · cases h
  · simp only [con67] at h
    split at h
    · rename_i y0 y1
      exact ⟨Nat.le_of_ble_eq_true (by kernel_rfl), F67 fuel, (t67 fuel y0 y1).trans h⟩
    · cases h
/-! ### f30 loop.example/wharfdesk/laws.heldStewBook -/
noncomputable def X30 : Cx C := { K := KK, tk := lk tks, con := lkC [(65, con65), (66, con66), (67, con67)], conw := lkC [] }
def F30 (n : Nat) : Cf := { N := n, keep := [0, 1, 2, 4, 10, 16, 22], live := lk [] }
def dec30 (rs : List (Bool × List (Lf C))) : Option (Int) := match rs with
  | [(false, [.int .i64 z0])] => some z0
  | _ => none
noncomputable def G30n (n : Nat) (a0 : VStewBook) (a1 : Int) : Option (Int) :=
      Option.bind (G65 a0.Services a1) fun r1 =>
      cond (decide (r1 < 0))
      (some ((-1)))
      (Option.bind (G66 a0.Copies r1) fun r2 =>
      cond (decide (r2 < 0))
      (some ((-1)))
      (Option.bind (G67 a0.Berths r2) fun r3 =>
      cond (decide (r3 < 0))
      (some ((-1)))
      (some (r3))))
theorem t30 (n : Nat) (a0 : VStewBook) (a1 : Int) : runFn X30 (F30 n) Go.Proofs.Try.f30 [.agg [.int .i64 a0.Now, .row .e121 a0.Services, .row .e124 a0.Copies, .row .e127 a0.Berths], .one (.int .i64 a1)] dec30 = G30n n a0 a1 := by
  kernel_rfl
noncomputable def G30 (a0 : VStewBook) (a1 : Int) : Option (Int) := G30n fuel a0 a1
noncomputable def con30 : Con C := { R0 := Int, ret := fun r => [(false, [.int .i64 r])], g := fun vs => match vs with
  | [.agg [.int .i64 y0_0, .row .e121 y0_1, .row .e124 y0_2, .row .e127 y0_3], .one (.int .i64 y1)] => G30 ⟨y0_0, y0_1, y0_2, y0_3⟩ y1
  | _ => none }
theorem x30 : XOk Go.Proofs.Try.prog X30 := ⟨tks_ok, els_ok⟩
theorem q30 : Cons Go.Proofs.Try.prog X30 := ⟨lkR_ok (l := [(65, con65), (66, con66), (67, con67)]) ⟨c65, c66, c67, trivial⟩, lkW_ok (l := []) trivial⟩
theorem c30 : ConOk Go.Proofs.Try.prog KK 30 con30 := by
  refine con_dec x30 q30 (by kernel_rfl) (f := 30) (fn := Go.Proofs.Try.f30) (c := bodyOf Go.Proofs.Try.f30) (by kernel_rfl) (by kernel_rfl) (by kernel_rfl) (nameB (by kernel_rfl)) con30 dec30 (fun rs r0 h => ?_) (fun vs r0 h => ?_)
  · unfold dec30 at h
    split at h
    · cases h; rfl
    · cases h
  · simp only [con30] at h
    split at h
    · rename_i y0_0 y0_1 y0_2 y0_3 y1
      exact ⟨Nat.le_of_ble_eq_true (by kernel_rfl), F30 fuel, (t30 fuel ⟨y0_0, y0_1, y0_2, y0_3⟩ y1).trans h⟩
    · cases h
/-! ### f12 loop.example/wharfdesk/laws.heldHallBook -/
noncomputable def X12 : Cx C := { K := KK, tk := lk tks, con := lkC [(29, con29), (30, con30)], conw := lkC [] }
def F12 (n : Nat) : Cf := { N := n, keep := [0, 1, 2, 4, 10, 16], live := lk [] }
def dec12 (rs : List (Bool × List (Lf C))) : Option (Int) := match rs with
  | [(false, [.int .i64 z0])] => some z0
  | _ => none
noncomputable def G12n (n : Nat) (a0 : VHallBook) (a1 : Int) : Option (Int) :=
      Option.bind (G29 (⟨a0.Gate_Now, a0.Gate_Tick, a0.Gate_Given, a0.Gate_Objects, a0.Gate_Grants, a0.Gate_Ledgers, a0.Gate_Purses⟩ : VGateBook) a1) fun r1 =>
      cond (decide (r1 < 0))
      (some ((-1)))
      (Option.bind (G30 (⟨a0.Stew_Now, a0.Stew_Services, a0.Stew_Copies, a0.Stew_Berths⟩ : VStewBook) r1) fun r2 =>
      cond (decide (r2 < 0))
      (some ((-1)))
      (some (r2)))
theorem t12 (n : Nat) (a0 : VHallBook) (a1 : Int) : runFn X12 (F12 n) Go.Proofs.Try.f12 [.agg [.int .i64 a0.Gate_Now, .int .i64 a0.Gate_Tick, .int .i64 a0.Gate_Given, .row .e82 a0.Gate_Objects, .row .e77 a0.Gate_Grants, .row .e115 a0.Gate_Ledgers, .row .e118 a0.Gate_Purses, .int .i64 a0.Stew_Now, .row .e121 a0.Stew_Services, .row .e124 a0.Stew_Copies, .row .e127 a0.Stew_Berths], .one (.int .i64 a1)] dec12 = G12n n a0 a1 := by
  kernel_rfl
noncomputable def G12 (a0 : VHallBook) (a1 : Int) : Option (Int) := G12n fuel a0 a1
noncomputable def con12 : Con C := { R0 := Int, ret := fun r => [(false, [.int .i64 r])], g := fun vs => match vs with
  | [.agg [.int .i64 y0_0, .int .i64 y0_1, .int .i64 y0_2, .row .e82 y0_3, .row .e77 y0_4, .row .e115 y0_5, .row .e118 y0_6, .int .i64 y0_7, .row .e121 y0_8, .row .e124 y0_9, .row .e127 y0_10], .one (.int .i64 y1)] => G12 ⟨y0_0, y0_1, y0_2, y0_3, y0_4, y0_5, y0_6, y0_7, y0_8, y0_9, y0_10⟩ y1
  | _ => none }
theorem x12 : XOk Go.Proofs.Try.prog X12 := ⟨tks_ok, els_ok⟩
theorem q12 : Cons Go.Proofs.Try.prog X12 := ⟨lkR_ok (l := [(29, con29), (30, con30)]) ⟨c29, c30, trivial⟩, lkW_ok (l := []) trivial⟩
theorem c12 : ConOk Go.Proofs.Try.prog KK 12 con12 := by
  refine con_dec x12 q12 (by kernel_rfl) (f := 12) (fn := Go.Proofs.Try.f12) (c := bodyOf Go.Proofs.Try.f12) (by kernel_rfl) (by kernel_rfl) (by kernel_rfl) (nameB (by kernel_rfl)) con12 dec12 (fun rs r0 h => ?_) (fun vs r0 h => ?_)
  · unfold dec12 at h
    split at h
    · cases h; rfl
    · cases h
  · simp only [con12] at h
    split at h
    · rename_i y0_0 y0_1 y0_2 y0_3 y0_4 y0_5 y0_6 y0_7 y0_8 y0_9 y0_10 y1
      exact ⟨Nat.le_of_ble_eq_true (by kernel_rfl), F12 fuel, (t12 fuel ⟨y0_0, y0_1, y0_2, y0_3, y0_4, y0_5, y0_6, y0_7, y0_8, y0_9, y0_10⟩ y1).trans h⟩
    · cases h
/-! ### f3 loop.example/wharfdesk/laws.FnExactHallFirst -/
noncomputable def X3 : Cx C := { K := KK, tk := lk tks, con := lkC [(4, con4), (5, con5), (6, con6), (7, con7), (8, con8), (9, con9), (12, con12)], conw := lkC [(10, con10), (11, con11)] }
def F3 (n : Nat) : Cf := { N := n, keep := [0, 1, 2, 3, 4, 5, 6, 7, 8, 9, 10, 15, 26, 31, 42, 50, 53, 60, 65, 68], live := lk [] }
def dec3 (rs : List (Bool × List (Lf C))) : Option (Bool) := match rs with
  | [(false, [.bool z0])] => some z0
  | _ => none
noncomputable def G3n (n : Nat) (a0 : VHallHouse) : Option (Bool) :=
      Option.bind (G4 a0 1048576) fun r1 =>
      cond (decide (r1 < 0))
      (some (true))
      (Option.bind (G6 a0) fun r2 =>
      Option.bind (G5 r2) fun r3 =>
      Option.bind (G6 a0) fun r4 =>
      Option.bind (G7 r4) fun r5 =>
      Option.bind (G8 r5 r3) fun r6 =>
      cond (!r6)
      (some (false))
      (Option.bind (G6 a0) fun r7 =>
      Option.bind (G9 r4 r7) fun r8 =>
      cond (!r8)
      (some (false))
      (Option.bind (G10 r4 1) fun r9 =>
      cond (decide (r9.2.2 < 0))
      (some (false))
      (Option.bind (G8 r5 r3) fun r10 =>
      cond (!r10)
      (some (false))
      (Option.bind (G11 r5 1) fun r11 =>
      Option.bind (G12 (⟨r5.Gate_Now, r5.Gate_Tick, r5.Gate_Given, r11.1, r11.2.1, r11.2.2.1, r11.2.2.2.1, r5.Stew_Now, r11.2.2.2.2.1, r11.2.2.2.2.2.1, r11.2.2.2.2.2.2.1⟩ : VHallBook) 1) fun r12 =>
      cond (decide (r12 < 0))
      (some (false))
      (cond (r12 != r11.2.2.2.2.2.2.2)
      (some (false))
      (Option.bind (G6 a0) fun r13 =>
      Option.bind (G7 r13) fun r14 =>
      Option.bind (G8 r14 r3) fun r15 =>
      cond (!r15)
      (some (false))
      (Option.bind (G12 (⟨r5.Gate_Now, r5.Gate_Tick, r5.Gate_Given, r11.1, r11.2.1, r11.2.2.1, r11.2.2.2.1, r5.Stew_Now, r11.2.2.2.2.1, r11.2.2.2.2.2.1, r11.2.2.2.2.2.2.1⟩ : VHallBook) 1) fun r16 =>
      cond (decide (r16 < 0))
      (some (false))
      (cond (r16 != r11.2.2.2.2.2.2.2)
      (some (false))
      (some (true)))))))))))
theorem t3 (n : Nat) (a0 : VHallHouse) : runFn X3 (F3 n) Go.Proofs.Try.f3 [.agg [.row .e67 a0.Teams, .row .e73 a0.Grants]] dec3 = G3n n a0 := by
  kernel_rfl
noncomputable def G3 (a0 : VHallHouse) : Option (Bool) := G3n fuel a0
noncomputable def con3 : Con C := { R0 := Bool, ret := fun r => [(false, [.bool r])], g := fun vs => match vs with
  | [.agg [.row .e67 y0_0, .row .e73 y0_1]] => G3 ⟨y0_0, y0_1⟩
  | _ => none }
theorem x3 : XOk Go.Proofs.Try.prog X3 := ⟨tks_ok, els_ok⟩
theorem q3 : Cons Go.Proofs.Try.prog X3 := ⟨lkR_ok (l := [(4, con4), (5, con5), (6, con6), (7, con7), (8, con8), (9, con9), (12, con12)]) ⟨c4, c5, c6, c7, c8, c9, c12, trivial⟩, lkW_ok (l := [(10, con10), (11, con11)]) ⟨c10, c11, trivial⟩⟩
theorem c3 : ConOk Go.Proofs.Try.prog KK 3 con3 := by
  refine con_dec x3 q3 (by kernel_rfl) (f := 3) (fn := Go.Proofs.Try.f3) (c := bodyOf Go.Proofs.Try.f3) (by kernel_rfl) (by kernel_rfl) (by kernel_rfl) (nameB (by kernel_rfl)) con3 dec3 (fun rs r0 h => ?_) (fun vs r0 h => ?_)
  · unfold dec3 at h
    split at h
    · cases h; rfl
    · cases h
  · simp only [con3] at h
    split at h
    · rename_i y0_0 y0_1
      exact ⟨Nat.le_of_ble_eq_true (by kernel_rfl), F3 fuel, (t3 fuel ⟨y0_0, y0_1⟩).trans h⟩
    · cases h
end Go.Proofs.Ytpdindhlnehfcaa.Ab
