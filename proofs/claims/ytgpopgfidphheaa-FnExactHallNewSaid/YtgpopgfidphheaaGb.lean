/- The functions that the law calls, written plainly, and their contracts: each call answers what its plain function answers. No conditions. -/
import Derived.Test.YtgpopgfidphheaaHw
set_option linter.unusedVariables false
set_option linter.unusedSimpArgs false
set_option maxRecDepth 100000
namespace Go.Proofs.Ytgpopgfidphheaa.Ab
open Go Go.RowKit
/-! ### f22 loop.example/wharfdesk/impl.hwCopyHouse -/
noncomputable def X22 : Cx C := { K := KK, tk := lk tks, con := lkC [(48, con48), (49, con49)], conw := lkC [] }
def F22 (n : Nat) : Cf := { N := n, keep := [0, 1, 2], live := lk [] }
def dec22 (rs : List (Bool × List (Lf C))) : Option (VHallHouse) := match rs with
  | [(true, [.row .e86 z0, .row .e74 z1])] => some ⟨z0, z1⟩
  | _ => none
noncomputable def G22n (n : Nat) (a0 : VHallHouse) : Option (VHallHouse) :=
      Option.bind (G48 a0.Teams) fun r1 =>
      Option.bind (G49 a0.Grants) fun r2 =>
      some ((⟨r1, r2⟩ : VHallHouse))
theorem t22 (n : Nat) (a0 : VHallHouse) : runFn X22 (F22 n) Go.Proofs.Try.f22 [.agg [.row .e86 a0.Teams, .row .e74 a0.Grants]] dec22 = G22n n a0 := by
  kernel_rfl
noncomputable def G22 (a0 : VHallHouse) : Option (VHallHouse) := G22n fuel a0
noncomputable def con22 : Con C := { R0 := VHallHouse, ret := fun r => [(true, [.row .e86 r.Teams, .row .e74 r.Grants])], g := fun vs => match vs with
  | [.agg [.row .e86 y0_0, .row .e74 y0_1]] => G22 ⟨y0_0, y0_1⟩
  | _ => none }
theorem x22 : XOk Go.Proofs.Try.prog X22 := ⟨tks_ok, els_ok⟩
theorem q22 : Cons Go.Proofs.Try.prog X22 := ⟨lkR_ok (l := [(48, con48), (49, con49)]) ⟨c48, c49, trivial⟩, lkW_ok (l := []) trivial⟩
theorem c22 : ConOk Go.Proofs.Try.prog KK 22 con22 := by
  refine con_dec x22 q22 (by kernel_rfl) (f := 22) (fn := Go.Proofs.Try.f22) (c := bodyOf Go.Proofs.Try.f22) (by kernel_rfl) (by kernel_rfl) (by kernel_rfl) (nameB (by kernel_rfl)) con22 dec22 (fun rs r0 h => ?_) (fun vs r0 h => ?_)
  · unfold dec22 at h
    split at h
    · cases h; rfl
    · cases h
  · simp only [con22] at h
    split at h
    · rename_i y0_0 y0_1
      exact ⟨Nat.le_of_ble_eq_true (by kernel_rfl), F22 fuel, (t22 fuel ⟨y0_0, y0_1⟩).trans h⟩
    · cases h
/-! ### f50 loop.example/wharfdesk/impl.within_rec -/
noncomputable def X50 : Cx C := { K := KK, tk := lk tks, con := lkC [], conw := lkC [] }
def F50 (n : Nat) : Cf := { N := n, keep := [0, 1, 2, 6], live := lk [] }
def dec50 (rs : List (Bool × List (Lf C))) : Option (Bool) := match rs with
  | [(false, [.bool z0])] => some z0
  | _ => none
noncomputable def G50n (n : Nat) (a0 : Int) (a1 : Int) (a2 : Int) : Option (Bool) :=
      cond (decide (a0 ≥ a1))
      (some (decide (a0 ≤ a2)))
      (some (false))
theorem t50 (n : Nat) (a0 : Int) (a1 : Int) (a2 : Int) : runFn X50 (F50 n) Go.Proofs.Try.f50 [.one (.int .i64 a0), .one (.int .i64 a1), .one (.int .i64 a2)] dec50 = G50n n a0 a1 a2 := by
  kernel_rfl
noncomputable def G50 (a0 : Int) (a1 : Int) (a2 : Int) : Option (Bool) := G50n fuel a0 a1 a2
noncomputable def con50 : Con C := { R0 := Bool, ret := fun r => [(false, [.bool r])], g := fun vs => match vs with
  | [.one (.int .i64 y0), .one (.int .i64 y1), .one (.int .i64 y2)] => G50 y0 y1 y2
  | _ => none }
theorem x50 : XOk Go.Proofs.Try.prog X50 := ⟨tks_ok, els_ok⟩
theorem q50 : Cons Go.Proofs.Try.prog X50 := ⟨lkR_ok (l := []) trivial, lkW_ok (l := []) trivial⟩
theorem c50 : ConOk Go.Proofs.Try.prog KK 50 con50 := by
  refine con_dec x50 q50 (by kernel_rfl) (f := 50) (fn := Go.Proofs.Try.f50) (c := bodyOf Go.Proofs.Try.f50) (by kernel_rfl) (by kernel_rfl) (by kernel_rfl) (nameB (by kernel_rfl)) con50 dec50 (fun rs r0 h => ?_) (fun vs r0 h => ?_)
  · unfold dec50 at h
    split at h
    · cases h; rfl
    · cases h
  · simp only [con50] at h
    split at h
    · rename_i y0 y1 y2
      exact ⟨Nat.le_of_ble_eq_true (by kernel_rfl), F50 fuel, (t50 fuel y0 y1 y2).trans h⟩
    · cases h
/-! ### f51 loop.example/wharfdesk/impl.RecNew -/
noncomputable def X51 : Cx C := { K := KK, tk := lk tks, con := lkC [(50, con50)], conw := lkC [] }
def F51 (n : Nat) : Cf := { N := n, keep := [0, 1, 4, 13], live := lk [] }
def dec51 (rs : List (Bool × List (Lf C))) : Option (VRecorder) := match rs with
  | [(true, [.int .i64 z0, .int .i64 z1, .bool z2, .int .i64 z3, .int .i64 z4, .row .e132 z5, .int .i64 z6, .int .i64 z7, .row .e132 z8, .row .e116 z9, .row .e9 z10, .bool z11, .bool z12, .int .i64 z13, .row .e3 z14, .row .e132 z15, .row .e134 z16, .int .i64 z17])] => some ⟨z0, z1, z2, z3, z4, z5, z6, z7, z8, z9, z10, z11, z12, z13, z14, z15, z16, z17⟩
  | _ => none
noncomputable def G51n (n : Nat) (a0 : Int) (a1 : Int) : Option (VRecorder) :=
      Option.bind (G50 a1 1 5) fun r1 =>
      cond (!r1)
      (some ((⟨0, 0, false, 0, 0, ([] : List (C .e132)), 0, 0, ([] : List (C .e132)), ([] : List (C .e116)), ([] : List (C .e9)), false, false, 0, ([] : List (C .e3)), ([] : List (C .e132)), ([] : List (C .e134)), 0⟩ : VRecorder)))
      (Option.bind (G50 a0 1 a1) fun r2 =>
      cond (!r2)
      (some ((⟨0, 0, false, 0, 0, ([] : List (C .e132)), 0, 0, ([] : List (C .e132)), ([] : List (C .e116)), ([] : List (C .e9)), false, false, 0, ([] : List (C .e3)), ([] : List (C .e132)), ([] : List (C .e134)), 0⟩ : VRecorder)))
      (some ((⟨a0, a1, true, 0, 0, ([] : List (C .e132)), 0, 0, ([] : List (C .e132)), ([] : List (C .e116)), ([] : List (C .e9)), false, false, 0, ([] : List (C .e3)), ([] : List (C .e132)), ([] : List (C .e134)), 0⟩ : VRecorder))))
theorem t51 (n : Nat) (a0 : Int) (a1 : Int) : runFn X51 (F51 n) Go.Proofs.Try.f51 [.one (.int .i64 a0), .one (.int .i64 a1)] dec51 = G51n n a0 a1 := by
  kernel_rfl
noncomputable def G51 (a0 : Int) (a1 : Int) : Option (VRecorder) := G51n fuel a0 a1
noncomputable def con51 : Con C := { R0 := VRecorder, ret := fun r => [(true, [.int .i64 r.Number, .int .i64 r.Of, .bool r.Up, .int .i64 r.Safe_Promise, .int .i64 r.Safe_Known, .row .e132 r.Safe_Slots, .int .i64 r.Disk_Promise, .int .i64 r.Disk_Known, .row .e132 r.Disk_Slots, .row .e116 r.Held, .row .e9 r.Wishes, .bool r.Lead, .bool r.Trying, .int .i64 r.Ballot, .row .e3 r.Yes, .row .e132 r.Best, .row .e134 r.Acks, .int .i64 r.Heard])], g := fun vs => match vs with
  | [.one (.int .i64 y0), .one (.int .i64 y1)] => G51 y0 y1
  | _ => none }
theorem x51 : XOk Go.Proofs.Try.prog X51 := ⟨tks_ok, els_ok⟩
theorem q51 : Cons Go.Proofs.Try.prog X51 := ⟨lkR_ok (l := [(50, con50)]) ⟨c50, trivial⟩, lkW_ok (l := []) trivial⟩
theorem c51 : ConOk Go.Proofs.Try.prog KK 51 con51 := by
  refine con_dec x51 q51 (by kernel_rfl) (f := 51) (fn := Go.Proofs.Try.f51) (c := bodyOf Go.Proofs.Try.f51) (by kernel_rfl) (by kernel_rfl) (by kernel_rfl) (nameB (by kernel_rfl)) con51 dec51 (fun rs r0 h => ?_) (fun vs r0 h => ?_)
  · unfold dec51 at h
    split at h
    · cases h; rfl
    · cases h
  · simp only [con51] at h
    split at h
    · rename_i y0 y1
      exact ⟨Nat.le_of_ble_eq_true (by kernel_rfl), F51 fuel, (t51 fuel y0 y1).trans h⟩
    · cases h
/-! ### f23 loop.example/wharfdesk/impl.RecNewWorld -/
noncomputable def X23 : Cx C := { K := KK, tk := lk tks, con := lkC [(50, con50), (51, con51)], conw := lkC [] }
def F23 (n : Nat) : Cf := { N := n, keep := [0, 2, 3, 4, 6, 9], live := lk [(0, [0, 2, 3, 4])] }
def dec23 (rs : List (Bool × List (Lf C))) : Option (VRecWorld) := match rs with
  | [(true, [.row .e84 z0, .row .e116 z1, .row .e119 z2])] => some ⟨z0, z1, z2⟩
  | _ => none
abbrev A23_0 : Type := Int × List (C .e84) × List (C .e116) × List (C .e119) × List (C .e84) × List (C .e116) × List (C .e119) × Int
def s23_0 : A23_0 → St C := fun (x0_0, x0_1, x0_2, x0_3, x0_4, x0_5, x0_6, x0_7) => { env := [(0, .one (.int .i64 x0_0)), (2, .one (.ptr 128 0)), (3, .one (.ptr 192 0)), (4, .one (.int .i64 x0_7))], objs := [(128, .box [.ref 1012800 [], .ref 1012801 [], .ref 1012802 []]), (1012800, .row .e84 x0_1 false), (1012801, .row .e116 x0_2 false), (1012802, .row .e119 x0_3 false), (192, .box [.ref 1019200 [], .ref 1019201 [], .ref 1019202 []]), (1019200, .row .e84 x0_4 false), (1019201, .row .e116 x0_5 false), (1019202, .row .e119 x0_6 false)], base := 0 }
noncomputable def r23_0 (n : Nat)  (rec0 : A23_0 → Option (VRecWorld)) : A23_0 → Option (VRecWorld) := fun (x0_0, x0_1, x0_2, x0_3, x0_4, x0_5, x0_6, x0_7) =>
      cond (decide (x0_7 ≤ x0_0))
      (Option.bind (G51 x0_7 x0_0) fun r2 =>
      cond (decide ((x0_4.length + (([r2] : List (C .e84))).length) * 248 ≤ 140737488355328)) (rec0 (x0_0, x0_1, x0_2, x0_3, x0_4 ++ (([r2] : List (C .e84))), x0_5, x0_6, IntKind.i64.wrap (x0_7 + 1))) none)
      (some ((⟨x0_4, x0_5, x0_6⟩ : VRecWorld)))
noncomputable def LP23_0 (n : Nat)  (x : A23_0) : Option (VRecWorld) := lpN (r23_0 n ) n x
noncomputable def MP23_0 (n : Nat)  (x : A23_0) : Option (VRecWorld) := iter (fun rec S => run X23 (F23 n) (codeAt (bodyOf Go.Proofs.Try.f23) [1, 1, 0, 1, 0, 1, 0, 0]) 0 S (lopK rec (blkK 0 (seqK (run X23 (F23 n) (codeAt (bodyOf Go.Proofs.Try.f23) [1, 1, 1]) 0) (kTop X23 Go.Proofs.Try.f23 dec23))))) [0, 2, 3, 4] n (s23_0 x)
theorem m23_0 (n : Nat)  (x : A23_0) : MP23_0 n  x = LP23_0 n  x := by
  refine iter_eq s23_0 (r23_0 n ) (fun rec0 x => ?_) n x
  obtain ⟨x0_0, x0_1, x0_2, x0_3, x0_4, x0_5, x0_6, x0_7⟩ := x
  kernel_rfl
noncomputable def G23n (n : Nat) (a0 : Int) : Option (VRecWorld) :=
      Option.bind (G50 a0 1 5) fun r1 =>
      cond r1
      (LP23_0 n  (a0, ([] : List (C .e84)), ([] : List (C .e116)), ([] : List (C .e119)), ([] : List (C .e84)), ([] : List (C .e116)), ([] : List (C .e119)), 1))
      (some ((⟨([] : List (C .e84)), ([] : List (C .e116)), ([] : List (C .e119))⟩ : VRecWorld)))
theorem t23 (n : Nat) (a0 : Int) : runFn X23 (F23 n) Go.Proofs.Try.f23 [.one (.int .i64 a0)] dec23 = G23n n a0 := by
  have h : runFn X23 (F23 n) Go.Proofs.Try.f23 [.one (.int .i64 a0)] dec23 =
      Option.bind (G50 a0 1 5) fun r1 =>
      cond r1
      (MP23_0 n  (a0, ([] : List (C .e84)), ([] : List (C .e116)), ([] : List (C .e119)), ([] : List (C .e84)), ([] : List (C .e116)), ([] : List (C .e119)), 1))
      (some ((⟨([] : List (C .e84)), ([] : List (C .e116)), ([] : List (C .e119))⟩ : VRecWorld))) := by kernel_rfl
  simp only [h, G23n, m23_0]
noncomputable def G23 (a0 : Int) : Option (VRecWorld) := G23n fuel a0
noncomputable def con23 : Con C := { R0 := VRecWorld, ret := fun r => [(true, [.row .e84 r.Recorders, .row .e116 r.Flight, .row .e119 r.Fixed])], g := fun vs => match vs with
  | [.one (.int .i64 y0)] => G23 y0
  | _ => none }
theorem x23 : XOk Go.Proofs.Try.prog X23 := ⟨tks_ok, els_ok⟩
theorem q23 : Cons Go.Proofs.Try.prog X23 := ⟨lkR_ok (l := [(50, con50), (51, con51)]) ⟨c50, c51, trivial⟩, lkW_ok (l := []) trivial⟩
theorem c23 : ConOk Go.Proofs.Try.prog KK 23 con23 := by
  refine con_dec x23 q23 (by kernel_rfl) (f := 23) (fn := Go.Proofs.Try.f23) (c := bodyOf Go.Proofs.Try.f23) (by kernel_rfl) (by kernel_rfl) (by kernel_rfl) (nameB (by kernel_rfl)) con23 dec23 (fun rs r0 h => ?_) (fun vs r0 h => ?_)
  · unfold dec23 at h
    split at h
    · cases h; rfl
    · cases h
  · simp only [con23] at h
    split at h
    · rename_i y0
      exact ⟨Nat.le_of_ble_eq_true (by kernel_rfl), F23 fuel, (t23 fuel y0).trans h⟩
    · cases h
/-! ### f7 loop.example/wharfdesk/impl.HallNew -/
noncomputable def X7 : Cx C := { K := KK, tk := lk tks, con := lkC [(21, con21), (22, con22), (23, con23)], conw := lkC [] }
def F7 (n : Nat) : Cf := { N := n, keep := [0, 1, 2, 4, 15], live := lk [] }
def dec7 (rs : List (Bool × List (Lf C))) : Option (VHallWorld) := match rs with
  | [(true, [.row .e86 z0, .row .e74 z1, .row .e84 z2, .row .e116 z3, .row .e119 z4, .int .i64 z5, .row .e98 z6])] => some ⟨z0, z1, z2, z3, z4, z5, z6⟩
  | _ => none
noncomputable def G7n (n : Nat) (a0 : VHallHouse) (a1 : Int) : Option (VHallWorld) :=
      Option.bind (G21 a0) fun r1 =>
      cond (!r1)
      (some ((⟨([] : List (C .e86)), ([] : List (C .e74)), ([] : List (C .e84)), ([] : List (C .e116)), ([] : List (C .e119)), 0, ([] : List (C .e98))⟩ : VHallWorld)))
      (cond (decide (a1 < 1))
      (some ((⟨([] : List (C .e86)), ([] : List (C .e74)), ([] : List (C .e84)), ([] : List (C .e116)), ([] : List (C .e119)), 0, ([] : List (C .e98))⟩ : VHallWorld)))
      (cond (decide (a1 > 5))
      (some ((⟨([] : List (C .e86)), ([] : List (C .e74)), ([] : List (C .e84)), ([] : List (C .e116)), ([] : List (C .e119)), 0, ([] : List (C .e98))⟩ : VHallWorld)))
      (Option.bind (G22 a0) fun r2 =>
      Option.bind (G23 a1) fun r3 =>
      some ((⟨r2.Teams, r2.Grants, r3.Recorders, r3.Flight, r3.Fixed, 0, ([] : List (C .e98))⟩ : VHallWorld)))))
theorem t7 (n : Nat) (a0 : VHallHouse) (a1 : Int) : runFn X7 (F7 n) Go.Proofs.Try.f7 [.agg [.row .e86 a0.Teams, .row .e74 a0.Grants], .one (.int .i64 a1)] dec7 = G7n n a0 a1 := by
  kernel_rfl
noncomputable def G7 (a0 : VHallHouse) (a1 : Int) : Option (VHallWorld) := G7n fuel a0 a1
noncomputable def con7 : Con C := { R0 := VHallWorld, ret := fun r => [(true, [.row .e86 r.House_Teams, .row .e74 r.House_Grants, .row .e84 r.Rec_Recorders, .row .e116 r.Rec_Flight, .row .e119 r.Rec_Fixed, .int .i64 r.Now, .row .e98 r.Asked])], g := fun vs => match vs with
  | [.agg [.row .e86 y0_0, .row .e74 y0_1], .one (.int .i64 y1)] => G7 ⟨y0_0, y0_1⟩ y1
  | _ => none }
theorem x7 : XOk Go.Proofs.Try.prog X7 := ⟨tks_ok, els_ok⟩
theorem q7 : Cons Go.Proofs.Try.prog X7 := ⟨lkR_ok (l := [(21, con21), (22, con22), (23, con23)]) ⟨c21, c22, c23, trivial⟩, lkW_ok (l := []) trivial⟩
theorem c7 : ConOk Go.Proofs.Try.prog KK 7 con7 := by
  refine con_dec x7 q7 (by kernel_rfl) (f := 7) (fn := Go.Proofs.Try.f7) (c := bodyOf Go.Proofs.Try.f7) (by kernel_rfl) (by kernel_rfl) (by kernel_rfl) (nameB (by kernel_rfl)) con7 dec7 (fun rs r0 h => ?_) (fun vs r0 h => ?_)
  · unfold dec7 at h
    split at h
    · cases h; rfl
    · cases h
  · simp only [con7] at h
    split at h
    · rename_i y0_0 y0_1 y1
      exact ⟨Nat.le_of_ble_eq_true (by kernel_rfl), F7 fuel, (t7 fuel ⟨y0_0, y0_1⟩ y1).trans h⟩
    · cases h
/-! ### f56 loop.example/wharfdesk/laws.eqGateTeam -/
noncomputable def X56 : Cx C := { K := KK, tk := lk tks, con := lkC [], conw := lkC [] }
def F56 (n : Nat) : Cf := { N := n, keep := [0, 1, 2, 3, 4, 9, 14], live := lk [] }
def dec56 (rs : List (Bool × List (Lf C))) : Option (Bool) := match rs with
  | [(false, [.bool z0])] => some z0
  | _ => none
noncomputable def G56n (n : Nat) (a0 : VGateTeam) (a1 : VGateTeam) : Option (Bool) :=
      cond (!decide (a0.Name = a1.Name))
      (some (false))
      (cond (!decide (a0.Over = a1.Over))
      (some (false))
      (some (true)))
theorem t56 (n : Nat) (a0 : VGateTeam) (a1 : VGateTeam) : runFn X56 (F56 n) Go.Proofs.Try.f56 [.agg [.str a0.Name, .str a0.Over], .agg [.str a1.Name, .str a1.Over]] dec56 = G56n n a0 a1 := by
  kernel_rfl
noncomputable def G56 (a0 : VGateTeam) (a1 : VGateTeam) : Option (Bool) := G56n fuel a0 a1
noncomputable def con56 : Con C := { R0 := Bool, ret := fun r => [(false, [.bool r])], g := fun vs => match vs with
  | [.agg [.str y0_0, .str y0_1], .agg [.str y1_0, .str y1_1]] => G56 ⟨y0_0, y0_1⟩ ⟨y1_0, y1_1⟩
  | _ => none }
theorem x56 : XOk Go.Proofs.Try.prog X56 := ⟨tks_ok, els_ok⟩
theorem q56 : Cons Go.Proofs.Try.prog X56 := ⟨lkR_ok (l := []) trivial, lkW_ok (l := []) trivial⟩
theorem c56 : ConOk Go.Proofs.Try.prog KK 56 con56 := by
  refine con_dec x56 q56 (by kernel_rfl) (f := 56) (fn := Go.Proofs.Try.f56) (c := bodyOf Go.Proofs.Try.f56) (by kernel_rfl) (by kernel_rfl) (by kernel_rfl) (nameB (by kernel_rfl)) con56 dec56 (fun rs r0 h => ?_) (fun vs r0 h => ?_)
  · unfold dec56 at h
    split at h
    · cases h; rfl
    · cases h
  · simp only [con56] at h
    split at h
    · rename_i y0_0 y0_1 y1_0 y1_1
      exact ⟨Nat.le_of_ble_eq_true (by kernel_rfl), F56 fuel, (t56 fuel ⟨y0_0, y0_1⟩ ⟨y1_0, y1_1⟩).trans h⟩
    · cases h
/-! ### f26 loop.example/wharfdesk/laws.eqGateTeamS -/
noncomputable def X26 : Cx C := { K := KK, tk := lk tks, con := lkC [(56, con56)], conw := lkC [] }
def F26 (n : Nat) : Cf := { N := n, keep := [0, 1, 4, 5, 10, 14, 26], live := lk [(0, [0, 1, 5])] }
def dec26 (rs : List (Bool × List (Lf C))) : Option (Bool) := match rs with
  | [(false, [.bool z0])] => some z0
  | _ => none
abbrev A26_0 : Type := List (C .e86) × List (C .e86) × Int
def s26_0 : A26_0 → St C := fun (x0_0, x0_1, x0_2) => { env := [(0, .one (.row .e86 x0_0)), (1, .one (.row .e86 x0_1)), (5, .one (.int .i64 x0_2))], objs := [], base := 0 }
noncomputable def r26_0 (n : Nat)  (rec0 : A26_0 → Option (Bool)) : A26_0 → Option (Bool) := fun (x0_0, x0_1, x0_2) =>
      cond (decide (x0_2 < (x0_0.length : Int)))
      (cond (decide (0 ≤ x0_2)) (Option.bind x0_0[x0_2.toNat]? fun x1 => cond (decide (0 ≤ x0_2)) (Option.bind x0_1[x0_2.toNat]? fun x2 => Option.bind (G56 x1 x2) fun r3 =>
      cond (!r3)
      (some (false))
      (rec0 (x0_0, x0_1, IntKind.i64.wrap (x0_2 + 1)))) none) none)
      (some (true))
noncomputable def LP26_0 (n : Nat)  (x : A26_0) : Option (Bool) := lpN (r26_0 n ) n x
noncomputable def MP26_0 (n : Nat)  (x : A26_0) : Option (Bool) := iter (fun rec S => run X26 (F26 n) (codeAt (bodyOf Go.Proofs.Try.f26) [1, 1, 0, 1, 0, 0]) 0 S (lopK rec (blkK 0 (seqK (run X26 (F26 n) (codeAt (bodyOf Go.Proofs.Try.f26) [1, 1, 1]) 0) (kTop X26 Go.Proofs.Try.f26 dec26))))) [0, 1, 5] n (s26_0 x)
theorem m26_0 (n : Nat)  (x : A26_0) : MP26_0 n  x = LP26_0 n  x := by
  refine iter_eq s26_0 (r26_0 n ) (fun rec0 x => ?_) n x
  obtain ⟨x0_0, x0_1, x0_2⟩ := x
  kernel_rfl
noncomputable def G26n (n : Nat) (a0 : List (C .e86)) (a1 : List (C .e86)) : Option (Bool) :=
      cond ((a0.length : Int) != (a1.length : Int))
      (some (false))
      (LP26_0 n  (a0, a1, 0))
theorem t26 (n : Nat) (a0 : List (C .e86)) (a1 : List (C .e86)) : runFn X26 (F26 n) Go.Proofs.Try.f26 [.one (.row .e86 a0), .one (.row .e86 a1)] dec26 = G26n n a0 a1 := by
  have h : runFn X26 (F26 n) Go.Proofs.Try.f26 [.one (.row .e86 a0), .one (.row .e86 a1)] dec26 =
      cond ((a0.length : Int) != (a1.length : Int))
      (some (false))
      (MP26_0 n  (a0, a1, 0)) := by kernel_rfl
  simp only [h, G26n, m26_0]
noncomputable def G26 (a0 : List (C .e86)) (a1 : List (C .e86)) : Option (Bool) := G26n fuel a0 a1
noncomputable def con26 : Con C := { R0 := Bool, ret := fun r => [(false, [.bool r])], g := fun vs => match vs with
  | [.one (.row .e86 y0), .one (.row .e86 y1)] => G26 y0 y1
  | _ => none }
theorem x26 : XOk Go.Proofs.Try.prog X26 := ⟨tks_ok, els_ok⟩
theorem q26 : Cons Go.Proofs.Try.prog X26 := ⟨lkR_ok (l := [(56, con56)]) ⟨c56, trivial⟩, lkW_ok (l := []) trivial⟩
theorem c26 : ConOk Go.Proofs.Try.prog KK 26 con26 := by
  refine con_dec x26 q26 (by kernel_rfl) (f := 26) (fn := Go.Proofs.Try.f26) (c := bodyOf Go.Proofs.Try.f26) (by kernel_rfl) (by kernel_rfl) (by kernel_rfl) (nameB (by kernel_rfl)) con26 dec26 (fun rs r0 h => ?_) (fun vs r0 h => ?_)
  · unfold dec26 at h
    split at h
    · cases h; rfl
    · cases h
  · simp only [con26] at h
    split at h
    · rename_i y0 y1
      exact ⟨Nat.le_of_ble_eq_true (by kernel_rfl), F26 fuel, (t26 fuel y0 y1).trans h⟩
    · cases h
/-! ### f95 loop.example/wharfdesk/laws.eqIntS -/
noncomputable def X95 : Cx C := { K := KK, tk := lk tks, con := lkC [], conw := lkC [] }
def F95 (n : Nat) : Cf := { N := n, keep := [0, 1, 4, 5, 10, 14, 25], live := lk [(0, [0, 1, 5])] }
def dec95 (rs : List (Bool × List (Lf C))) : Option (Bool) := match rs with
  | [(false, [.bool z0])] => some z0
  | _ => none
abbrev A95_0 : Type := List (C .e3) × List (C .e3) × Int
def s95_0 : A95_0 → St C := fun (x0_0, x0_1, x0_2) => { env := [(0, .one (.row .e3 x0_0)), (1, .one (.row .e3 x0_1)), (5, .one (.int .i64 x0_2))], objs := [], base := 0 }
noncomputable def r95_0 (n : Nat)  (rec0 : A95_0 → Option (Bool)) : A95_0 → Option (Bool) := fun (x0_0, x0_1, x0_2) =>
      cond (decide (x0_2 < (x0_0.length : Int)))
      (cond (decide (0 ≤ x0_2)) (Option.bind x0_0[x0_2.toNat]? fun x1 => cond (decide (0 ≤ x0_2)) (Option.bind x0_1[x0_2.toNat]? fun x2 => cond (x1 != x2)
      (some (false))
      (rec0 (x0_0, x0_1, IntKind.i64.wrap (x0_2 + 1)))) none) none)
      (some (true))
noncomputable def LP95_0 (n : Nat)  (x : A95_0) : Option (Bool) := lpN (r95_0 n ) n x
noncomputable def MP95_0 (n : Nat)  (x : A95_0) : Option (Bool) := iter (fun rec S => run X95 (F95 n) (codeAt (bodyOf Go.Proofs.Try.f95) [1, 1, 0, 1, 0, 0]) 0 S (lopK rec (blkK 0 (seqK (run X95 (F95 n) (codeAt (bodyOf Go.Proofs.Try.f95) [1, 1, 1]) 0) (kTop X95 Go.Proofs.Try.f95 dec95))))) [0, 1, 5] n (s95_0 x)
theorem m95_0 (n : Nat)  (x : A95_0) : MP95_0 n  x = LP95_0 n  x := by
  refine iter_eq s95_0 (r95_0 n ) (fun rec0 x => ?_) n x
  obtain ⟨x0_0, x0_1, x0_2⟩ := x
  kernel_rfl
noncomputable def G95n (n : Nat) (a0 : List (C .e3)) (a1 : List (C .e3)) : Option (Bool) :=
      cond ((a0.length : Int) != (a1.length : Int))
      (some (false))
      (LP95_0 n  (a0, a1, 0))
theorem t95 (n : Nat) (a0 : List (C .e3)) (a1 : List (C .e3)) : runFn X95 (F95 n) Go.Proofs.Try.f95 [.one (.row .e3 a0), .one (.row .e3 a1)] dec95 = G95n n a0 a1 := by
  have h : runFn X95 (F95 n) Go.Proofs.Try.f95 [.one (.row .e3 a0), .one (.row .e3 a1)] dec95 =
      cond ((a0.length : Int) != (a1.length : Int))
      (some (false))
      (MP95_0 n  (a0, a1, 0)) := by kernel_rfl
  simp only [h, G95n, m95_0]
noncomputable def G95 (a0 : List (C .e3)) (a1 : List (C .e3)) : Option (Bool) := G95n fuel a0 a1
noncomputable def con95 : Con C := { R0 := Bool, ret := fun r => [(false, [.bool r])], g := fun vs => match vs with
  | [.one (.row .e3 y0), .one (.row .e3 y1)] => G95 y0 y1
  | _ => none }
theorem x95 : XOk Go.Proofs.Try.prog X95 := ⟨tks_ok, els_ok⟩
theorem q95 : Cons Go.Proofs.Try.prog X95 := ⟨lkR_ok (l := []) trivial, lkW_ok (l := []) trivial⟩
theorem c95 : ConOk Go.Proofs.Try.prog KK 95 con95 := by
  refine con_dec x95 q95 (by kernel_rfl) (f := 95) (fn := Go.Proofs.Try.f95) (c := bodyOf Go.Proofs.Try.f95) (by kernel_rfl) (by kernel_rfl) (by kernel_rfl) (nameB (by kernel_rfl)) con95 dec95 (fun rs r0 h => ?_) (fun vs r0 h => ?_)
  · unfold dec95 at h
    split at h
    · cases h; rfl
    · cases h
  · simp only [con95] at h
    split at h
    · rename_i y0 y1
      exact ⟨Nat.le_of_ble_eq_true (by kernel_rfl), F95 fuel, (t95 fuel y0 y1).trans h⟩
    · cases h
/-! ### f82 loop.example/wharfdesk/laws.eqGateRule -/
noncomputable def X82 : Cx C := { K := KK, tk := lk tks, con := lkC [(95, con95)], conw := lkC [] }
def F82 (n : Nat) : Cf := { N := n, keep := [0, 1, 2, 3, 4, 10, 15, 20, 25], live := lk [] }
def dec82 (rs : List (Bool × List (Lf C))) : Option (Bool) := match rs with
  | [(false, [.bool z0])] => some z0
  | _ => none
noncomputable def G82n (n : Nat) (a0 : VGateRule) (a1 : VGateRule) : Option (Bool) :=
      Option.bind (G95 a0.Verbs a1.Verbs) fun r1 =>
      cond (!r1)
      (some (false))
      (cond (!decide (a0.Kind = a1.Kind))
      (some (false))
      (cond (!decide (a0.Team = a1.Team))
      (some (false))
      (cond (!decide (a0.Prefix = a1.Prefix))
      (some (false))
      (some (true)))))
theorem t82 (n : Nat) (a0 : VGateRule) (a1 : VGateRule) : runFn X82 (F82 n) Go.Proofs.Try.f82 [.agg [.row .e3 a0.Verbs, .str a0.Kind, .str a0.Team, .str a0.Prefix], .agg [.row .e3 a1.Verbs, .str a1.Kind, .str a1.Team, .str a1.Prefix]] dec82 = G82n n a0 a1 := by
  kernel_rfl
noncomputable def G82 (a0 : VGateRule) (a1 : VGateRule) : Option (Bool) := G82n fuel a0 a1
noncomputable def con82 : Con C := { R0 := Bool, ret := fun r => [(false, [.bool r])], g := fun vs => match vs with
  | [.agg [.row .e3 y0_0, .str y0_1, .str y0_2, .str y0_3], .agg [.row .e3 y1_0, .str y1_1, .str y1_2, .str y1_3]] => G82 ⟨y0_0, y0_1, y0_2, y0_3⟩ ⟨y1_0, y1_1, y1_2, y1_3⟩
  | _ => none }
theorem x82 : XOk Go.Proofs.Try.prog X82 := ⟨tks_ok, els_ok⟩
theorem q82 : Cons Go.Proofs.Try.prog X82 := ⟨lkR_ok (l := [(95, con95)]) ⟨c95, trivial⟩, lkW_ok (l := []) trivial⟩
theorem c82 : ConOk Go.Proofs.Try.prog KK 82 con82 := by
  refine con_dec x82 q82 (by kernel_rfl) (f := 82) (fn := Go.Proofs.Try.f82) (c := bodyOf Go.Proofs.Try.f82) (by kernel_rfl) (by kernel_rfl) (by kernel_rfl) (nameB (by kernel_rfl)) con82 dec82 (fun rs r0 h => ?_) (fun vs r0 h => ?_)
  · unfold dec82 at h
    split at h
    · cases h; rfl
    · cases h
  · simp only [con82] at h
    split at h
    · rename_i y0_0 y0_1 y0_2 y0_3 y1_0 y1_1 y1_2 y1_3
      exact ⟨Nat.le_of_ble_eq_true (by kernel_rfl), F82 fuel, (t82 fuel ⟨y0_0, y0_1, y0_2, y0_3⟩ ⟨y1_0, y1_1, y1_2, y1_3⟩).trans h⟩
    · cases h
/-! ### f57 loop.example/wharfdesk/laws.eqGateGrant -/
noncomputable def X57 : Cx C := { K := KK, tk := lk tks, con := lkC [(82, con82)], conw := lkC [] }
def F57 (n : Nat) : Cf := { N := n, keep := [0, 1, 2, 3, 4, 9, 14, 19, 25], live := lk [] }
def dec57 (rs : List (Bool × List (Lf C))) : Option (Bool) := match rs with
  | [(false, [.bool z0])] => some z0
  | _ => none
noncomputable def G57n (n : Nat) (a0 : VGateGrant) (a1 : VGateGrant) : Option (Bool) :=
      cond (a0.Number != a1.Number)
      (some (false))
      (cond (!decide (a0.To = a1.To))
      (some (false))
      (cond (!decide (a0.By = a1.By))
      (some (false))
      (Option.bind (G82 (⟨a0.Rule_Verbs, a0.Rule_Kind, a0.Rule_Team, a0.Rule_Prefix⟩ : VGateRule) (⟨a1.Rule_Verbs, a1.Rule_Kind, a1.Rule_Team, a1.Rule_Prefix⟩ : VGateRule)) fun r1 =>
      cond (!r1)
      (some (false))
      (some (true)))))
theorem t57 (n : Nat) (a0 : VGateGrant) (a1 : VGateGrant) : runFn X57 (F57 n) Go.Proofs.Try.f57 [.agg [.int .i64 a0.Number, .str a0.To, .str a0.By, .row .e3 a0.Rule_Verbs, .str a0.Rule_Kind, .str a0.Rule_Team, .str a0.Rule_Prefix], .agg [.int .i64 a1.Number, .str a1.To, .str a1.By, .row .e3 a1.Rule_Verbs, .str a1.Rule_Kind, .str a1.Rule_Team, .str a1.Rule_Prefix]] dec57 = G57n n a0 a1 := by
  kernel_rfl
noncomputable def G57 (a0 : VGateGrant) (a1 : VGateGrant) : Option (Bool) := G57n fuel a0 a1
noncomputable def con57 : Con C := { R0 := Bool, ret := fun r => [(false, [.bool r])], g := fun vs => match vs with
  | [.agg [.int .i64 y0_0, .str y0_1, .str y0_2, .row .e3 y0_3, .str y0_4, .str y0_5, .str y0_6], .agg [.int .i64 y1_0, .str y1_1, .str y1_2, .row .e3 y1_3, .str y1_4, .str y1_5, .str y1_6]] => G57 ⟨y0_0, y0_1, y0_2, y0_3, y0_4, y0_5, y0_6⟩ ⟨y1_0, y1_1, y1_2, y1_3, y1_4, y1_5, y1_6⟩
  | _ => none }
theorem x57 : XOk Go.Proofs.Try.prog X57 := ⟨tks_ok, els_ok⟩
theorem q57 : Cons Go.Proofs.Try.prog X57 := ⟨lkR_ok (l := [(82, con82)]) ⟨c82, trivial⟩, lkW_ok (l := []) trivial⟩
theorem c57 : ConOk Go.Proofs.Try.prog KK 57 con57 := by
  refine con_dec x57 q57 (by kernel_rfl) (f := 57) (fn := Go.Proofs.Try.f57) (c := bodyOf Go.Proofs.Try.f57) (by kernel_rfl) (by kernel_rfl) (by kernel_rfl) (nameB (by kernel_rfl)) con57 dec57 (fun rs r0 h => ?_) (fun vs r0 h => ?_)
  · unfold dec57 at h
    split at h
    · cases h; rfl
    · cases h
  · simp only [con57] at h
    split at h
    · rename_i y0_0 y0_1 y0_2 y0_3 y0_4 y0_5 y0_6 y1_0 y1_1 y1_2 y1_3 y1_4 y1_5 y1_6
      exact ⟨Nat.le_of_ble_eq_true (by kernel_rfl), F57 fuel, (t57 fuel ⟨y0_0, y0_1, y0_2, y0_3, y0_4, y0_5, y0_6⟩ ⟨y1_0, y1_1, y1_2, y1_3, y1_4, y1_5, y1_6⟩).trans h⟩
    · cases h
/-! ### f27 loop.example/wharfdesk/laws.eqGateGrantS -/
noncomputable def X27 : Cx C := { K := KK, tk := lk tks, con := lkC [(57, con57)], conw := lkC [] }
def F27 (n : Nat) : Cf := { N := n, keep := [0, 1, 4, 5, 10, 14, 26], live := lk [(0, [0, 1, 5])] }
def dec27 (rs : List (Bool × List (Lf C))) : Option (Bool) := match rs with
  | [(false, [.bool z0])] => some z0
  | _ => none
abbrev A27_0 : Type := List (C .e74) × List (C .e74) × Int
def s27_0 : A27_0 → St C := fun (x0_0, x0_1, x0_2) => { env := [(0, .one (.row .e74 x0_0)), (1, .one (.row .e74 x0_1)), (5, .one (.int .i64 x0_2))], objs := [], base := 0 }
noncomputable def r27_0 (n : Nat)  (rec0 : A27_0 → Option (Bool)) : A27_0 → Option (Bool) := fun (x0_0, x0_1, x0_2) =>
      cond (decide (x0_2 < (x0_0.length : Int)))
      (cond (decide (0 ≤ x0_2)) (Option.bind x0_0[x0_2.toNat]? fun x1 => cond (decide (0 ≤ x0_2)) (Option.bind x0_1[x0_2.toNat]? fun x2 => Option.bind (G57 x1 x2) fun r3 =>
      cond (!r3)
      (some (false))
      (rec0 (x0_0, x0_1, IntKind.i64.wrap (x0_2 + 1)))) none) none)
      (some (true))
noncomputable def LP27_0 (n : Nat)  (x : A27_0) : Option (Bool) := lpN (r27_0 n ) n x
noncomputable def MP27_0 (n : Nat)  (x : A27_0) : Option (Bool) := iter (fun rec S => run X27 (F27 n) (codeAt (bodyOf Go.Proofs.Try.f27) [1, 1, 0, 1, 0, 0]) 0 S (lopK rec (blkK 0 (seqK (run X27 (F27 n) (codeAt (bodyOf Go.Proofs.Try.f27) [1, 1, 1]) 0) (kTop X27 Go.Proofs.Try.f27 dec27))))) [0, 1, 5] n (s27_0 x)
theorem m27_0 (n : Nat)  (x : A27_0) : MP27_0 n  x = LP27_0 n  x := by
  refine iter_eq s27_0 (r27_0 n ) (fun rec0 x => ?_) n x
  obtain ⟨x0_0, x0_1, x0_2⟩ := x
  kernel_rfl
noncomputable def G27n (n : Nat) (a0 : List (C .e74)) (a1 : List (C .e74)) : Option (Bool) :=
      cond ((a0.length : Int) != (a1.length : Int))
      (some (false))
      (LP27_0 n  (a0, a1, 0))
theorem t27 (n : Nat) (a0 : List (C .e74)) (a1 : List (C .e74)) : runFn X27 (F27 n) Go.Proofs.Try.f27 [.one (.row .e74 a0), .one (.row .e74 a1)] dec27 = G27n n a0 a1 := by
  have h : runFn X27 (F27 n) Go.Proofs.Try.f27 [.one (.row .e74 a0), .one (.row .e74 a1)] dec27 =
      cond ((a0.length : Int) != (a1.length : Int))
      (some (false))
      (MP27_0 n  (a0, a1, 0)) := by kernel_rfl
  simp only [h, G27n, m27_0]
noncomputable def G27 (a0 : List (C .e74)) (a1 : List (C .e74)) : Option (Bool) := G27n fuel a0 a1
noncomputable def con27 : Con C := { R0 := Bool, ret := fun r => [(false, [.bool r])], g := fun vs => match vs with
  | [.one (.row .e74 y0), .one (.row .e74 y1)] => G27 y0 y1
  | _ => none }
theorem x27 : XOk Go.Proofs.Try.prog X27 := ⟨tks_ok, els_ok⟩
theorem q27 : Cons Go.Proofs.Try.prog X27 := ⟨lkR_ok (l := [(57, con57)]) ⟨c57, trivial⟩, lkW_ok (l := []) trivial⟩
theorem c27 : ConOk Go.Proofs.Try.prog KK 27 con27 := by
  refine con_dec x27 q27 (by kernel_rfl) (f := 27) (fn := Go.Proofs.Try.f27) (c := bodyOf Go.Proofs.Try.f27) (by kernel_rfl) (by kernel_rfl) (by kernel_rfl) (nameB (by kernel_rfl)) con27 dec27 (fun rs r0 h => ?_) (fun vs r0 h => ?_)
  · unfold dec27 at h
    split at h
    · cases h; rfl
    · cases h
  · simp only [con27] at h
    split at h
    · rename_i y0 y1
      exact ⟨Nat.le_of_ble_eq_true (by kernel_rfl), F27 fuel, (t27 fuel y0 y1).trans h⟩
    · cases h
/-! ### f9 loop.example/wharfdesk/laws.eqHallHouse -/
noncomputable def X9 : Cx C := { K := KK, tk := lk tks, con := lkC [(26, con26), (27, con27)], conw := lkC [] }
def F9 (n : Nat) : Cf := { N := n, keep := [0, 1, 2, 3, 4, 10, 16], live := lk [] }
def dec9 (rs : List (Bool × List (Lf C))) : Option (Bool) := match rs with
  | [(false, [.bool z0])] => some z0
  | _ => none
noncomputable def G9n (n : Nat) (a0 : VHallHouse) (a1 : VHallHouse) : Option (Bool) :=
      Option.bind (G26 a0.Teams a1.Teams) fun r1 =>
      cond (!r1)
      (some (false))
      (Option.bind (G27 a0.Grants a1.Grants) fun r2 =>
      cond (!r2)
      (some (false))
      (some (true)))
theorem t9 (n : Nat) (a0 : VHallHouse) (a1 : VHallHouse) : runFn X9 (F9 n) Go.Proofs.Try.f9 [.agg [.row .e86 a0.Teams, .row .e74 a0.Grants], .agg [.row .e86 a1.Teams, .row .e74 a1.Grants]] dec9 = G9n n a0 a1 := by
  kernel_rfl
noncomputable def G9 (a0 : VHallHouse) (a1 : VHallHouse) : Option (Bool) := G9n fuel a0 a1
noncomputable def con9 : Con C := { R0 := Bool, ret := fun r => [(false, [.bool r])], g := fun vs => match vs with
  | [.agg [.row .e86 y0_0, .row .e74 y0_1], .agg [.row .e86 y1_0, .row .e74 y1_1]] => G9 ⟨y0_0, y0_1⟩ ⟨y1_0, y1_1⟩
  | _ => none }
theorem x9 : XOk Go.Proofs.Try.prog X9 := ⟨tks_ok, els_ok⟩
theorem q9 : Cons Go.Proofs.Try.prog X9 := ⟨lkR_ok (l := [(26, con26), (27, con27)]) ⟨c26, c27, trivial⟩, lkW_ok (l := []) trivial⟩
theorem c9 : ConOk Go.Proofs.Try.prog KK 9 con9 := by
  refine con_dec x9 q9 (by kernel_rfl) (f := 9) (fn := Go.Proofs.Try.f9) (c := bodyOf Go.Proofs.Try.f9) (by kernel_rfl) (by kernel_rfl) (by kernel_rfl) (nameB (by kernel_rfl)) con9 dec9 (fun rs r0 h => ?_) (fun vs r0 h => ?_)
  · unfold dec9 at h
    split at h
    · cases h; rfl
    · cases h
  · simp only [con9] at h
    split at h
    · rename_i y0_0 y0_1 y1_0 y1_1
      exact ⟨Nat.le_of_ble_eq_true (by kernel_rfl), F9 fuel, (t9 fuel ⟨y0_0, y0_1⟩ ⟨y1_0, y1_1⟩).trans h⟩
    · cases h
/-! ### f99 loop.example/wharfdesk/laws.eqRecSlot -/
noncomputable def X99 : Cx C := { K := KK, tk := lk tks, con := lkC [], conw := lkC [] }
def F99 (n : Nat) : Cf := { N := n, keep := [0, 1, 2, 3, 4, 9, 14], live := lk [] }
def dec99 (rs : List (Bool × List (Lf C))) : Option (Bool) := match rs with
  | [(false, [.bool z0])] => some z0
  | _ => none
noncomputable def G99n (n : Nat) (a0 : VRecSlot) (a1 : VRecSlot) : Option (Bool) :=
      cond (a0.Ballot != a1.Ballot)
      (some (false))
      (cond (!decide (a0.Text = a1.Text))
      (some (false))
      (some (true)))
theorem t99 (n : Nat) (a0 : VRecSlot) (a1 : VRecSlot) : runFn X99 (F99 n) Go.Proofs.Try.f99 [.agg [.int .i64 a0.Ballot, .str a0.Text], .agg [.int .i64 a1.Ballot, .str a1.Text]] dec99 = G99n n a0 a1 := by
  kernel_rfl
noncomputable def G99 (a0 : VRecSlot) (a1 : VRecSlot) : Option (Bool) := G99n fuel a0 a1
noncomputable def con99 : Con C := { R0 := Bool, ret := fun r => [(false, [.bool r])], g := fun vs => match vs with
  | [.agg [.int .i64 y0_0, .str y0_1], .agg [.int .i64 y1_0, .str y1_1]] => G99 ⟨y0_0, y0_1⟩ ⟨y1_0, y1_1⟩
  | _ => none }
theorem x99 : XOk Go.Proofs.Try.prog X99 := ⟨tks_ok, els_ok⟩
theorem q99 : Cons Go.Proofs.Try.prog X99 := ⟨lkR_ok (l := []) trivial, lkW_ok (l := []) trivial⟩
theorem c99 : ConOk Go.Proofs.Try.prog KK 99 con99 := by
  refine con_dec x99 q99 (by kernel_rfl) (f := 99) (fn := Go.Proofs.Try.f99) (c := bodyOf Go.Proofs.Try.f99) (by kernel_rfl) (by kernel_rfl) (by kernel_rfl) (nameB (by kernel_rfl)) con99 dec99 (fun rs r0 h => ?_) (fun vs r0 h => ?_)
  · unfold dec99 at h
    split at h
    · cases h; rfl
    · cases h
  · simp only [con99] at h
    split at h
    · rename_i y0_0 y0_1 y1_0 y1_1
      exact ⟨Nat.le_of_ble_eq_true (by kernel_rfl), F99 fuel, (t99 fuel ⟨y0_0, y0_1⟩ ⟨y1_0, y1_1⟩).trans h⟩
    · cases h
/-! ### f96 loop.example/wharfdesk/laws.eqRecSlotS -/
noncomputable def X96 : Cx C := { K := KK, tk := lk tks, con := lkC [(99, con99)], conw := lkC [] }
def F96 (n : Nat) : Cf := { N := n, keep := [0, 1, 4, 5, 10, 14, 26], live := lk [(0, [0, 1, 5])] }
def dec96 (rs : List (Bool × List (Lf C))) : Option (Bool) := match rs with
  | [(false, [.bool z0])] => some z0
  | _ => none
abbrev A96_0 : Type := List (C .e132) × List (C .e132) × Int
def s96_0 : A96_0 → St C := fun (x0_0, x0_1, x0_2) => { env := [(0, .one (.row .e132 x0_0)), (1, .one (.row .e132 x0_1)), (5, .one (.int .i64 x0_2))], objs := [], base := 0 }
noncomputable def r96_0 (n : Nat)  (rec0 : A96_0 → Option (Bool)) : A96_0 → Option (Bool) := fun (x0_0, x0_1, x0_2) =>
      cond (decide (x0_2 < (x0_0.length : Int)))
      (cond (decide (0 ≤ x0_2)) (Option.bind x0_0[x0_2.toNat]? fun x1 => cond (decide (0 ≤ x0_2)) (Option.bind x0_1[x0_2.toNat]? fun x2 => Option.bind (G99 x1 x2) fun r3 =>
      cond (!r3)
      (some (false))
      (rec0 (x0_0, x0_1, IntKind.i64.wrap (x0_2 + 1)))) none) none)
      (some (true))
noncomputable def LP96_0 (n : Nat)  (x : A96_0) : Option (Bool) := lpN (r96_0 n ) n x
noncomputable def MP96_0 (n : Nat)  (x : A96_0) : Option (Bool) := iter (fun rec S => run X96 (F96 n) (codeAt (bodyOf Go.Proofs.Try.f96) [1, 1, 0, 1, 0, 0]) 0 S (lopK rec (blkK 0 (seqK (run X96 (F96 n) (codeAt (bodyOf Go.Proofs.Try.f96) [1, 1, 1]) 0) (kTop X96 Go.Proofs.Try.f96 dec96))))) [0, 1, 5] n (s96_0 x)
theorem m96_0 (n : Nat)  (x : A96_0) : MP96_0 n  x = LP96_0 n  x := by
  refine iter_eq s96_0 (r96_0 n ) (fun rec0 x => ?_) n x
  obtain ⟨x0_0, x0_1, x0_2⟩ := x
  kernel_rfl
noncomputable def G96n (n : Nat) (a0 : List (C .e132)) (a1 : List (C .e132)) : Option (Bool) :=
      cond ((a0.length : Int) != (a1.length : Int))
      (some (false))
      (LP96_0 n  (a0, a1, 0))
theorem t96 (n : Nat) (a0 : List (C .e132)) (a1 : List (C .e132)) : runFn X96 (F96 n) Go.Proofs.Try.f96 [.one (.row .e132 a0), .one (.row .e132 a1)] dec96 = G96n n a0 a1 := by
  have h : runFn X96 (F96 n) Go.Proofs.Try.f96 [.one (.row .e132 a0), .one (.row .e132 a1)] dec96 =
      cond ((a0.length : Int) != (a1.length : Int))
      (some (false))
      (MP96_0 n  (a0, a1, 0)) := by kernel_rfl
  simp only [h, G96n, m96_0]
noncomputable def G96 (a0 : List (C .e132)) (a1 : List (C .e132)) : Option (Bool) := G96n fuel a0 a1
noncomputable def con96 : Con C := { R0 := Bool, ret := fun r => [(false, [.bool r])], g := fun vs => match vs with
  | [.one (.row .e132 y0), .one (.row .e132 y1)] => G96 y0 y1
  | _ => none }
theorem x96 : XOk Go.Proofs.Try.prog X96 := ⟨tks_ok, els_ok⟩
theorem q96 : Cons Go.Proofs.Try.prog X96 := ⟨lkR_ok (l := [(99, con99)]) ⟨c99, trivial⟩, lkW_ok (l := []) trivial⟩
theorem c96 : ConOk Go.Proofs.Try.prog KK 96 con96 := by
  refine con_dec x96 q96 (by kernel_rfl) (f := 96) (fn := Go.Proofs.Try.f96) (c := bodyOf Go.Proofs.Try.f96) (by kernel_rfl) (by kernel_rfl) (by kernel_rfl) (nameB (by kernel_rfl)) con96 dec96 (fun rs r0 h => ?_) (fun vs r0 h => ?_)
  · unfold dec96 at h
    split at h
    · cases h; rfl
    · cases h
  · simp only [con96] at h
    split at h
    · rename_i y0 y1
      exact ⟨Nat.le_of_ble_eq_true (by kernel_rfl), F96 fuel, (t96 fuel y0 y1).trans h⟩
    · cases h
/-! ### f79 loop.example/wharfdesk/laws.eqRecMessage -/
noncomputable def X79 : Cx C := { K := KK, tk := lk tks, con := lkC [(96, con96)], conw := lkC [] }
def F79 (n : Nat) : Cf := { N := n, keep := [0, 1, 2, 3, 4, 9, 14, 19, 24, 29, 34, 39, 45], live := lk [] }
def dec79 (rs : List (Bool × List (Lf C))) : Option (Bool) := match rs with
  | [(false, [.bool z0])] => some z0
  | _ => none
noncomputable def G79n (n : Nat) (a0 : VRecMessage) (a1 : VRecMessage) : Option (Bool) :=
      cond (a0.Kind != a1.Kind)
      (some (false))
      (cond (a0.From != a1.From)
      (some (false))
      (cond (a0.To != a1.To)
      (some (false))
      (cond (a0.Ballot != a1.Ballot)
      (some (false))
      (cond (a0.Index != a1.Index)
      (some (false))
      (cond (a0.Known != a1.Known)
      (some (false))
      (cond (!decide (a0.Text = a1.Text))
      (some (false))
      (Option.bind (G96 a0.Slots a1.Slots) fun r1 =>
      cond (!r1)
      (some (false))
      (some (true)))))))))
theorem t79 (n : Nat) (a0 : VRecMessage) (a1 : VRecMessage) : runFn X79 (F79 n) Go.Proofs.Try.f79 [.agg [.int .i64 a0.Kind, .int .i64 a0.From, .int .i64 a0.To, .int .i64 a0.Ballot, .int .i64 a0.Index, .int .i64 a0.Known, .str a0.Text, .row .e132 a0.Slots], .agg [.int .i64 a1.Kind, .int .i64 a1.From, .int .i64 a1.To, .int .i64 a1.Ballot, .int .i64 a1.Index, .int .i64 a1.Known, .str a1.Text, .row .e132 a1.Slots]] dec79 = G79n n a0 a1 := by
  kernel_rfl
noncomputable def G79 (a0 : VRecMessage) (a1 : VRecMessage) : Option (Bool) := G79n fuel a0 a1
noncomputable def con79 : Con C := { R0 := Bool, ret := fun r => [(false, [.bool r])], g := fun vs => match vs with
  | [.agg [.int .i64 y0_0, .int .i64 y0_1, .int .i64 y0_2, .int .i64 y0_3, .int .i64 y0_4, .int .i64 y0_5, .str y0_6, .row .e132 y0_7], .agg [.int .i64 y1_0, .int .i64 y1_1, .int .i64 y1_2, .int .i64 y1_3, .int .i64 y1_4, .int .i64 y1_5, .str y1_6, .row .e132 y1_7]] => G79 ⟨y0_0, y0_1, y0_2, y0_3, y0_4, y0_5, y0_6, y0_7⟩ ⟨y1_0, y1_1, y1_2, y1_3, y1_4, y1_5, y1_6, y1_7⟩
  | _ => none }
theorem x79 : XOk Go.Proofs.Try.prog X79 := ⟨tks_ok, els_ok⟩
theorem q79 : Cons Go.Proofs.Try.prog X79 := ⟨lkR_ok (l := [(96, con96)]) ⟨c96, trivial⟩, lkW_ok (l := []) trivial⟩
theorem c79 : ConOk Go.Proofs.Try.prog KK 79 con79 := by
  refine con_dec x79 q79 (by kernel_rfl) (f := 79) (fn := Go.Proofs.Try.f79) (c := bodyOf Go.Proofs.Try.f79) (by kernel_rfl) (by kernel_rfl) (by kernel_rfl) (nameB (by kernel_rfl)) con79 dec79 (fun rs r0 h => ?_) (fun vs r0 h => ?_)
  · unfold dec79 at h
    split at h
    · cases h; rfl
    · cases h
  · simp only [con79] at h
    split at h
    · rename_i y0_0 y0_1 y0_2 y0_3 y0_4 y0_5 y0_6 y0_7 y1_0 y1_1 y1_2 y1_3 y1_4 y1_5 y1_6 y1_7
      exact ⟨Nat.le_of_ble_eq_true (by kernel_rfl), F79 fuel, (t79 fuel ⟨y0_0, y0_1, y0_2, y0_3, y0_4, y0_5, y0_6, y0_7⟩ ⟨y1_0, y1_1, y1_2, y1_3, y1_4, y1_5, y1_6, y1_7⟩).trans h⟩
    · cases h
/-! ### f53 loop.example/wharfdesk/laws.eqRecMessageS -/
noncomputable def X53 : Cx C := { K := KK, tk := lk tks, con := lkC [(79, con79)], conw := lkC [] }
def F53 (n : Nat) : Cf := { N := n, keep := [0, 1, 4, 5, 10, 14, 26], live := lk [(0, [0, 1, 5])] }
def dec53 (rs : List (Bool × List (Lf C))) : Option (Bool) := match rs with
  | [(false, [.bool z0])] => some z0
  | _ => none
abbrev A53_0 : Type := List (C .e116) × List (C .e116) × Int
def s53_0 : A53_0 → St C := fun (x0_0, x0_1, x0_2) => { env := [(0, .one (.row .e116 x0_0)), (1, .one (.row .e116 x0_1)), (5, .one (.int .i64 x0_2))], objs := [], base := 0 }
noncomputable def r53_0 (n : Nat)  (rec0 : A53_0 → Option (Bool)) : A53_0 → Option (Bool) := fun (x0_0, x0_1, x0_2) =>
      cond (decide (x0_2 < (x0_0.length : Int)))
      (cond (decide (0 ≤ x0_2)) (Option.bind x0_0[x0_2.toNat]? fun x1 => cond (decide (0 ≤ x0_2)) (Option.bind x0_1[x0_2.toNat]? fun x2 => Option.bind (G79 x1 x2) fun r3 =>
      cond (!r3)
      (some (false))
      (rec0 (x0_0, x0_1, IntKind.i64.wrap (x0_2 + 1)))) none) none)
      (some (true))
noncomputable def LP53_0 (n : Nat)  (x : A53_0) : Option (Bool) := lpN (r53_0 n ) n x
noncomputable def MP53_0 (n : Nat)  (x : A53_0) : Option (Bool) := iter (fun rec S => run X53 (F53 n) (codeAt (bodyOf Go.Proofs.Try.f53) [1, 1, 0, 1, 0, 0]) 0 S (lopK rec (blkK 0 (seqK (run X53 (F53 n) (codeAt (bodyOf Go.Proofs.Try.f53) [1, 1, 1]) 0) (kTop X53 Go.Proofs.Try.f53 dec53))))) [0, 1, 5] n (s53_0 x)
theorem m53_0 (n : Nat)  (x : A53_0) : MP53_0 n  x = LP53_0 n  x := by
  refine iter_eq s53_0 (r53_0 n ) (fun rec0 x => ?_) n x
  obtain ⟨x0_0, x0_1, x0_2⟩ := x
  kernel_rfl
noncomputable def G53n (n : Nat) (a0 : List (C .e116)) (a1 : List (C .e116)) : Option (Bool) :=
      cond ((a0.length : Int) != (a1.length : Int))
      (some (false))
      (LP53_0 n  (a0, a1, 0))
theorem t53 (n : Nat) (a0 : List (C .e116)) (a1 : List (C .e116)) : runFn X53 (F53 n) Go.Proofs.Try.f53 [.one (.row .e116 a0), .one (.row .e116 a1)] dec53 = G53n n a0 a1 := by
  have h : runFn X53 (F53 n) Go.Proofs.Try.f53 [.one (.row .e116 a0), .one (.row .e116 a1)] dec53 =
      cond ((a0.length : Int) != (a1.length : Int))
      (some (false))
      (MP53_0 n  (a0, a1, 0)) := by kernel_rfl
  simp only [h, G53n, m53_0]
noncomputable def G53 (a0 : List (C .e116)) (a1 : List (C .e116)) : Option (Bool) := G53n fuel a0 a1
noncomputable def con53 : Con C := { R0 := Bool, ret := fun r => [(false, [.bool r])], g := fun vs => match vs with
  | [.one (.row .e116 y0), .one (.row .e116 y1)] => G53 y0 y1
  | _ => none }
theorem x53 : XOk Go.Proofs.Try.prog X53 := ⟨tks_ok, els_ok⟩
theorem q53 : Cons Go.Proofs.Try.prog X53 := ⟨lkR_ok (l := [(79, con79)]) ⟨c79, trivial⟩, lkW_ok (l := []) trivial⟩
theorem c53 : ConOk Go.Proofs.Try.prog KK 53 con53 := by
  refine con_dec x53 q53 (by kernel_rfl) (f := 53) (fn := Go.Proofs.Try.f53) (c := bodyOf Go.Proofs.Try.f53) (by kernel_rfl) (by kernel_rfl) (by kernel_rfl) (nameB (by kernel_rfl)) con53 dec53 (fun rs r0 h => ?_) (fun vs r0 h => ?_)
  · unfold dec53 at h
    split at h
    · cases h; rfl
    · cases h
  · simp only [con53] at h
    split at h
    · rename_i y0 y1
      exact ⟨Nat.le_of_ble_eq_true (by kernel_rfl), F53 fuel, (t53 fuel y0 y1).trans h⟩
    · cases h
/-! ### f93 loop.example/wharfdesk/laws.eqRecDisk -/
noncomputable def X93 : Cx C := { K := KK, tk := lk tks, con := lkC [(96, con96)], conw := lkC [] }
def F93 (n : Nat) : Cf := { N := n, keep := [0, 1, 2, 3, 4, 9, 14, 20], live := lk [] }
def dec93 (rs : List (Bool × List (Lf C))) : Option (Bool) := match rs with
  | [(false, [.bool z0])] => some z0
  | _ => none
noncomputable def G93n (n : Nat) (a0 : VRecDisk) (a1 : VRecDisk) : Option (Bool) :=
      cond (a0.Promise != a1.Promise)
      (some (false))
      (cond (a0.Known != a1.Known)
      (some (false))
      (Option.bind (G96 a0.Slots a1.Slots) fun r1 =>
      cond (!r1)
      (some (false))
      (some (true))))
theorem t93 (n : Nat) (a0 : VRecDisk) (a1 : VRecDisk) : runFn X93 (F93 n) Go.Proofs.Try.f93 [.agg [.int .i64 a0.Promise, .int .i64 a0.Known, .row .e132 a0.Slots], .agg [.int .i64 a1.Promise, .int .i64 a1.Known, .row .e132 a1.Slots]] dec93 = G93n n a0 a1 := by
  kernel_rfl
noncomputable def G93 (a0 : VRecDisk) (a1 : VRecDisk) : Option (Bool) := G93n fuel a0 a1
noncomputable def con93 : Con C := { R0 := Bool, ret := fun r => [(false, [.bool r])], g := fun vs => match vs with
  | [.agg [.int .i64 y0_0, .int .i64 y0_1, .row .e132 y0_2], .agg [.int .i64 y1_0, .int .i64 y1_1, .row .e132 y1_2]] => G93 ⟨y0_0, y0_1, y0_2⟩ ⟨y1_0, y1_1, y1_2⟩
  | _ => none }
theorem x93 : XOk Go.Proofs.Try.prog X93 := ⟨tks_ok, els_ok⟩
theorem q93 : Cons Go.Proofs.Try.prog X93 := ⟨lkR_ok (l := [(96, con96)]) ⟨c96, trivial⟩, lkW_ok (l := []) trivial⟩
theorem c93 : ConOk Go.Proofs.Try.prog KK 93 con93 := by
  refine con_dec x93 q93 (by kernel_rfl) (f := 93) (fn := Go.Proofs.Try.f93) (c := bodyOf Go.Proofs.Try.f93) (by kernel_rfl) (by kernel_rfl) (by kernel_rfl) (nameB (by kernel_rfl)) con93 dec93 (fun rs r0 h => ?_) (fun vs r0 h => ?_)
  · unfold dec93 at h
    split at h
    · cases h; rfl
    · cases h
  · simp only [con93] at h
    split at h
    · rename_i y0_0 y0_1 y0_2 y1_0 y1_1 y1_2
      exact ⟨Nat.le_of_ble_eq_true (by kernel_rfl), F93 fuel, (t93 fuel ⟨y0_0, y0_1, y0_2⟩ ⟨y1_0, y1_1, y1_2⟩).trans h⟩
    · cases h
/-! ### f94 loop.example/wharfdesk/laws.eqStringS -/
noncomputable def X94 : Cx C := { K := KK, tk := lk tks, con := lkC [], conw := lkC [] }
def F94 (n : Nat) : Cf := { N := n, keep := [0, 1, 4, 5, 10, 14, 25], live := lk [(0, [0, 1, 5])] }
def dec94 (rs : List (Bool × List (Lf C))) : Option (Bool) := match rs with
  | [(false, [.bool z0])] => some z0
  | _ => none
abbrev A94_0 : Type := List (C .e9) × List (C .e9) × Int
def s94_0 : A94_0 → St C := fun (x0_0, x0_1, x0_2) => { env := [(0, .one (.row .e9 x0_0)), (1, .one (.row .e9 x0_1)), (5, .one (.int .i64 x0_2))], objs := [], base := 0 }
noncomputable def r94_0 (n : Nat)  (rec0 : A94_0 → Option (Bool)) : A94_0 → Option (Bool) := fun (x0_0, x0_1, x0_2) =>
      cond (decide (x0_2 < (x0_0.length : Int)))
      (cond (decide (0 ≤ x0_2)) (Option.bind x0_0[x0_2.toNat]? fun x1 => cond (decide (0 ≤ x0_2)) (Option.bind x0_1[x0_2.toNat]? fun x2 => cond (!decide (x1 = x2))
      (some (false))
      (rec0 (x0_0, x0_1, IntKind.i64.wrap (x0_2 + 1)))) none) none)
      (some (true))
noncomputable def LP94_0 (n : Nat)  (x : A94_0) : Option (Bool) := lpN (r94_0 n ) n x
noncomputable def MP94_0 (n : Nat)  (x : A94_0) : Option (Bool) := iter (fun rec S => run X94 (F94 n) (codeAt (bodyOf Go.Proofs.Try.f94) [1, 1, 0, 1, 0, 0]) 0 S (lopK rec (blkK 0 (seqK (run X94 (F94 n) (codeAt (bodyOf Go.Proofs.Try.f94) [1, 1, 1]) 0) (kTop X94 Go.Proofs.Try.f94 dec94))))) [0, 1, 5] n (s94_0 x)
theorem m94_0 (n : Nat)  (x : A94_0) : MP94_0 n  x = LP94_0 n  x := by
  refine iter_eq s94_0 (r94_0 n ) (fun rec0 x => ?_) n x
  obtain ⟨x0_0, x0_1, x0_2⟩ := x
  kernel_rfl
noncomputable def G94n (n : Nat) (a0 : List (C .e9)) (a1 : List (C .e9)) : Option (Bool) :=
      cond ((a0.length : Int) != (a1.length : Int))
      (some (false))
      (LP94_0 n  (a0, a1, 0))
theorem t94 (n : Nat) (a0 : List (C .e9)) (a1 : List (C .e9)) : runFn X94 (F94 n) Go.Proofs.Try.f94 [.one (.row .e9 a0), .one (.row .e9 a1)] dec94 = G94n n a0 a1 := by
  have h : runFn X94 (F94 n) Go.Proofs.Try.f94 [.one (.row .e9 a0), .one (.row .e9 a1)] dec94 =
      cond ((a0.length : Int) != (a1.length : Int))
      (some (false))
      (MP94_0 n  (a0, a1, 0)) := by kernel_rfl
  simp only [h, G94n, m94_0]
noncomputable def G94 (a0 : List (C .e9)) (a1 : List (C .e9)) : Option (Bool) := G94n fuel a0 a1
noncomputable def con94 : Con C := { R0 := Bool, ret := fun r => [(false, [.bool r])], g := fun vs => match vs with
  | [.one (.row .e9 y0), .one (.row .e9 y1)] => G94 y0 y1
  | _ => none }
theorem x94 : XOk Go.Proofs.Try.prog X94 := ⟨tks_ok, els_ok⟩
theorem q94 : Cons Go.Proofs.Try.prog X94 := ⟨lkR_ok (l := []) trivial, lkW_ok (l := []) trivial⟩
theorem c94 : ConOk Go.Proofs.Try.prog KK 94 con94 := by
  refine con_dec x94 q94 (by kernel_rfl) (f := 94) (fn := Go.Proofs.Try.f94) (c := bodyOf Go.Proofs.Try.f94) (by kernel_rfl) (by kernel_rfl) (by kernel_rfl) (nameB (by kernel_rfl)) con94 dec94 (fun rs r0 h => ?_) (fun vs r0 h => ?_)
  · unfold dec94 at h
    split at h
    · cases h; rfl
    · cases h
  · simp only [con94] at h
    split at h
    · rename_i y0 y1
      exact ⟨Nat.le_of_ble_eq_true (by kernel_rfl), F94 fuel, (t94 fuel y0 y1).trans h⟩
    · cases h
/-! ### f100 loop.example/wharfdesk/laws.eqRecAck -/
noncomputable def X100 : Cx C := { K := KK, tk := lk tks, con := lkC [(95, con95)], conw := lkC [] }
def F100 (n : Nat) : Cf := { N := n, keep := [0, 1, 2, 3, 4, 9, 15], live := lk [] }
def dec100 (rs : List (Bool × List (Lf C))) : Option (Bool) := match rs with
  | [(false, [.bool z0])] => some z0
  | _ => none
noncomputable def G100n (n : Nat) (a0 : VRecAck) (a1 : VRecAck) : Option (Bool) :=
      cond (a0.Index != a1.Index)
      (some (false))
      (Option.bind (G95 a0.From a1.From) fun r1 =>
      cond (!r1)
      (some (false))
      (some (true)))
theorem t100 (n : Nat) (a0 : VRecAck) (a1 : VRecAck) : runFn X100 (F100 n) Go.Proofs.Try.f100 [.agg [.int .i64 a0.Index, .row .e3 a0.From], .agg [.int .i64 a1.Index, .row .e3 a1.From]] dec100 = G100n n a0 a1 := by
  kernel_rfl
noncomputable def G100 (a0 : VRecAck) (a1 : VRecAck) : Option (Bool) := G100n fuel a0 a1
noncomputable def con100 : Con C := { R0 := Bool, ret := fun r => [(false, [.bool r])], g := fun vs => match vs with
  | [.agg [.int .i64 y0_0, .row .e3 y0_1], .agg [.int .i64 y1_0, .row .e3 y1_1]] => G100 ⟨y0_0, y0_1⟩ ⟨y1_0, y1_1⟩
  | _ => none }
theorem x100 : XOk Go.Proofs.Try.prog X100 := ⟨tks_ok, els_ok⟩
theorem q100 : Cons Go.Proofs.Try.prog X100 := ⟨lkR_ok (l := [(95, con95)]) ⟨c95, trivial⟩, lkW_ok (l := []) trivial⟩
theorem c100 : ConOk Go.Proofs.Try.prog KK 100 con100 := by
  refine con_dec x100 q100 (by kernel_rfl) (f := 100) (fn := Go.Proofs.Try.f100) (c := bodyOf Go.Proofs.Try.f100) (by kernel_rfl) (by kernel_rfl) (by kernel_rfl) (nameB (by kernel_rfl)) con100 dec100 (fun rs r0 h => ?_) (fun vs r0 h => ?_)
  · unfold dec100 at h
    split at h
    · cases h; rfl
    · cases h
  · simp only [con100] at h
    split at h
    · rename_i y0_0 y0_1 y1_0 y1_1
      exact ⟨Nat.le_of_ble_eq_true (by kernel_rfl), F100 fuel, (t100 fuel ⟨y0_0, y0_1⟩ ⟨y1_0, y1_1⟩).trans h⟩
    · cases h
/-! ### f97 loop.example/wharfdesk/laws.eqRecAckS -/
noncomputable def X97 : Cx C := { K := KK, tk := lk tks, con := lkC [(100, con100)], conw := lkC [] }
def F97 (n : Nat) : Cf := { N := n, keep := [0, 1, 4, 5, 10, 14, 26], live := lk [(0, [0, 1, 5])] }
def dec97 (rs : List (Bool × List (Lf C))) : Option (Bool) := match rs with
  | [(false, [.bool z0])] => some z0
  | _ => none
abbrev A97_0 : Type := List (C .e134) × List (C .e134) × Int
def s97_0 : A97_0 → St C := fun (x0_0, x0_1, x0_2) => { env := [(0, .one (.row .e134 x0_0)), (1, .one (.row .e134 x0_1)), (5, .one (.int .i64 x0_2))], objs := [], base := 0 }
noncomputable def r97_0 (n : Nat)  (rec0 : A97_0 → Option (Bool)) : A97_0 → Option (Bool) := fun (x0_0, x0_1, x0_2) =>
      cond (decide (x0_2 < (x0_0.length : Int)))
      (cond (decide (0 ≤ x0_2)) (Option.bind x0_0[x0_2.toNat]? fun x1 => cond (decide (0 ≤ x0_2)) (Option.bind x0_1[x0_2.toNat]? fun x2 => Option.bind (G100 x1 x2) fun r3 =>
      cond (!r3)
      (some (false))
      (rec0 (x0_0, x0_1, IntKind.i64.wrap (x0_2 + 1)))) none) none)
      (some (true))
noncomputable def LP97_0 (n : Nat)  (x : A97_0) : Option (Bool) := lpN (r97_0 n ) n x
noncomputable def MP97_0 (n : Nat)  (x : A97_0) : Option (Bool) := iter (fun rec S => run X97 (F97 n) (codeAt (bodyOf Go.Proofs.Try.f97) [1, 1, 0, 1, 0, 0]) 0 S (lopK rec (blkK 0 (seqK (run X97 (F97 n) (codeAt (bodyOf Go.Proofs.Try.f97) [1, 1, 1]) 0) (kTop X97 Go.Proofs.Try.f97 dec97))))) [0, 1, 5] n (s97_0 x)
theorem m97_0 (n : Nat)  (x : A97_0) : MP97_0 n  x = LP97_0 n  x := by
  refine iter_eq s97_0 (r97_0 n ) (fun rec0 x => ?_) n x
  obtain ⟨x0_0, x0_1, x0_2⟩ := x
  kernel_rfl
noncomputable def G97n (n : Nat) (a0 : List (C .e134)) (a1 : List (C .e134)) : Option (Bool) :=
      cond ((a0.length : Int) != (a1.length : Int))
      (some (false))
      (LP97_0 n  (a0, a1, 0))
theorem t97 (n : Nat) (a0 : List (C .e134)) (a1 : List (C .e134)) : runFn X97 (F97 n) Go.Proofs.Try.f97 [.one (.row .e134 a0), .one (.row .e134 a1)] dec97 = G97n n a0 a1 := by
  have h : runFn X97 (F97 n) Go.Proofs.Try.f97 [.one (.row .e134 a0), .one (.row .e134 a1)] dec97 =
      cond ((a0.length : Int) != (a1.length : Int))
      (some (false))
      (MP97_0 n  (a0, a1, 0)) := by kernel_rfl
  simp only [h, G97n, m97_0]
noncomputable def G97 (a0 : List (C .e134)) (a1 : List (C .e134)) : Option (Bool) := G97n fuel a0 a1
noncomputable def con97 : Con C := { R0 := Bool, ret := fun r => [(false, [.bool r])], g := fun vs => match vs with
  | [.one (.row .e134 y0), .one (.row .e134 y1)] => G97 y0 y1
  | _ => none }
theorem x97 : XOk Go.Proofs.Try.prog X97 := ⟨tks_ok, els_ok⟩
theorem q97 : Cons Go.Proofs.Try.prog X97 := ⟨lkR_ok (l := [(100, con100)]) ⟨c100, trivial⟩, lkW_ok (l := []) trivial⟩
theorem c97 : ConOk Go.Proofs.Try.prog KK 97 con97 := by
  refine con_dec x97 q97 (by kernel_rfl) (f := 97) (fn := Go.Proofs.Try.f97) (c := bodyOf Go.Proofs.Try.f97) (by kernel_rfl) (by kernel_rfl) (by kernel_rfl) (nameB (by kernel_rfl)) con97 dec97 (fun rs r0 h => ?_) (fun vs r0 h => ?_)
  · unfold dec97 at h
    split at h
    · cases h; rfl
    · cases h
  · simp only [con97] at h
    split at h
    · rename_i y0 y1
      exact ⟨Nat.le_of_ble_eq_true (by kernel_rfl), F97 fuel, (t97 fuel y0 y1).trans h⟩
    · cases h
/-! ### f78 loop.example/wharfdesk/laws.eqRecorder -/
noncomputable def X78 : Cx C := { K := KK, tk := lk tks, con := lkC [(53, con53), (93, con93), (94, con94), (95, con95), (96, con96), (97, con97)], conw := lkC [] }
def F78 (n : Nat) : Cf := { N := n, keep := [0, 1, 2, 3, 4, 9, 14, 19, 25, 31, 37, 43, 48, 53, 58, 64, 70, 76, 81], live := lk [] }
def dec78 (rs : List (Bool × List (Lf C))) : Option (Bool) := match rs with
  | [(false, [.bool z0])] => some z0
  | _ => none
noncomputable def G78n (n : Nat) (a0 : VRecorder) (a1 : VRecorder) : Option (Bool) :=
      cond (a0.Number != a1.Number)
      (some (false))
      (cond (a0.Of != a1.Of)
      (some (false))
      (cond (!(a0.Up == a1.Up))
      (some (false))
      (Option.bind (G93 (⟨a0.Safe_Promise, a0.Safe_Known, a0.Safe_Slots⟩ : VRecDisk) (⟨a1.Safe_Promise, a1.Safe_Known, a1.Safe_Slots⟩ : VRecDisk)) fun r1 =>
      cond (!r1)
      (some (false))
      (Option.bind (G93 (⟨a0.Disk_Promise, a0.Disk_Known, a0.Disk_Slots⟩ : VRecDisk) (⟨a1.Disk_Promise, a1.Disk_Known, a1.Disk_Slots⟩ : VRecDisk)) fun r2 =>
      cond (!r2)
      (some (false))
      (Option.bind (G53 a0.Held a1.Held) fun r3 =>
      cond (!r3)
      (some (false))
      (Option.bind (G94 a0.Wishes a1.Wishes) fun r4 =>
      cond (!r4)
      (some (false))
      (cond (!(a0.Lead == a1.Lead))
      (some (false))
      (cond (!(a0.Trying == a1.Trying))
      (some (false))
      (cond (a0.Ballot != a1.Ballot)
      (some (false))
      (Option.bind (G95 a0.Yes a1.Yes) fun r5 =>
      cond (!r5)
      (some (false))
      (Option.bind (G96 a0.Best a1.Best) fun r6 =>
      cond (!r6)
      (some (false))
      (Option.bind (G97 a0.Acks a1.Acks) fun r7 =>
      cond (!r7)
      (some (false))
      (cond (a0.Heard != a1.Heard)
      (some (false))
      (some (true)))))))))))))))
theorem t78 (n : Nat) (a0 : VRecorder) (a1 : VRecorder) : runFn X78 (F78 n) Go.Proofs.Try.f78 [.agg [.int .i64 a0.Number, .int .i64 a0.Of, .bool a0.Up, .int .i64 a0.Safe_Promise, .int .i64 a0.Safe_Known, .row .e132 a0.Safe_Slots, .int .i64 a0.Disk_Promise, .int .i64 a0.Disk_Known, .row .e132 a0.Disk_Slots, .row .e116 a0.Held, .row .e9 a0.Wishes, .bool a0.Lead, .bool a0.Trying, .int .i64 a0.Ballot, .row .e3 a0.Yes, .row .e132 a0.Best, .row .e134 a0.Acks, .int .i64 a0.Heard], .agg [.int .i64 a1.Number, .int .i64 a1.Of, .bool a1.Up, .int .i64 a1.Safe_Promise, .int .i64 a1.Safe_Known, .row .e132 a1.Safe_Slots, .int .i64 a1.Disk_Promise, .int .i64 a1.Disk_Known, .row .e132 a1.Disk_Slots, .row .e116 a1.Held, .row .e9 a1.Wishes, .bool a1.Lead, .bool a1.Trying, .int .i64 a1.Ballot, .row .e3 a1.Yes, .row .e132 a1.Best, .row .e134 a1.Acks, .int .i64 a1.Heard]] dec78 = G78n n a0 a1 := by
  kernel_rfl
noncomputable def G78 (a0 : VRecorder) (a1 : VRecorder) : Option (Bool) := G78n fuel a0 a1
noncomputable def con78 : Con C := { R0 := Bool, ret := fun r => [(false, [.bool r])], g := fun vs => match vs with
  | [.agg [.int .i64 y0_0, .int .i64 y0_1, .bool y0_2, .int .i64 y0_3, .int .i64 y0_4, .row .e132 y0_5, .int .i64 y0_6, .int .i64 y0_7, .row .e132 y0_8, .row .e116 y0_9, .row .e9 y0_10, .bool y0_11, .bool y0_12, .int .i64 y0_13, .row .e3 y0_14, .row .e132 y0_15, .row .e134 y0_16, .int .i64 y0_17], .agg [.int .i64 y1_0, .int .i64 y1_1, .bool y1_2, .int .i64 y1_3, .int .i64 y1_4, .row .e132 y1_5, .int .i64 y1_6, .int .i64 y1_7, .row .e132 y1_8, .row .e116 y1_9, .row .e9 y1_10, .bool y1_11, .bool y1_12, .int .i64 y1_13, .row .e3 y1_14, .row .e132 y1_15, .row .e134 y1_16, .int .i64 y1_17]] => G78 ⟨y0_0, y0_1, y0_2, y0_3, y0_4, y0_5, y0_6, y0_7, y0_8, y0_9, y0_10, y0_11, y0_12, y0_13, y0_14, y0_15, y0_16, y0_17⟩ ⟨y1_0, y1_1, y1_2, y1_3, y1_4, y1_5, y1_6, y1_7, y1_8, y1_9, y1_10, y1_11, y1_12, y1_13, y1_14, y1_15, y1_16, y1_17⟩
  | _ => none }
theorem x78 : XOk Go.Proofs.Try.prog X78 := ⟨tks_ok, els_ok⟩
theorem q78 : Cons Go.Proofs.Try.prog X78 := ⟨lkR_ok (l := [(53, con53), (93, con93), (94, con94), (95, con95), (96, con96), (97, con97)]) ⟨c53, c93, c94, c95, c96, c97, trivial⟩, lkW_ok (l := []) trivial⟩
theorem c78 : ConOk Go.Proofs.Try.prog KK 78 con78 := by
  refine con_dec x78 q78 (by kernel_rfl) (f := 78) (fn := Go.Proofs.Try.f78) (c := bodyOf Go.Proofs.Try.f78) (by kernel_rfl) (by kernel_rfl) (by kernel_rfl) (nameB (by kernel_rfl)) con78 dec78 (fun rs r0 h => ?_) (fun vs r0 h => ?_)
  · unfold dec78 at h
    split at h
    · cases h; rfl
    · cases h
  · simp only [con78] at h
    split at h
    · rename_i y0_0 y0_1 y0_2 y0_3 y0_4 y0_5 y0_6 y0_7 y0_8 y0_9 y0_10 y0_11 y0_12 y0_13 y0_14 y0_15 y0_16 y0_17 y1_0 y1_1 y1_2 y1_3 y1_4 y1_5 y1_6 y1_7 y1_8 y1_9 y1_10 y1_11 y1_12 y1_13 y1_14 y1_15 y1_16 y1_17
      exact ⟨Nat.le_of_ble_eq_true (by kernel_rfl), F78 fuel, (t78 fuel ⟨y0_0, y0_1, y0_2, y0_3, y0_4, y0_5, y0_6, y0_7, y0_8, y0_9, y0_10, y0_11, y0_12, y0_13, y0_14, y0_15, y0_16, y0_17⟩ ⟨y1_0, y1_1, y1_2, y1_3, y1_4, y1_5, y1_6, y1_7, y1_8, y1_9, y1_10, y1_11, y1_12, y1_13, y1_14, y1_15, y1_16, y1_17⟩).trans h⟩
    · cases h
/-! ### f52 loop.example/wharfdesk/laws.eqRecorderS -/
noncomputable def X52 : Cx C := { K := KK, tk := lk tks, con := lkC [(78, con78)], conw := lkC [] }
def F52 (n : Nat) : Cf := { N := n, keep := [0, 1, 4, 5, 10, 14, 26], live := lk [(0, [0, 1, 5])] }
def dec52 (rs : List (Bool × List (Lf C))) : Option (Bool) := match rs with
  | [(false, [.bool z0])] => some z0
  | _ => none
abbrev A52_0 : Type := List (C .e84) × List (C .e84) × Int
def s52_0 : A52_0 → St C := fun (x0_0, x0_1, x0_2) => { env := [(0, .one (.row .e84 x0_0)), (1, .one (.row .e84 x0_1)), (5, .one (.int .i64 x0_2))], objs := [], base := 0 }
noncomputable def r52_0 (n : Nat)  (rec0 : A52_0 → Option (Bool)) : A52_0 → Option (Bool) := fun (x0_0, x0_1, x0_2) =>
      cond (decide (x0_2 < (x0_0.length : Int)))
      (cond (decide (0 ≤ x0_2)) (Option.bind x0_0[x0_2.toNat]? fun x1 => cond (decide (0 ≤ x0_2)) (Option.bind x0_1[x0_2.toNat]? fun x2 => Option.bind (G78 x1 x2) fun r3 =>
      cond (!r3)
      (some (false))
      (rec0 (x0_0, x0_1, IntKind.i64.wrap (x0_2 + 1)))) none) none)
      (some (true))
noncomputable def LP52_0 (n : Nat)  (x : A52_0) : Option (Bool) := lpN (r52_0 n ) n x
noncomputable def MP52_0 (n : Nat)  (x : A52_0) : Option (Bool) := iter (fun rec S => run X52 (F52 n) (codeAt (bodyOf Go.Proofs.Try.f52) [1, 1, 0, 1, 0, 0]) 0 S (lopK rec (blkK 0 (seqK (run X52 (F52 n) (codeAt (bodyOf Go.Proofs.Try.f52) [1, 1, 1]) 0) (kTop X52 Go.Proofs.Try.f52 dec52))))) [0, 1, 5] n (s52_0 x)
theorem m52_0 (n : Nat)  (x : A52_0) : MP52_0 n  x = LP52_0 n  x := by
  refine iter_eq s52_0 (r52_0 n ) (fun rec0 x => ?_) n x
  obtain ⟨x0_0, x0_1, x0_2⟩ := x
  kernel_rfl
noncomputable def G52n (n : Nat) (a0 : List (C .e84)) (a1 : List (C .e84)) : Option (Bool) :=
      cond ((a0.length : Int) != (a1.length : Int))
      (some (false))
      (LP52_0 n  (a0, a1, 0))
theorem t52 (n : Nat) (a0 : List (C .e84)) (a1 : List (C .e84)) : runFn X52 (F52 n) Go.Proofs.Try.f52 [.one (.row .e84 a0), .one (.row .e84 a1)] dec52 = G52n n a0 a1 := by
  have h : runFn X52 (F52 n) Go.Proofs.Try.f52 [.one (.row .e84 a0), .one (.row .e84 a1)] dec52 =
      cond ((a0.length : Int) != (a1.length : Int))
      (some (false))
      (MP52_0 n  (a0, a1, 0)) := by kernel_rfl
  simp only [h, G52n, m52_0]
noncomputable def G52 (a0 : List (C .e84)) (a1 : List (C .e84)) : Option (Bool) := G52n fuel a0 a1
noncomputable def con52 : Con C := { R0 := Bool, ret := fun r => [(false, [.bool r])], g := fun vs => match vs with
  | [.one (.row .e84 y0), .one (.row .e84 y1)] => G52 y0 y1
  | _ => none }
theorem x52 : XOk Go.Proofs.Try.prog X52 := ⟨tks_ok, els_ok⟩
theorem q52 : Cons Go.Proofs.Try.prog X52 := ⟨lkR_ok (l := [(78, con78)]) ⟨c78, trivial⟩, lkW_ok (l := []) trivial⟩
theorem c52 : ConOk Go.Proofs.Try.prog KK 52 con52 := by
  refine con_dec x52 q52 (by kernel_rfl) (f := 52) (fn := Go.Proofs.Try.f52) (c := bodyOf Go.Proofs.Try.f52) (by kernel_rfl) (by kernel_rfl) (by kernel_rfl) (nameB (by kernel_rfl)) con52 dec52 (fun rs r0 h => ?_) (fun vs r0 h => ?_)
  · unfold dec52 at h
    split at h
    · cases h; rfl
    · cases h
  · simp only [con52] at h
    split at h
    · rename_i y0 y1
      exact ⟨Nat.le_of_ble_eq_true (by kernel_rfl), F52 fuel, (t52 fuel y0 y1).trans h⟩
    · cases h
/-! ### f80 loop.example/wharfdesk/laws.eqRecFix -/
noncomputable def X80 : Cx C := { K := KK, tk := lk tks, con := lkC [], conw := lkC [] }
def F80 (n : Nat) : Cf := { N := n, keep := [0, 1, 2, 3, 4, 9, 14], live := lk [] }
def dec80 (rs : List (Bool × List (Lf C))) : Option (Bool) := match rs with
  | [(false, [.bool z0])] => some z0
  | _ => none
noncomputable def G80n (n : Nat) (a0 : VRecFix) (a1 : VRecFix) : Option (Bool) :=
      cond (a0.Index != a1.Index)
      (some (false))
      (cond (!decide (a0.Text = a1.Text))
      (some (false))
      (some (true)))
theorem t80 (n : Nat) (a0 : VRecFix) (a1 : VRecFix) : runFn X80 (F80 n) Go.Proofs.Try.f80 [.agg [.int .i64 a0.Index, .str a0.Text], .agg [.int .i64 a1.Index, .str a1.Text]] dec80 = G80n n a0 a1 := by
  kernel_rfl
noncomputable def G80 (a0 : VRecFix) (a1 : VRecFix) : Option (Bool) := G80n fuel a0 a1
noncomputable def con80 : Con C := { R0 := Bool, ret := fun r => [(false, [.bool r])], g := fun vs => match vs with
  | [.agg [.int .i64 y0_0, .str y0_1], .agg [.int .i64 y1_0, .str y1_1]] => G80 ⟨y0_0, y0_1⟩ ⟨y1_0, y1_1⟩
  | _ => none }
theorem x80 : XOk Go.Proofs.Try.prog X80 := ⟨tks_ok, els_ok⟩
theorem q80 : Cons Go.Proofs.Try.prog X80 := ⟨lkR_ok (l := []) trivial, lkW_ok (l := []) trivial⟩
theorem c80 : ConOk Go.Proofs.Try.prog KK 80 con80 := by
  refine con_dec x80 q80 (by kernel_rfl) (f := 80) (fn := Go.Proofs.Try.f80) (c := bodyOf Go.Proofs.Try.f80) (by kernel_rfl) (by kernel_rfl) (by kernel_rfl) (nameB (by kernel_rfl)) con80 dec80 (fun rs r0 h => ?_) (fun vs r0 h => ?_)
  · unfold dec80 at h
    split at h
    · cases h; rfl
    · cases h
  · simp only [con80] at h
    split at h
    · rename_i y0_0 y0_1 y1_0 y1_1
      exact ⟨Nat.le_of_ble_eq_true (by kernel_rfl), F80 fuel, (t80 fuel ⟨y0_0, y0_1⟩ ⟨y1_0, y1_1⟩).trans h⟩
    · cases h
/-! ### f54 loop.example/wharfdesk/laws.eqRecFixS -/
noncomputable def X54 : Cx C := { K := KK, tk := lk tks, con := lkC [(80, con80)], conw := lkC [] }
def F54 (n : Nat) : Cf := { N := n, keep := [0, 1, 4, 5, 10, 14, 26], live := lk [(0, [0, 1, 5])] }
def dec54 (rs : List (Bool × List (Lf C))) : Option (Bool) := match rs with
  | [(false, [.bool z0])] => some z0
  | _ => none
abbrev A54_0 : Type := List (C .e119) × List (C .e119) × Int
def s54_0 : A54_0 → St C := fun (x0_0, x0_1, x0_2) => { env := [(0, .one (.row .e119 x0_0)), (1, .one (.row .e119 x0_1)), (5, .one (.int .i64 x0_2))], objs := [], base := 0 }
noncomputable def r54_0 (n : Nat)  (rec0 : A54_0 → Option (Bool)) : A54_0 → Option (Bool) := fun (x0_0, x0_1, x0_2) =>
      cond (decide (x0_2 < (x0_0.length : Int)))
      (cond (decide (0 ≤ x0_2)) (Option.bind x0_0[x0_2.toNat]? fun x1 => cond (decide (0 ≤ x0_2)) (Option.bind x0_1[x0_2.toNat]? fun x2 => Option.bind (G80 x1 x2) fun r3 =>
      cond (!r3)
      (some (false))
      (rec0 (x0_0, x0_1, IntKind.i64.wrap (x0_2 + 1)))) none) none)
      (some (true))
noncomputable def LP54_0 (n : Nat)  (x : A54_0) : Option (Bool) := lpN (r54_0 n ) n x
noncomputable def MP54_0 (n : Nat)  (x : A54_0) : Option (Bool) := iter (fun rec S => run X54 (F54 n) (codeAt (bodyOf Go.Proofs.Try.f54) [1, 1, 0, 1, 0, 0]) 0 S (lopK rec (blkK 0 (seqK (run X54 (F54 n) (codeAt (bodyOf Go.Proofs.Try.f54) [1, 1, 1]) 0) (kTop X54 Go.Proofs.Try.f54 dec54))))) [0, 1, 5] n (s54_0 x)
theorem m54_0 (n : Nat)  (x : A54_0) : MP54_0 n  x = LP54_0 n  x := by
  refine iter_eq s54_0 (r54_0 n ) (fun rec0 x => ?_) n x
  obtain ⟨x0_0, x0_1, x0_2⟩ := x
  kernel_rfl
noncomputable def G54n (n : Nat) (a0 : List (C .e119)) (a1 : List (C .e119)) : Option (Bool) :=
      cond ((a0.length : Int) != (a1.length : Int))
      (some (false))
      (LP54_0 n  (a0, a1, 0))
theorem t54 (n : Nat) (a0 : List (C .e119)) (a1 : List (C .e119)) : runFn X54 (F54 n) Go.Proofs.Try.f54 [.one (.row .e119 a0), .one (.row .e119 a1)] dec54 = G54n n a0 a1 := by
  have h : runFn X54 (F54 n) Go.Proofs.Try.f54 [.one (.row .e119 a0), .one (.row .e119 a1)] dec54 =
      cond ((a0.length : Int) != (a1.length : Int))
      (some (false))
      (MP54_0 n  (a0, a1, 0)) := by kernel_rfl
  simp only [h, G54n, m54_0]
noncomputable def G54 (a0 : List (C .e119)) (a1 : List (C .e119)) : Option (Bool) := G54n fuel a0 a1
noncomputable def con54 : Con C := { R0 := Bool, ret := fun r => [(false, [.bool r])], g := fun vs => match vs with
  | [.one (.row .e119 y0), .one (.row .e119 y1)] => G54 y0 y1
  | _ => none }
theorem x54 : XOk Go.Proofs.Try.prog X54 := ⟨tks_ok, els_ok⟩
theorem q54 : Cons Go.Proofs.Try.prog X54 := ⟨lkR_ok (l := [(80, con80)]) ⟨c80, trivial⟩, lkW_ok (l := []) trivial⟩
theorem c54 : ConOk Go.Proofs.Try.prog KK 54 con54 := by
  refine con_dec x54 q54 (by kernel_rfl) (f := 54) (fn := Go.Proofs.Try.f54) (c := bodyOf Go.Proofs.Try.f54) (by kernel_rfl) (by kernel_rfl) (by kernel_rfl) (nameB (by kernel_rfl)) con54 dec54 (fun rs r0 h => ?_) (fun vs r0 h => ?_)
  · unfold dec54 at h
    split at h
    · cases h; rfl
    · cases h
  · simp only [con54] at h
    split at h
    · rename_i y0 y1
      exact ⟨Nat.le_of_ble_eq_true (by kernel_rfl), F54 fuel, (t54 fuel y0 y1).trans h⟩
    · cases h
/-! ### f24 loop.example/wharfdesk/laws.eqRecWorld -/
noncomputable def X24 : Cx C := { K := KK, tk := lk tks, con := lkC [(52, con52), (53, con53), (54, con54)], conw := lkC [] }
def F24 (n : Nat) : Cf := { N := n, keep := [0, 1, 2, 3, 4, 10, 16, 22], live := lk [] }
def dec24 (rs : List (Bool × List (Lf C))) : Option (Bool) := match rs with
  | [(false, [.bool z0])] => some z0
  | _ => none
noncomputable def G24n (n : Nat) (a0 : VRecWorld) (a1 : VRecWorld) : Option (Bool) :=
      Option.bind (G52 a0.Recorders a1.Recorders) fun r1 =>
      cond (!r1)
      (some (false))
      (Option.bind (G53 a0.Flight a1.Flight) fun r2 =>
      cond (!r2)
      (some (false))
      (Option.bind (G54 a0.Fixed a1.Fixed) fun r3 =>
      cond (!r3)
      (some (false))
      (some (true))))
theorem t24 (n : Nat) (a0 : VRecWorld) (a1 : VRecWorld) : runFn X24 (F24 n) Go.Proofs.Try.f24 [.agg [.row .e84 a0.Recorders, .row .e116 a0.Flight, .row .e119 a0.Fixed], .agg [.row .e84 a1.Recorders, .row .e116 a1.Flight, .row .e119 a1.Fixed]] dec24 = G24n n a0 a1 := by
  kernel_rfl
noncomputable def G24 (a0 : VRecWorld) (a1 : VRecWorld) : Option (Bool) := G24n fuel a0 a1
noncomputable def con24 : Con C := { R0 := Bool, ret := fun r => [(false, [.bool r])], g := fun vs => match vs with
  | [.agg [.row .e84 y0_0, .row .e116 y0_1, .row .e119 y0_2], .agg [.row .e84 y1_0, .row .e116 y1_1, .row .e119 y1_2]] => G24 ⟨y0_0, y0_1, y0_2⟩ ⟨y1_0, y1_1, y1_2⟩
  | _ => none }
theorem x24 : XOk Go.Proofs.Try.prog X24 := ⟨tks_ok, els_ok⟩
theorem q24 : Cons Go.Proofs.Try.prog X24 := ⟨lkR_ok (l := [(52, con52), (53, con53), (54, con54)]) ⟨c52, c53, c54, trivial⟩, lkW_ok (l := []) trivial⟩
theorem c24 : ConOk Go.Proofs.Try.prog KK 24 con24 := by
  refine con_dec x24 q24 (by kernel_rfl) (f := 24) (fn := Go.Proofs.Try.f24) (c := bodyOf Go.Proofs.Try.f24) (by kernel_rfl) (by kernel_rfl) (by kernel_rfl) (nameB (by kernel_rfl)) con24 dec24 (fun rs r0 h => ?_) (fun vs r0 h => ?_)
  · unfold dec24 at h
    split at h
    · cases h; rfl
    · cases h
  · simp only [con24] at h
    split at h
    · rename_i y0_0 y0_1 y0_2 y1_0 y1_1 y1_2
      exact ⟨Nat.le_of_ble_eq_true (by kernel_rfl), F24 fuel, (t24 fuel ⟨y0_0, y0_1, y0_2⟩ ⟨y1_0, y1_1, y1_2⟩).trans h⟩
    · cases h
/-! ### f81 loop.example/wharfdesk/laws.eqGateSaid -/
noncomputable def X81 : Cx C := { K := KK, tk := lk tks, con := lkC [], conw := lkC [] }
def F81 (n : Nat) : Cf := { N := n, keep := [0, 1, 2, 3, 4, 9, 14, 19], live := lk [] }
def dec81 (rs : List (Bool × List (Lf C))) : Option (Bool) := match rs with
  | [(false, [.bool z0])] => some z0
  | _ => none
noncomputable def G81n (n : Nat) (a0 : VGateSaid) (a1 : VGateSaid) : Option (Bool) :=
      cond (a0.Code != a1.Code)
      (some (false))
      (cond (a0.Place != a1.Place)
      (some (false))
      (cond (a0.Version != a1.Version)
      (some (false))
      (some (true))))
theorem t81 (n : Nat) (a0 : VGateSaid) (a1 : VGateSaid) : runFn X81 (F81 n) Go.Proofs.Try.f81 [.agg [.int .i64 a0.Code, .int .i64 a0.Place, .int .i64 a0.Version], .agg [.int .i64 a1.Code, .int .i64 a1.Place, .int .i64 a1.Version]] dec81 = G81n n a0 a1 := by
  kernel_rfl
noncomputable def G81 (a0 : VGateSaid) (a1 : VGateSaid) : Option (Bool) := G81n fuel a0 a1
noncomputable def con81 : Con C := { R0 := Bool, ret := fun r => [(false, [.bool r])], g := fun vs => match vs with
  | [.agg [.int .i64 y0_0, .int .i64 y0_1, .int .i64 y0_2], .agg [.int .i64 y1_0, .int .i64 y1_1, .int .i64 y1_2]] => G81 ⟨y0_0, y0_1, y0_2⟩ ⟨y1_0, y1_1, y1_2⟩
  | _ => none }
theorem x81 : XOk Go.Proofs.Try.prog X81 := ⟨tks_ok, els_ok⟩
theorem q81 : Cons Go.Proofs.Try.prog X81 := ⟨lkR_ok (l := []) trivial, lkW_ok (l := []) trivial⟩
theorem c81 : ConOk Go.Proofs.Try.prog KK 81 con81 := by
  refine con_dec x81 q81 (by kernel_rfl) (f := 81) (fn := Go.Proofs.Try.f81) (c := bodyOf Go.Proofs.Try.f81) (by kernel_rfl) (by kernel_rfl) (by kernel_rfl) (nameB (by kernel_rfl)) con81 dec81 (fun rs r0 h => ?_) (fun vs r0 h => ?_)
  · unfold dec81 at h
    split at h
    · cases h; rfl
    · cases h
  · simp only [con81] at h
    split at h
    · rename_i y0_0 y0_1 y0_2 y1_0 y1_1 y1_2
      exact ⟨Nat.le_of_ble_eq_true (by kernel_rfl), F81 fuel, (t81 fuel ⟨y0_0, y0_1, y0_2⟩ ⟨y1_0, y1_1, y1_2⟩).trans h⟩
    · cases h
/-! ### f55 loop.example/wharfdesk/laws.eqHallAsked -/
noncomputable def X55 : Cx C := { K := KK, tk := lk tks, con := lkC [(81, con81)], conw := lkC [] }
def F55 (n : Nat) : Cf := { N := n, keep := [0, 1, 2, 3, 4, 9, 14, 19, 25], live := lk [] }
def dec55 (rs : List (Bool × List (Lf C))) : Option (Bool) := match rs with
  | [(false, [.bool z0])] => some z0
  | _ => none
noncomputable def G55n (n : Nat) (a0 : VHallAsked) (a1 : VHallAsked) : Option (Bool) :=
      cond (!decide (a0.Text = a1.Text))
      (some (false))
      (cond (a0.From != a1.From)
      (some (false))
      (cond (a0.To != a1.To)
      (some (false))
      (Option.bind (G81 (⟨a0.Said_Code, a0.Said_Place, a0.Said_Version⟩ : VGateSaid) (⟨a1.Said_Code, a1.Said_Place, a1.Said_Version⟩ : VGateSaid)) fun r1 =>
      cond (!r1)
      (some (false))
      (some (true)))))
theorem t55 (n : Nat) (a0 : VHallAsked) (a1 : VHallAsked) : runFn X55 (F55 n) Go.Proofs.Try.f55 [.agg [.str a0.Text, .int .i64 a0.From, .int .i64 a0.To, .int .i64 a0.Said_Code, .int .i64 a0.Said_Place, .int .i64 a0.Said_Version], .agg [.str a1.Text, .int .i64 a1.From, .int .i64 a1.To, .int .i64 a1.Said_Code, .int .i64 a1.Said_Place, .int .i64 a1.Said_Version]] dec55 = G55n n a0 a1 := by
  kernel_rfl
noncomputable def G55 (a0 : VHallAsked) (a1 : VHallAsked) : Option (Bool) := G55n fuel a0 a1
noncomputable def con55 : Con C := { R0 := Bool, ret := fun r => [(false, [.bool r])], g := fun vs => match vs with
  | [.agg [.str y0_0, .int .i64 y0_1, .int .i64 y0_2, .int .i64 y0_3, .int .i64 y0_4, .int .i64 y0_5], .agg [.str y1_0, .int .i64 y1_1, .int .i64 y1_2, .int .i64 y1_3, .int .i64 y1_4, .int .i64 y1_5]] => G55 ⟨y0_0, y0_1, y0_2, y0_3, y0_4, y0_5⟩ ⟨y1_0, y1_1, y1_2, y1_3, y1_4, y1_5⟩
  | _ => none }
theorem x55 : XOk Go.Proofs.Try.prog X55 := ⟨tks_ok, els_ok⟩
theorem q55 : Cons Go.Proofs.Try.prog X55 := ⟨lkR_ok (l := [(81, con81)]) ⟨c81, trivial⟩, lkW_ok (l := []) trivial⟩
theorem c55 : ConOk Go.Proofs.Try.prog KK 55 con55 := by
  refine con_dec x55 q55 (by kernel_rfl) (f := 55) (fn := Go.Proofs.Try.f55) (c := bodyOf Go.Proofs.Try.f55) (by kernel_rfl) (by kernel_rfl) (by kernel_rfl) (nameB (by kernel_rfl)) con55 dec55 (fun rs r0 h => ?_) (fun vs r0 h => ?_)
  · unfold dec55 at h
    split at h
    · cases h; rfl
    · cases h
  · simp only [con55] at h
    split at h
    · rename_i y0_0 y0_1 y0_2 y0_3 y0_4 y0_5 y1_0 y1_1 y1_2 y1_3 y1_4 y1_5
      exact ⟨Nat.le_of_ble_eq_true (by kernel_rfl), F55 fuel, (t55 fuel ⟨y0_0, y0_1, y0_2, y0_3, y0_4, y0_5⟩ ⟨y1_0, y1_1, y1_2, y1_3, y1_4, y1_5⟩).trans h⟩
    · cases h
/-! ### f25 loop.example/wharfdesk/laws.eqHallAskedS -/
noncomputable def X25 : Cx C := { K := KK, tk := lk tks, con := lkC [(55, con55)], conw := lkC [] }
def F25 (n : Nat) : Cf := { N := n, keep := [0, 1, 4, 5, 10, 14, 26], live := lk [(0, [0, 1, 5])] }
def dec25 (rs : List (Bool × List (Lf C))) : Option (Bool) := match rs with
  | [(false, [.bool z0])] => some z0
  | _ => none
abbrev A25_0 : Type := List (C .e98) × List (C .e98) × Int
def s25_0 : A25_0 → St C := fun (x0_0, x0_1, x0_2) => { env := [(0, .one (.row .e98 x0_0)), (1, .one (.row .e98 x0_1)), (5, .one (.int .i64 x0_2))], objs := [], base := 0 }
noncomputable def r25_0 (n : Nat)  (rec0 : A25_0 → Option (Bool)) : A25_0 → Option (Bool) := fun (x0_0, x0_1, x0_2) =>
      cond (decide (x0_2 < (x0_0.length : Int)))
      (cond (decide (0 ≤ x0_2)) (Option.bind x0_0[x0_2.toNat]? fun x1 => cond (decide (0 ≤ x0_2)) (Option.bind x0_1[x0_2.toNat]? fun x2 => Option.bind (G55 x1 x2) fun r3 =>
      cond (!r3)
      (some (false))
      (rec0 (x0_0, x0_1, IntKind.i64.wrap (x0_2 + 1)))) none) none)
      (some (true))
noncomputable def LP25_0 (n : Nat)  (x : A25_0) : Option (Bool) := lpN (r25_0 n ) n x
noncomputable def MP25_0 (n : Nat)  (x : A25_0) : Option (Bool) := iter (fun rec S => run X25 (F25 n) (codeAt (bodyOf Go.Proofs.Try.f25) [1, 1, 0, 1, 0, 0]) 0 S (lopK rec (blkK 0 (seqK (run X25 (F25 n) (codeAt (bodyOf Go.Proofs.Try.f25) [1, 1, 1]) 0) (kTop X25 Go.Proofs.Try.f25 dec25))))) [0, 1, 5] n (s25_0 x)
theorem m25_0 (n : Nat)  (x : A25_0) : MP25_0 n  x = LP25_0 n  x := by
  refine iter_eq s25_0 (r25_0 n ) (fun rec0 x => ?_) n x
  obtain ⟨x0_0, x0_1, x0_2⟩ := x
  kernel_rfl
noncomputable def G25n (n : Nat) (a0 : List (C .e98)) (a1 : List (C .e98)) : Option (Bool) :=
      cond ((a0.length : Int) != (a1.length : Int))
      (some (false))
      (LP25_0 n  (a0, a1, 0))
theorem t25 (n : Nat) (a0 : List (C .e98)) (a1 : List (C .e98)) : runFn X25 (F25 n) Go.Proofs.Try.f25 [.one (.row .e98 a0), .one (.row .e98 a1)] dec25 = G25n n a0 a1 := by
  have h : runFn X25 (F25 n) Go.Proofs.Try.f25 [.one (.row .e98 a0), .one (.row .e98 a1)] dec25 =
      cond ((a0.length : Int) != (a1.length : Int))
      (some (false))
      (MP25_0 n  (a0, a1, 0)) := by kernel_rfl
  simp only [h, G25n, m25_0]
noncomputable def G25 (a0 : List (C .e98)) (a1 : List (C .e98)) : Option (Bool) := G25n fuel a0 a1
noncomputable def con25 : Con C := { R0 := Bool, ret := fun r => [(false, [.bool r])], g := fun vs => match vs with
  | [.one (.row .e98 y0), .one (.row .e98 y1)] => G25 y0 y1
  | _ => none }
theorem x25 : XOk Go.Proofs.Try.prog X25 := ⟨tks_ok, els_ok⟩
theorem q25 : Cons Go.Proofs.Try.prog X25 := ⟨lkR_ok (l := [(55, con55)]) ⟨c55, trivial⟩, lkW_ok (l := []) trivial⟩
theorem c25 : ConOk Go.Proofs.Try.prog KK 25 con25 := by
  refine con_dec x25 q25 (by kernel_rfl) (f := 25) (fn := Go.Proofs.Try.f25) (c := bodyOf Go.Proofs.Try.f25) (by kernel_rfl) (by kernel_rfl) (by kernel_rfl) (nameB (by kernel_rfl)) con25 dec25 (fun rs r0 h => ?_) (fun vs r0 h => ?_)
  · unfold dec25 at h
    split at h
    · cases h; rfl
    · cases h
  · simp only [con25] at h
    split at h
    · rename_i y0 y1
      exact ⟨Nat.le_of_ble_eq_true (by kernel_rfl), F25 fuel, (t25 fuel y0 y1).trans h⟩
    · cases h
/-! ### f8 loop.example/wharfdesk/laws.eqHallWorld -/
noncomputable def X8 : Cx C := { K := KK, tk := lk tks, con := lkC [(9, con9), (24, con24), (25, con25)], conw := lkC [] }
def F8 (n : Nat) : Cf := { N := n, keep := [0, 1, 2, 3, 4, 10, 16, 21, 27], live := lk [] }
def dec8 (rs : List (Bool × List (Lf C))) : Option (Bool) := match rs with
  | [(false, [.bool z0])] => some z0
  | _ => none
noncomputable def G8n (n : Nat) (a0 : VHallWorld) (a1 : VHallWorld) : Option (Bool) :=
      Option.bind (G9 (⟨a0.House_Teams, a0.House_Grants⟩ : VHallHouse) (⟨a1.House_Teams, a1.House_Grants⟩ : VHallHouse)) fun r1 =>
      cond (!r1)
      (some (false))
      (Option.bind (G24 (⟨a0.Rec_Recorders, a0.Rec_Flight, a0.Rec_Fixed⟩ : VRecWorld) (⟨a1.Rec_Recorders, a1.Rec_Flight, a1.Rec_Fixed⟩ : VRecWorld)) fun r2 =>
      cond (!r2)
      (some (false))
      (cond (a0.Now != a1.Now)
      (some (false))
      (Option.bind (G25 a0.Asked a1.Asked) fun r3 =>
      cond (!r3)
      (some (false))
      (some (true)))))
theorem t8 (n : Nat) (a0 : VHallWorld) (a1 : VHallWorld) : runFn X8 (F8 n) Go.Proofs.Try.f8 [.agg [.row .e86 a0.House_Teams, .row .e74 a0.House_Grants, .row .e84 a0.Rec_Recorders, .row .e116 a0.Rec_Flight, .row .e119 a0.Rec_Fixed, .int .i64 a0.Now, .row .e98 a0.Asked], .agg [.row .e86 a1.House_Teams, .row .e74 a1.House_Grants, .row .e84 a1.Rec_Recorders, .row .e116 a1.Rec_Flight, .row .e119 a1.Rec_Fixed, .int .i64 a1.Now, .row .e98 a1.Asked]] dec8 = G8n n a0 a1 := by
  kernel_rfl
noncomputable def G8 (a0 : VHallWorld) (a1 : VHallWorld) : Option (Bool) := G8n fuel a0 a1
noncomputable def con8 : Con C := { R0 := Bool, ret := fun r => [(false, [.bool r])], g := fun vs => match vs with
  | [.agg [.row .e86 y0_0, .row .e74 y0_1, .row .e84 y0_2, .row .e116 y0_3, .row .e119 y0_4, .int .i64 y0_5, .row .e98 y0_6], .agg [.row .e86 y1_0, .row .e74 y1_1, .row .e84 y1_2, .row .e116 y1_3, .row .e119 y1_4, .int .i64 y1_5, .row .e98 y1_6]] => G8 ⟨y0_0, y0_1, y0_2, y0_3, y0_4, y0_5, y0_6⟩ ⟨y1_0, y1_1, y1_2, y1_3, y1_4, y1_5, y1_6⟩
  | _ => none }
theorem x8 : XOk Go.Proofs.Try.prog X8 := ⟨tks_ok, els_ok⟩
theorem q8 : Cons Go.Proofs.Try.prog X8 := ⟨lkR_ok (l := [(9, con9), (24, con24), (25, con25)]) ⟨c9, c24, c25, trivial⟩, lkW_ok (l := []) trivial⟩
theorem c8 : ConOk Go.Proofs.Try.prog KK 8 con8 := by
  refine con_dec x8 q8 (by kernel_rfl) (f := 8) (fn := Go.Proofs.Try.f8) (c := bodyOf Go.Proofs.Try.f8) (by kernel_rfl) (by kernel_rfl) (by kernel_rfl) (nameB (by kernel_rfl)) con8 dec8 (fun rs r0 h => ?_) (fun vs r0 h => ?_)
  · unfold dec8 at h
    split at h
    · cases h; rfl
    · cases h
  · simp only [con8] at h
    split at h
    · rename_i y0_0 y0_1 y0_2 y0_3 y0_4 y0_5 y0_6 y1_0 y1_1 y1_2 y1_3 y1_4 y1_5 y1_6
      exact ⟨Nat.le_of_ble_eq_true (by kernel_rfl), F8 fuel, (t8 fuel ⟨y0_0, y0_1, y0_2, y0_3, y0_4, y0_5, y0_6⟩ ⟨y1_0, y1_1, y1_2, y1_3, y1_4, y1_5, y1_6⟩).trans h⟩
    · cases h
/-! ### f58 loop.example/wharfdesk/laws.markText -/
noncomputable def X58 : Cx C := { K := KK, tk := lk tks, con := lkC [], conw := lkC [] }
def F58 (n : Nat) : Cf := { N := n, keep := [0, 2, 3, 5, 7], live := lk [(0, [0, 3])] }
def dec58 (rs : List (Bool × List (Lf C))) : Option (ByteArray) := match rs with
  | [(false, [.str z0])] => some z0
  | _ => none
abbrev A58_0 : Type := Int × ByteArray
def s58_0 : A58_0 → St C := fun (x0_0, x0_1) => { env := [(0, .one (.int .i64 x0_0)), (3, .one (.str x0_1))], objs := [], base := 0 }
noncomputable def r58_0 (n : Nat)  (rec0 : A58_0 → Option (ByteArray)) : A58_0 → Option (ByteArray) := fun (x0_0, x0_1) =>
      cond (decide (x0_0 > 0))
      (cond (decide (10 = 0)) none (cond (decide ((strOf KK .e5 (([IntKind.u8.wrap (IntKind.i64.wrap (48 + (x0_0.tmod 10)))] : List (C .e5)))).size + x0_1.size ≤ 9223372036854775807)) (cond (decide (10 = 0)) none (rec0 (IntKind.i64.wrap (x0_0.tdiv 10), (strOf KK .e5 (([IntKind.u8.wrap (IntKind.i64.wrap (48 + (x0_0.tmod 10)))] : List (C .e5)))) ++ x0_1))) none))
      (cond (decide ((⟨#[109]⟩ : ByteArray).size + x0_1.size ≤ 9223372036854775807)) (some ((⟨#[109]⟩ : ByteArray) ++ x0_1)) none)
noncomputable def LP58_0 (n : Nat)  (x : A58_0) : Option (ByteArray) := lpN (r58_0 n ) n x
noncomputable def MP58_0 (n : Nat)  (x : A58_0) : Option (ByteArray) := iter (fun rec S => run X58 (F58 n) (codeAt (bodyOf Go.Proofs.Try.f58) [1, 1, 1, 0, 0, 0]) 0 S (lopK rec (blkK 0 (seqK (run X58 (F58 n) (codeAt (bodyOf Go.Proofs.Try.f58) [1, 1, 1, 1]) 0) (kTop X58 Go.Proofs.Try.f58 dec58))))) [0, 3] n (s58_0 x)
theorem m58_0 (n : Nat)  (x : A58_0) : MP58_0 n  x = LP58_0 n  x := by
  refine iter_eq s58_0 (r58_0 n ) (fun rec0 x => ?_) n x
  obtain ⟨x0_0, x0_1⟩ := x
  kernel_rfl
noncomputable def G58n (n : Nat) (a0 : Int) : Option (ByteArray) :=
      cond (decide (a0 ≤ 0))
      (some ((⟨#[109, 48]⟩ : ByteArray)))
      (LP58_0 n  (a0, (⟨#[]⟩ : ByteArray)))
theorem t58 (n : Nat) (a0 : Int) : runFn X58 (F58 n) Go.Proofs.Try.f58 [.one (.int .i64 a0)] dec58 = G58n n a0 := by
  have h : runFn X58 (F58 n) Go.Proofs.Try.f58 [.one (.int .i64 a0)] dec58 =
      cond (decide (a0 ≤ 0))
      (some ((⟨#[109, 48]⟩ : ByteArray)))
      (MP58_0 n  (a0, (⟨#[]⟩ : ByteArray))) := by kernel_rfl
  simp only [h, G58n, m58_0]
noncomputable def G58 (a0 : Int) : Option (ByteArray) := G58n fuel a0
noncomputable def con58 : Con C := { R0 := ByteArray, ret := fun r => [(false, [.str r])], g := fun vs => match vs with
  | [.one (.int .i64 y0)] => G58 y0
  | _ => none }
theorem x58 : XOk Go.Proofs.Try.prog X58 := ⟨tks_ok, els_ok⟩
theorem q58 : Cons Go.Proofs.Try.prog X58 := ⟨lkR_ok (l := []) trivial, lkW_ok (l := []) trivial⟩
theorem c58 : ConOk Go.Proofs.Try.prog KK 58 con58 := by
  refine con_dec x58 q58 (by kernel_rfl) (f := 58) (fn := Go.Proofs.Try.f58) (c := bodyOf Go.Proofs.Try.f58) (by kernel_rfl) (by kernel_rfl) (by kernel_rfl) (nameB (by kernel_rfl)) con58 dec58 (fun rs r0 h => ?_) (fun vs r0 h => ?_)
  · unfold dec58 at h
    split at h
    · cases h; rfl
    · cases h
  · simp only [con58] at h
    split at h
    · rename_i y0
      exact ⟨Nat.le_of_ble_eq_true (by kernel_rfl), F58 fuel, (t58 fuel y0).trans h⟩
    · cases h
/-! ### f28 loop.example/wharfdesk/laws.markGateTeamS -/
noncomputable def X28 : Cx C := { K := KK, tk := lk tks, con := lkC [(58, con58)], conw := lkC [] }
def F28 (n : Nat) : Cf := { N := n, keep := [0, 1, 4, 5, 9, 90000, 90001], live := lk [(0, [0, 1, 5, 90000, 90001])] }
def dec28 (os : List (Lf C)) (rs : List (Bool × List (Lf C))) : Option (List (C .e86) × Int) := match os, rs with
  | [.row .e86 o0], [(false, [.int .i64 z0])] => some (o0, z0)
  | _, _ => none
abbrev A28_0 : Type := List (C .e86) × Int × Int
def s28_0 : A28_0 → St C := fun (x0_0, x0_1, x0_2) => { env := [(0, .one (.ref 100000 [])), (1, .one (.int .i64 x0_1)), (5, .one (.int .i64 x0_2)), (90000, .frame), (90001, .hdr 100000 0)], objs := [(100000, .row .e86 x0_0 false)], base := 0 }
noncomputable def r28_0 (n : Nat)  (rec0 : A28_0 → Option (List (C .e86) × Int)) : A28_0 → Option (List (C .e86) × Int) := fun (x0_0, x0_1, x0_2) =>
      cond (decide (x0_2 < (x0_0.length : Int)))
      (Option.bind (G58 x0_1) fun r1 =>
      cond (decide (0 ≤ x0_2)) (cond (decide (x0_2 < (x0_0.length : Int))) (Option.bind x0_0[x0_2.toNat]? fun x2 => Option.bind (G58 (IntKind.i64.wrap (x0_1 + 1))) fun r3 =>
      cond (decide (0 ≤ x0_2)) (cond (decide (x0_2 < ((x0_0.set x0_2.toNat (⟨r1, x2.Over⟩ : VGateTeam)).length : Int))) (Option.bind (x0_0.set x0_2.toNat (⟨r1, x2.Over⟩ : VGateTeam))[x0_2.toNat]? fun x4 => rec0 ((x0_0.set x0_2.toNat (⟨r1, x2.Over⟩ : VGateTeam)).set x0_2.toNat (⟨x4.Name, r3⟩ : VGateTeam), IntKind.i64.wrap ((IntKind.i64.wrap (x0_1 + 1)) + 1), IntKind.i64.wrap (x0_2 + 1))) none) none) none) none)
      (some (x0_0, x0_1))
noncomputable def LP28_0 (n : Nat)  (x : A28_0) : Option (List (C .e86) × Int) := lpN (r28_0 n ) n x
noncomputable def MP28_0 (kp : Nat → Prop) (kh : Nat → Option Obj) (hd : Nat → Value) (n : Nat)  (x : A28_0) : Option (List (C .e86) × Int) := iter (fun rec S => run (X28.gh kp kh hd) (F28 n) (codeAt (bodyOf Go.Proofs.Try.f28) [1, 0, 1, 0, 0]) 0 S (lopK rec (blkK 0 (seqK (run (X28.gh kp kh hd) (F28 n) (codeAt (bodyOf Go.Proofs.Try.f28) [1, 1]) 0) (kTopW (X28.gh kp kh hd) Go.Proofs.Try.f28 [true, false] dec28))))) [0, 1, 5, 90000, 90001] n (s28_0 x)
theorem m28_0 (kp : Nat → Prop) (kh : Nat → Option Obj) (hd : Nat → Value) (n : Nat)  (x : A28_0) : MP28_0 kp kh hd n  x = LP28_0 n  x := by
  refine iter_eq s28_0 (r28_0 n ) (fun rec0 x => ?_) n x
  obtain ⟨x0_0, x0_1, x0_2⟩ := x
  kernel_rfl
noncomputable def G28n (n : Nat) (a0 : List (C .e86)) (a1 : Int) : Option (List (C .e86) × Int) :=
      LP28_0 n  (a0, a1, 0)
theorem t28 (kp : Nat → Prop) (kh : Nat → Option Obj) (hd : Nat → Value) (n : Nat) (a0 : List (C .e86)) (a1 : Int) : runFnW (X28.gh kp kh hd) (F28 n) Go.Proofs.Try.f28 [(false, [.row .e86 a0]), (false, [.int .i64 a1])] dec28 = G28n n a0 a1 := by
  have h : runFnW (X28.gh kp kh hd) (F28 n) Go.Proofs.Try.f28 [(false, [.row .e86 a0]), (false, [.int .i64 a1])] dec28 =
      MP28_0 kp kh hd n  (a0, a1, 0) := by kernel_rfl
  simp only [h, G28n, m28_0]
noncomputable def G28 (a0 : List (C .e86)) (a1 : Int) : Option (List (C .e86) × Int) := G28n fuel a0 a1
noncomputable def con28 : ConW C := { R0 := List (C .e86) × Int, out := fun r => [.row .e86 r.1], ret := fun r => [(false, [.int .i64 r.2])], g := fun rs => match rs with
  | [(false, [.row .e86 y0]), (false, [.int .i64 y1])] => G28 y0 y1
  | _ => none }
theorem x28 : XOk Go.Proofs.Try.prog X28 := ⟨tks_ok, els_ok⟩
theorem q28 : Cons Go.Proofs.Try.prog X28 := ⟨lkR_ok (l := [(58, con58)]) ⟨c58, trivial⟩, lkW_ok (l := []) trivial⟩
theorem c28 : ConWOk Go.Proofs.Try.prog KK 28 con28 := by
  refine conw_of x28 q28 (by kernel_rfl) (f := 28) (fn := Go.Proofs.Try.f28) (c := bodyOf Go.Proofs.Try.f28) (by kernel_rfl) (by kernel_rfl) (by kernel_rfl) (nameB (by kernel_rfl)) con28 dec28 (fun os rs r0 h => ?_) (fun rs r0 h => ?_)
  · unfold dec28 at h
    split at h
    · cases h; exact ⟨rfl, rfl⟩
    · cases h
  · simp only [con28] at h
    split at h
    · rename_i y0 y1
      exact ⟨Nat.le_of_ble_eq_true (by kernel_rfl), F28 fuel, fun kp kh hd => (t28 kp kh hd fuel y0 y1).trans h⟩
    · cases h
/-! ### f59 loop.example/wharfdesk/laws.markIntS -/
noncomputable def X59 : Cx C := { K := KK, tk := lk tks, con := lkC [], conw := lkC [] }
def F59 (n : Nat) : Cf := { N := n, keep := [0, 1, 4, 5, 9, 90000, 90001], live := lk [(0, [0, 1, 5, 90000, 90001])] }
def dec59 (os : List (Lf C)) (rs : List (Bool × List (Lf C))) : Option (List (C .e3) × Int) := match os, rs with
  | [.row .e3 o0], [(false, [.int .i64 z0])] => some (o0, z0)
  | _, _ => none
abbrev A59_0 : Type := List (C .e3) × Int × Int
def s59_0 : A59_0 → St C := fun (x0_0, x0_1, x0_2) => { env := [(0, .one (.ref 100000 [])), (1, .one (.int .i64 x0_1)), (5, .one (.int .i64 x0_2)), (90000, .frame), (90001, .hdr 100000 0)], objs := [(100000, .row .e3 x0_0 false)], base := 0 }
noncomputable def r59_0 (n : Nat)  (rec0 : A59_0 → Option (List (C .e3) × Int)) : A59_0 → Option (List (C .e3) × Int) := fun (x0_0, x0_1, x0_2) =>
      cond (decide (x0_2 < (x0_0.length : Int)))
      (cond (decide (0 ≤ x0_2)) (cond (decide (x0_2 < (x0_0.length : Int))) (Option.bind x0_0[x0_2.toNat]? fun x1 => rec0 (x0_0.set x0_2.toNat x0_1, IntKind.i64.wrap (x0_1 + 1), IntKind.i64.wrap (x0_2 + 1))) none) none)
      (some (x0_0, x0_1))
noncomputable def LP59_0 (n : Nat)  (x : A59_0) : Option (List (C .e3) × Int) := lpN (r59_0 n ) n x
noncomputable def MP59_0 (kp : Nat → Prop) (kh : Nat → Option Obj) (hd : Nat → Value) (n : Nat)  (x : A59_0) : Option (List (C .e3) × Int) := iter (fun rec S => run (X59.gh kp kh hd) (F59 n) (codeAt (bodyOf Go.Proofs.Try.f59) [1, 0, 1, 0, 0]) 0 S (lopK rec (blkK 0 (seqK (run (X59.gh kp kh hd) (F59 n) (codeAt (bodyOf Go.Proofs.Try.f59) [1, 1]) 0) (kTopW (X59.gh kp kh hd) Go.Proofs.Try.f59 [true, false] dec59))))) [0, 1, 5, 90000, 90001] n (s59_0 x)
theorem m59_0 (kp : Nat → Prop) (kh : Nat → Option Obj) (hd : Nat → Value) (n : Nat)  (x : A59_0) : MP59_0 kp kh hd n  x = LP59_0 n  x := by
  refine iter_eq s59_0 (r59_0 n ) (fun rec0 x => ?_) n x
  obtain ⟨x0_0, x0_1, x0_2⟩ := x
  kernel_rfl
noncomputable def G59n (n : Nat) (a0 : List (C .e3)) (a1 : Int) : Option (List (C .e3) × Int) :=
      LP59_0 n  (a0, a1, 0)
theorem t59 (kp : Nat → Prop) (kh : Nat → Option Obj) (hd : Nat → Value) (n : Nat) (a0 : List (C .e3)) (a1 : Int) : runFnW (X59.gh kp kh hd) (F59 n) Go.Proofs.Try.f59 [(false, [.row .e3 a0]), (false, [.int .i64 a1])] dec59 = G59n n a0 a1 := by
  have h : runFnW (X59.gh kp kh hd) (F59 n) Go.Proofs.Try.f59 [(false, [.row .e3 a0]), (false, [.int .i64 a1])] dec59 =
      MP59_0 kp kh hd n  (a0, a1, 0) := by kernel_rfl
  simp only [h, G59n, m59_0]
noncomputable def G59 (a0 : List (C .e3)) (a1 : Int) : Option (List (C .e3) × Int) := G59n fuel a0 a1
noncomputable def con59 : ConW C := { R0 := List (C .e3) × Int, out := fun r => [.row .e3 r.1], ret := fun r => [(false, [.int .i64 r.2])], g := fun rs => match rs with
  | [(false, [.row .e3 y0]), (false, [.int .i64 y1])] => G59 y0 y1
  | _ => none }
theorem x59 : XOk Go.Proofs.Try.prog X59 := ⟨tks_ok, els_ok⟩
theorem q59 : Cons Go.Proofs.Try.prog X59 := ⟨lkR_ok (l := []) trivial, lkW_ok (l := []) trivial⟩
theorem c59 : ConWOk Go.Proofs.Try.prog KK 59 con59 := by
  refine conw_of x59 q59 (by kernel_rfl) (f := 59) (fn := Go.Proofs.Try.f59) (c := bodyOf Go.Proofs.Try.f59) (by kernel_rfl) (by kernel_rfl) (by kernel_rfl) (nameB (by kernel_rfl)) con59 dec59 (fun os rs r0 h => ?_) (fun rs r0 h => ?_)
  · unfold dec59 at h
    split at h
    · cases h; exact ⟨rfl, rfl⟩
    · cases h
  · simp only [con59] at h
    split at h
    · rename_i y0 y1
      exact ⟨Nat.le_of_ble_eq_true (by kernel_rfl), F59 fuel, fun kp kh hd => (t59 kp kh hd fuel y0 y1).trans h⟩
    · cases h
/-! ### f29 loop.example/wharfdesk/laws.markGateGrantS -/
noncomputable def X29 : Cx C := { K := KK, tk := lk tks, con := lkC [(58, con58)], conw := lkC [(59, con59)] }
def F29 (n : Nat) : Cf := { N := n, keep := [0, 1, 4, 5, 9, 90000, 90001], live := lk [(0, [0, 1, 5, 90000, 90001])] }
def dec29 (os : List (Lf C)) (rs : List (Bool × List (Lf C))) : Option (List (C .e74) × Int) := match os, rs with
  | [.row .e74 o0], [(false, [.int .i64 z0])] => some (o0, z0)
  | _, _ => none
abbrev A29_0 : Type := List (C .e74) × Int × Int
def s29_0 : A29_0 → St C := fun (x0_0, x0_1, x0_2) => { env := [(0, .one (.ref 100000 [])), (1, .one (.int .i64 x0_1)), (5, .one (.int .i64 x0_2)), (90000, .frame), (90001, .hdr 100000 0)], objs := [(100000, .row .e74 x0_0 false)], base := 0 }
noncomputable def r29_0 (n : Nat)  (rec0 : A29_0 → Option (List (C .e74) × Int)) : A29_0 → Option (List (C .e74) × Int) := fun (x0_0, x0_1, x0_2) =>
      cond (decide (x0_2 < (x0_0.length : Int)))
      (cond (decide (0 ≤ x0_2)) (cond (decide (x0_2 < (x0_0.length : Int))) (Option.bind x0_0[x0_2.toNat]? fun x1 => Option.bind (G58 (IntKind.i64.wrap (x0_1 + 1))) fun r2 =>
      cond (decide (0 ≤ x0_2)) (cond (decide (x0_2 < ((x0_0.set x0_2.toNat (⟨x0_1, x1.To, x1.By, x1.Rule_Verbs, x1.Rule_Kind, x1.Rule_Team, x1.Rule_Prefix⟩ : VGateGrant)).length : Int))) (Option.bind (x0_0.set x0_2.toNat (⟨x0_1, x1.To, x1.By, x1.Rule_Verbs, x1.Rule_Kind, x1.Rule_Team, x1.Rule_Prefix⟩ : VGateGrant))[x0_2.toNat]? fun x3 => Option.bind (G58 (IntKind.i64.wrap ((IntKind.i64.wrap (x0_1 + 1)) + 1))) fun r4 =>
      cond (decide (0 ≤ x0_2)) (cond (decide (x0_2 < (((x0_0.set x0_2.toNat (⟨x0_1, x1.To, x1.By, x1.Rule_Verbs, x1.Rule_Kind, x1.Rule_Team, x1.Rule_Prefix⟩ : VGateGrant)).set x0_2.toNat (⟨x3.Number, r2, x3.By, x3.Rule_Verbs, x3.Rule_Kind, x3.Rule_Team, x3.Rule_Prefix⟩ : VGateGrant)).length : Int))) (Option.bind ((x0_0.set x0_2.toNat (⟨x0_1, x1.To, x1.By, x1.Rule_Verbs, x1.Rule_Kind, x1.Rule_Team, x1.Rule_Prefix⟩ : VGateGrant)).set x0_2.toNat (⟨x3.Number, r2, x3.By, x3.Rule_Verbs, x3.Rule_Kind, x3.Rule_Team, x3.Rule_Prefix⟩ : VGateGrant))[x0_2.toNat]? fun x5 => cond (decide (0 ≤ x0_2)) (cond (decide (x0_2 < ((((x0_0.set x0_2.toNat (⟨x0_1, x1.To, x1.By, x1.Rule_Verbs, x1.Rule_Kind, x1.Rule_Team, x1.Rule_Prefix⟩ : VGateGrant)).set x0_2.toNat (⟨x3.Number, r2, x3.By, x3.Rule_Verbs, x3.Rule_Kind, x3.Rule_Team, x3.Rule_Prefix⟩ : VGateGrant)).set x0_2.toNat (⟨x5.Number, x5.To, r4, x5.Rule_Verbs, x5.Rule_Kind, x5.Rule_Team, x5.Rule_Prefix⟩ : VGateGrant)).length : Int))) (Option.bind (((x0_0.set x0_2.toNat (⟨x0_1, x1.To, x1.By, x1.Rule_Verbs, x1.Rule_Kind, x1.Rule_Team, x1.Rule_Prefix⟩ : VGateGrant)).set x0_2.toNat (⟨x3.Number, r2, x3.By, x3.Rule_Verbs, x3.Rule_Kind, x3.Rule_Team, x3.Rule_Prefix⟩ : VGateGrant)).set x0_2.toNat (⟨x5.Number, x5.To, r4, x5.Rule_Verbs, x5.Rule_Kind, x5.Rule_Team, x5.Rule_Prefix⟩ : VGateGrant))[x0_2.toNat]? fun x6 => Option.bind (((x0_0.set x0_2.toNat (⟨x0_1, x1.To, x1.By, x1.Rule_Verbs, x1.Rule_Kind, x1.Rule_Team, x1.Rule_Prefix⟩ : VGateGrant)).set x0_2.toNat (⟨x3.Number, r2, x3.By, x3.Rule_Verbs, x3.Rule_Kind, x3.Rule_Team, x3.Rule_Prefix⟩ : VGateGrant)).set x0_2.toNat (⟨x5.Number, x5.To, r4, x5.Rule_Verbs, x5.Rule_Kind, x5.Rule_Team, x5.Rule_Prefix⟩ : VGateGrant))[x0_2.toNat]? fun x7 => Option.bind (G59 x7.Rule_Verbs (IntKind.i64.wrap ((IntKind.i64.wrap ((IntKind.i64.wrap (x0_1 + 1)) + 1)) + 1))) fun r8 =>
      Option.bind (((x0_0.set x0_2.toNat (⟨x0_1, x1.To, x1.By, x1.Rule_Verbs, x1.Rule_Kind, x1.Rule_Team, x1.Rule_Prefix⟩ : VGateGrant)).set x0_2.toNat (⟨x3.Number, r2, x3.By, x3.Rule_Verbs, x3.Rule_Kind, x3.Rule_Team, x3.Rule_Prefix⟩ : VGateGrant)).set x0_2.toNat (⟨x5.Number, x5.To, r4, x5.Rule_Verbs, x5.Rule_Kind, x5.Rule_Team, x5.Rule_Prefix⟩ : VGateGrant))[x0_2.toNat]? fun x9 => Option.bind (G58 r8.2) fun r10 =>
      cond (decide (0 ≤ x0_2)) (cond (decide (x0_2 < (((((x0_0.set x0_2.toNat (⟨x0_1, x1.To, x1.By, x1.Rule_Verbs, x1.Rule_Kind, x1.Rule_Team, x1.Rule_Prefix⟩ : VGateGrant)).set x0_2.toNat (⟨x3.Number, r2, x3.By, x3.Rule_Verbs, x3.Rule_Kind, x3.Rule_Team, x3.Rule_Prefix⟩ : VGateGrant)).set x0_2.toNat (⟨x5.Number, x5.To, r4, x5.Rule_Verbs, x5.Rule_Kind, x5.Rule_Team, x5.Rule_Prefix⟩ : VGateGrant)).set x0_2.toNat (⟨x9.Number, x9.To, x9.By, r8.1, x9.Rule_Kind, x9.Rule_Team, x9.Rule_Prefix⟩ : VGateGrant)).length : Int))) (Option.bind ((((x0_0.set x0_2.toNat (⟨x0_1, x1.To, x1.By, x1.Rule_Verbs, x1.Rule_Kind, x1.Rule_Team, x1.Rule_Prefix⟩ : VGateGrant)).set x0_2.toNat (⟨x3.Number, r2, x3.By, x3.Rule_Verbs, x3.Rule_Kind, x3.Rule_Team, x3.Rule_Prefix⟩ : VGateGrant)).set x0_2.toNat (⟨x5.Number, x5.To, r4, x5.Rule_Verbs, x5.Rule_Kind, x5.Rule_Team, x5.Rule_Prefix⟩ : VGateGrant)).set x0_2.toNat (⟨x9.Number, x9.To, x9.By, r8.1, x9.Rule_Kind, x9.Rule_Team, x9.Rule_Prefix⟩ : VGateGrant))[x0_2.toNat]? fun x11 => Option.bind (G58 (IntKind.i64.wrap (r8.2 + 1))) fun r12 =>
      cond (decide (0 ≤ x0_2)) (cond (decide (x0_2 < ((((((x0_0.set x0_2.toNat (⟨x0_1, x1.To, x1.By, x1.Rule_Verbs, x1.Rule_Kind, x1.Rule_Team, x1.Rule_Prefix⟩ : VGateGrant)).set x0_2.toNat (⟨x3.Number, r2, x3.By, x3.Rule_Verbs, x3.Rule_Kind, x3.Rule_Team, x3.Rule_Prefix⟩ : VGateGrant)).set x0_2.toNat (⟨x5.Number, x5.To, r4, x5.Rule_Verbs, x5.Rule_Kind, x5.Rule_Team, x5.Rule_Prefix⟩ : VGateGrant)).set x0_2.toNat (⟨x9.Number, x9.To, x9.By, r8.1, x9.Rule_Kind, x9.Rule_Team, x9.Rule_Prefix⟩ : VGateGrant)).set x0_2.toNat (⟨x11.Number, x11.To, x11.By, x11.Rule_Verbs, r10, x11.Rule_Team, x11.Rule_Prefix⟩ : VGateGrant)).length : Int))) (Option.bind (((((x0_0.set x0_2.toNat (⟨x0_1, x1.To, x1.By, x1.Rule_Verbs, x1.Rule_Kind, x1.Rule_Team, x1.Rule_Prefix⟩ : VGateGrant)).set x0_2.toNat (⟨x3.Number, r2, x3.By, x3.Rule_Verbs, x3.Rule_Kind, x3.Rule_Team, x3.Rule_Prefix⟩ : VGateGrant)).set x0_2.toNat (⟨x5.Number, x5.To, r4, x5.Rule_Verbs, x5.Rule_Kind, x5.Rule_Team, x5.Rule_Prefix⟩ : VGateGrant)).set x0_2.toNat (⟨x9.Number, x9.To, x9.By, r8.1, x9.Rule_Kind, x9.Rule_Team, x9.Rule_Prefix⟩ : VGateGrant)).set x0_2.toNat (⟨x11.Number, x11.To, x11.By, x11.Rule_Verbs, r10, x11.Rule_Team, x11.Rule_Prefix⟩ : VGateGrant))[x0_2.toNat]? fun x13 => Option.bind (G58 (IntKind.i64.wrap ((IntKind.i64.wrap (r8.2 + 1)) + 1))) fun r14 =>
      cond (decide (0 ≤ x0_2)) (cond (decide (x0_2 < (((((((x0_0.set x0_2.toNat (⟨x0_1, x1.To, x1.By, x1.Rule_Verbs, x1.Rule_Kind, x1.Rule_Team, x1.Rule_Prefix⟩ : VGateGrant)).set x0_2.toNat (⟨x3.Number, r2, x3.By, x3.Rule_Verbs, x3.Rule_Kind, x3.Rule_Team, x3.Rule_Prefix⟩ : VGateGrant)).set x0_2.toNat (⟨x5.Number, x5.To, r4, x5.Rule_Verbs, x5.Rule_Kind, x5.Rule_Team, x5.Rule_Prefix⟩ : VGateGrant)).set x0_2.toNat (⟨x9.Number, x9.To, x9.By, r8.1, x9.Rule_Kind, x9.Rule_Team, x9.Rule_Prefix⟩ : VGateGrant)).set x0_2.toNat (⟨x11.Number, x11.To, x11.By, x11.Rule_Verbs, r10, x11.Rule_Team, x11.Rule_Prefix⟩ : VGateGrant)).set x0_2.toNat (⟨x13.Number, x13.To, x13.By, x13.Rule_Verbs, x13.Rule_Kind, r12, x13.Rule_Prefix⟩ : VGateGrant)).length : Int))) (Option.bind ((((((x0_0.set x0_2.toNat (⟨x0_1, x1.To, x1.By, x1.Rule_Verbs, x1.Rule_Kind, x1.Rule_Team, x1.Rule_Prefix⟩ : VGateGrant)).set x0_2.toNat (⟨x3.Number, r2, x3.By, x3.Rule_Verbs, x3.Rule_Kind, x3.Rule_Team, x3.Rule_Prefix⟩ : VGateGrant)).set x0_2.toNat (⟨x5.Number, x5.To, r4, x5.Rule_Verbs, x5.Rule_Kind, x5.Rule_Team, x5.Rule_Prefix⟩ : VGateGrant)).set x0_2.toNat (⟨x9.Number, x9.To, x9.By, r8.1, x9.Rule_Kind, x9.Rule_Team, x9.Rule_Prefix⟩ : VGateGrant)).set x0_2.toNat (⟨x11.Number, x11.To, x11.By, x11.Rule_Verbs, r10, x11.Rule_Team, x11.Rule_Prefix⟩ : VGateGrant)).set x0_2.toNat (⟨x13.Number, x13.To, x13.By, x13.Rule_Verbs, x13.Rule_Kind, r12, x13.Rule_Prefix⟩ : VGateGrant))[x0_2.toNat]? fun x15 => rec0 (((((((x0_0.set x0_2.toNat (⟨x0_1, x1.To, x1.By, x1.Rule_Verbs, x1.Rule_Kind, x1.Rule_Team, x1.Rule_Prefix⟩ : VGateGrant)).set x0_2.toNat (⟨x3.Number, r2, x3.By, x3.Rule_Verbs, x3.Rule_Kind, x3.Rule_Team, x3.Rule_Prefix⟩ : VGateGrant)).set x0_2.toNat (⟨x5.Number, x5.To, r4, x5.Rule_Verbs, x5.Rule_Kind, x5.Rule_Team, x5.Rule_Prefix⟩ : VGateGrant)).set x0_2.toNat (⟨x9.Number, x9.To, x9.By, r8.1, x9.Rule_Kind, x9.Rule_Team, x9.Rule_Prefix⟩ : VGateGrant)).set x0_2.toNat (⟨x11.Number, x11.To, x11.By, x11.Rule_Verbs, r10, x11.Rule_Team, x11.Rule_Prefix⟩ : VGateGrant)).set x0_2.toNat (⟨x13.Number, x13.To, x13.By, x13.Rule_Verbs, x13.Rule_Kind, r12, x13.Rule_Prefix⟩ : VGateGrant)).set x0_2.toNat (⟨x15.Number, x15.To, x15.By, x15.Rule_Verbs, x15.Rule_Kind, x15.Rule_Team, r14⟩ : VGateGrant), IntKind.i64.wrap ((IntKind.i64.wrap ((IntKind.i64.wrap (r8.2 + 1)) + 1)) + 1), IntKind.i64.wrap (x0_2 + 1))) none) none) none) none) none) none) none) none) none) none) none) none) none) none)
      (some (x0_0, x0_1))
noncomputable def LP29_0 (n : Nat)  (x : A29_0) : Option (List (C .e74) × Int) := lpN (r29_0 n ) n x
noncomputable def MP29_0 (kp : Nat → Prop) (kh : Nat → Option Obj) (hd : Nat → Value) (n : Nat)  (x : A29_0) : Option (List (C .e74) × Int) := iter (fun rec S => run (X29.gh kp kh hd) (F29 n) (codeAt (bodyOf Go.Proofs.Try.f29) [1, 0, 1, 0, 0]) 0 S (lopK rec (blkK 0 (seqK (run (X29.gh kp kh hd) (F29 n) (codeAt (bodyOf Go.Proofs.Try.f29) [1, 1]) 0) (kTopW (X29.gh kp kh hd) Go.Proofs.Try.f29 [true, false] dec29))))) [0, 1, 5, 90000, 90001] n (s29_0 x)
theorem m29_0 (kp : Nat → Prop) (kh : Nat → Option Obj) (hd : Nat → Value) (n : Nat)  (x : A29_0) : MP29_0 kp kh hd n  x = LP29_0 n  x := by
  refine iter_eq s29_0 (r29_0 n ) (fun rec0 x => ?_) n x
  obtain ⟨x0_0, x0_1, x0_2⟩ := x
  kernel_rfl
noncomputable def G29n (n : Nat) (a0 : List (C .e74)) (a1 : Int) : Option (List (C .e74) × Int) :=
      LP29_0 n  (a0, a1, 0)
theorem t29 (kp : Nat → Prop) (kh : Nat → Option Obj) (hd : Nat → Value) (n : Nat) (a0 : List (C .e74)) (a1 : Int) : runFnW (X29.gh kp kh hd) (F29 n) Go.Proofs.Try.f29 [(false, [.row .e74 a0]), (false, [.int .i64 a1])] dec29 = G29n n a0 a1 := by
  have h : runFnW (X29.gh kp kh hd) (F29 n) Go.Proofs.Try.f29 [(false, [.row .e74 a0]), (false, [.int .i64 a1])] dec29 =
      MP29_0 kp kh hd n  (a0, a1, 0) := by kernel_rfl
  simp only [h, G29n, m29_0]
noncomputable def G29 (a0 : List (C .e74)) (a1 : Int) : Option (List (C .e74) × Int) := G29n fuel a0 a1
noncomputable def con29 : ConW C := { R0 := List (C .e74) × Int, out := fun r => [.row .e74 r.1], ret := fun r => [(false, [.int .i64 r.2])], g := fun rs => match rs with
  | [(false, [.row .e74 y0]), (false, [.int .i64 y1])] => G29 y0 y1
  | _ => none }
theorem x29 : XOk Go.Proofs.Try.prog X29 := ⟨tks_ok, els_ok⟩
theorem q29 : Cons Go.Proofs.Try.prog X29 := ⟨lkR_ok (l := [(58, con58)]) ⟨c58, trivial⟩, lkW_ok (l := [(59, con59)]) ⟨c59, trivial⟩⟩
theorem c29 : ConWOk Go.Proofs.Try.prog KK 29 con29 := by
  refine conw_of x29 q29 (by kernel_rfl) (f := 29) (fn := Go.Proofs.Try.f29) (c := bodyOf Go.Proofs.Try.f29) (by kernel_rfl) (by kernel_rfl) (by kernel_rfl) (nameB (by kernel_rfl)) con29 dec29 (fun os rs r0 h => ?_) (fun rs r0 h => ?_)
  · unfold dec29 at h
    split at h
    · cases h; exact ⟨rfl, rfl⟩
    · cases h
  · simp only [con29] at h
    split at h
    · rename_i y0 y1
      exact ⟨Nat.le_of_ble_eq_true (by kernel_rfl), F29 fuel, fun kp kh hd => (t29 kp kh hd fuel y0 y1).trans h⟩
    · cases h
/-! ### f10 loop.example/wharfdesk/laws.markHallHouse -/
noncomputable def X10 : Cx C := { K := KK, tk := lk tks, con := lkC [], conw := lkC [(28, con28), (29, con29)] }
def F10 (n : Nat) : Cf := { N := n, keep := [0, 1, 2, 4, 90000, 90001, 90002], live := lk [] }
def dec10 (os : List (Lf C)) (rs : List (Bool × List (Lf C))) : Option (List (C .e86) × List (C .e74) × Int) := match os, rs with
  | [.row .e86 o0, .row .e74 o1], [(false, [.int .i64 z0])] => some (o0, o1, z0)
  | _, _ => none
noncomputable def G10n (n : Nat) (a0 : VHallHouse) (a1 : Int) : Option (List (C .e86) × List (C .e74) × Int) :=
      Option.bind (G28 a0.Teams a1) fun r1 =>
      Option.bind (G29 a0.Grants r1.2) fun r2 =>
      some (r1.1, r2.1, r2.2)
theorem t10 (kp : Nat → Prop) (kh : Nat → Option Obj) (hd : Nat → Value) (n : Nat) (a0 : VHallHouse) (a1 : Int) : runFnW (X10.gh kp kh hd) (F10 n) Go.Proofs.Try.f10 [(true, [.row .e86 a0.Teams, .row .e74 a0.Grants]), (false, [.int .i64 a1])] dec10 = G10n n a0 a1 := by
  kernel_rfl
noncomputable def G10 (a0 : VHallHouse) (a1 : Int) : Option (List (C .e86) × List (C .e74) × Int) := G10n fuel a0 a1
noncomputable def con10 : ConW C := { R0 := List (C .e86) × List (C .e74) × Int, out := fun r => [.row .e86 r.1, .row .e74 r.2.1], ret := fun r => [(false, [.int .i64 r.2.2])], g := fun rs => match rs with
  | [(true, [.row .e86 y0_0, .row .e74 y0_1]), (false, [.int .i64 y1])] => G10 ⟨y0_0, y0_1⟩ y1
  | _ => none }
theorem x10 : XOk Go.Proofs.Try.prog X10 := ⟨tks_ok, els_ok⟩
theorem q10 : Cons Go.Proofs.Try.prog X10 := ⟨lkR_ok (l := []) trivial, lkW_ok (l := [(28, con28), (29, con29)]) ⟨c28, c29, trivial⟩⟩
theorem c10 : ConWOk Go.Proofs.Try.prog KK 10 con10 := by
  refine conw_of x10 q10 (by kernel_rfl) (f := 10) (fn := Go.Proofs.Try.f10) (c := bodyOf Go.Proofs.Try.f10) (by kernel_rfl) (by kernel_rfl) (by kernel_rfl) (nameB (by kernel_rfl)) con10 dec10 (fun os rs r0 h => ?_) (fun rs r0 h => ?_)
  · unfold dec10 at h
    split at h
    · cases h; exact ⟨rfl, rfl⟩
    · cases h
  · simp only [con10] at h
    split at h
    · rename_i y0_0 y0_1 y1
      exact ⟨Nat.le_of_ble_eq_true (by kernel_rfl), F10 fuel, fun kp kh hd => (t10 kp kh hd fuel ⟨y0_0, y0_1⟩ y1).trans h⟩
    · cases h
/-! ### f83 loop.example/wharfdesk/laws.markRecSlotS -/
noncomputable def X83 : Cx C := { K := KK, tk := lk tks, con := lkC [(58, con58)], conw := lkC [] }
def F83 (n : Nat) : Cf := { N := n, keep := [0, 1, 4, 5, 9, 90000, 90001], live := lk [(0, [0, 1, 5, 90000, 90001])] }
def dec83 (os : List (Lf C)) (rs : List (Bool × List (Lf C))) : Option (List (C .e132) × Int) := match os, rs with
  | [.row .e132 o0], [(false, [.int .i64 z0])] => some (o0, z0)
  | _, _ => none
abbrev A83_0 : Type := List (C .e132) × Int × Int
def s83_0 : A83_0 → St C := fun (x0_0, x0_1, x0_2) => { env := [(0, .one (.ref 100000 [])), (1, .one (.int .i64 x0_1)), (5, .one (.int .i64 x0_2)), (90000, .frame), (90001, .hdr 100000 0)], objs := [(100000, .row .e132 x0_0 false)], base := 0 }
noncomputable def r83_0 (n : Nat)  (rec0 : A83_0 → Option (List (C .e132) × Int)) : A83_0 → Option (List (C .e132) × Int) := fun (x0_0, x0_1, x0_2) =>
      cond (decide (x0_2 < (x0_0.length : Int)))
      (cond (decide (0 ≤ x0_2)) (cond (decide (x0_2 < (x0_0.length : Int))) (Option.bind x0_0[x0_2.toNat]? fun x1 => Option.bind (G58 (IntKind.i64.wrap (x0_1 + 1))) fun r2 =>
      cond (decide (0 ≤ x0_2)) (cond (decide (x0_2 < ((x0_0.set x0_2.toNat (⟨x0_1, x1.Text⟩ : VRecSlot)).length : Int))) (Option.bind (x0_0.set x0_2.toNat (⟨x0_1, x1.Text⟩ : VRecSlot))[x0_2.toNat]? fun x3 => rec0 ((x0_0.set x0_2.toNat (⟨x0_1, x1.Text⟩ : VRecSlot)).set x0_2.toNat (⟨x3.Ballot, r2⟩ : VRecSlot), IntKind.i64.wrap ((IntKind.i64.wrap (x0_1 + 1)) + 1), IntKind.i64.wrap (x0_2 + 1))) none) none) none) none)
      (some (x0_0, x0_1))
noncomputable def LP83_0 (n : Nat)  (x : A83_0) : Option (List (C .e132) × Int) := lpN (r83_0 n ) n x
noncomputable def MP83_0 (kp : Nat → Prop) (kh : Nat → Option Obj) (hd : Nat → Value) (n : Nat)  (x : A83_0) : Option (List (C .e132) × Int) := iter (fun rec S => run (X83.gh kp kh hd) (F83 n) (codeAt (bodyOf Go.Proofs.Try.f83) [1, 0, 1, 0, 0]) 0 S (lopK rec (blkK 0 (seqK (run (X83.gh kp kh hd) (F83 n) (codeAt (bodyOf Go.Proofs.Try.f83) [1, 1]) 0) (kTopW (X83.gh kp kh hd) Go.Proofs.Try.f83 [true, false] dec83))))) [0, 1, 5, 90000, 90001] n (s83_0 x)
theorem m83_0 (kp : Nat → Prop) (kh : Nat → Option Obj) (hd : Nat → Value) (n : Nat)  (x : A83_0) : MP83_0 kp kh hd n  x = LP83_0 n  x := by
  refine iter_eq s83_0 (r83_0 n ) (fun rec0 x => ?_) n x
  obtain ⟨x0_0, x0_1, x0_2⟩ := x
  kernel_rfl
noncomputable def G83n (n : Nat) (a0 : List (C .e132)) (a1 : Int) : Option (List (C .e132) × Int) :=
      LP83_0 n  (a0, a1, 0)
theorem t83 (kp : Nat → Prop) (kh : Nat → Option Obj) (hd : Nat → Value) (n : Nat) (a0 : List (C .e132)) (a1 : Int) : runFnW (X83.gh kp kh hd) (F83 n) Go.Proofs.Try.f83 [(false, [.row .e132 a0]), (false, [.int .i64 a1])] dec83 = G83n n a0 a1 := by
  have h : runFnW (X83.gh kp kh hd) (F83 n) Go.Proofs.Try.f83 [(false, [.row .e132 a0]), (false, [.int .i64 a1])] dec83 =
      MP83_0 kp kh hd n  (a0, a1, 0) := by kernel_rfl
  simp only [h, G83n, m83_0]
noncomputable def G83 (a0 : List (C .e132)) (a1 : Int) : Option (List (C .e132) × Int) := G83n fuel a0 a1
noncomputable def con83 : ConW C := { R0 := List (C .e132) × Int, out := fun r => [.row .e132 r.1], ret := fun r => [(false, [.int .i64 r.2])], g := fun rs => match rs with
  | [(false, [.row .e132 y0]), (false, [.int .i64 y1])] => G83 y0 y1
  | _ => none }
theorem x83 : XOk Go.Proofs.Try.prog X83 := ⟨tks_ok, els_ok⟩
theorem q83 : Cons Go.Proofs.Try.prog X83 := ⟨lkR_ok (l := [(58, con58)]) ⟨c58, trivial⟩, lkW_ok (l := []) trivial⟩
theorem c83 : ConWOk Go.Proofs.Try.prog KK 83 con83 := by
  refine conw_of x83 q83 (by kernel_rfl) (f := 83) (fn := Go.Proofs.Try.f83) (c := bodyOf Go.Proofs.Try.f83) (by kernel_rfl) (by kernel_rfl) (by kernel_rfl) (nameB (by kernel_rfl)) con83 dec83 (fun os rs r0 h => ?_) (fun rs r0 h => ?_)
  · unfold dec83 at h
    split at h
    · cases h; exact ⟨rfl, rfl⟩
    · cases h
  · simp only [con83] at h
    split at h
    · rename_i y0 y1
      exact ⟨Nat.le_of_ble_eq_true (by kernel_rfl), F83 fuel, fun kp kh hd => (t83 kp kh hd fuel y0 y1).trans h⟩
    · cases h
/-! ### f61 loop.example/wharfdesk/laws.markRecMessageS -/
noncomputable def X61 : Cx C := { K := KK, tk := lk tks, con := lkC [(58, con58)], conw := lkC [(83, con83)] }
def F61 (n : Nat) : Cf := { N := n, keep := [0, 1, 4, 5, 9, 90000, 90001], live := lk [(0, [0, 1, 5, 90000, 90001])] }
def dec61 (os : List (Lf C)) (rs : List (Bool × List (Lf C))) : Option (List (C .e116) × Int) := match os, rs with
  | [.row .e116 o0], [(false, [.int .i64 z0])] => some (o0, z0)
  | _, _ => none
abbrev A61_0 : Type := List (C .e116) × Int × Int
def s61_0 : A61_0 → St C := fun (x0_0, x0_1, x0_2) => { env := [(0, .one (.ref 100000 [])), (1, .one (.int .i64 x0_1)), (5, .one (.int .i64 x0_2)), (90000, .frame), (90001, .hdr 100000 0)], objs := [(100000, .row .e116 x0_0 false)], base := 0 }
noncomputable def r61_0 (n : Nat)  (rec0 : A61_0 → Option (List (C .e116) × Int)) : A61_0 → Option (List (C .e116) × Int) := fun (x0_0, x0_1, x0_2) =>
      cond (decide (x0_2 < (x0_0.length : Int)))
      (cond (decide (0 ≤ x0_2)) (cond (decide (x0_2 < (x0_0.length : Int))) (Option.bind x0_0[x0_2.toNat]? fun x1 => cond (decide (0 ≤ x0_2)) (cond (decide (x0_2 < ((x0_0.set x0_2.toNat (⟨x0_1, x1.From, x1.To, x1.Ballot, x1.Index, x1.Known, x1.Text, x1.Slots⟩ : VRecMessage)).length : Int))) (Option.bind (x0_0.set x0_2.toNat (⟨x0_1, x1.From, x1.To, x1.Ballot, x1.Index, x1.Known, x1.Text, x1.Slots⟩ : VRecMessage))[x0_2.toNat]? fun x2 => cond (decide (0 ≤ x0_2)) (cond (decide (x0_2 < (((x0_0.set x0_2.toNat (⟨x0_1, x1.From, x1.To, x1.Ballot, x1.Index, x1.Known, x1.Text, x1.Slots⟩ : VRecMessage)).set x0_2.toNat ((⟨x2.Kind, IntKind.i64.wrap (x0_1 + 1), x2.To, x2.Ballot, x2.Index, x2.Known, x2.Text, x2.Slots⟩ : VRecMessage))).length : Int))) (Option.bind ((x0_0.set x0_2.toNat (⟨x0_1, x1.From, x1.To, x1.Ballot, x1.Index, x1.Known, x1.Text, x1.Slots⟩ : VRecMessage)).set x0_2.toNat ((⟨x2.Kind, IntKind.i64.wrap (x0_1 + 1), x2.To, x2.Ballot, x2.Index, x2.Known, x2.Text, x2.Slots⟩ : VRecMessage)))[x0_2.toNat]? fun x3 => cond (decide (0 ≤ x0_2)) (cond (decide (x0_2 < ((((x0_0.set x0_2.toNat (⟨x0_1, x1.From, x1.To, x1.Ballot, x1.Index, x1.Known, x1.Text, x1.Slots⟩ : VRecMessage)).set x0_2.toNat ((⟨x2.Kind, IntKind.i64.wrap (x0_1 + 1), x2.To, x2.Ballot, x2.Index, x2.Known, x2.Text, x2.Slots⟩ : VRecMessage))).set x0_2.toNat ((⟨x3.Kind, x3.From, IntKind.i64.wrap ((IntKind.i64.wrap (x0_1 + 1)) + 1), x3.Ballot, x3.Index, x3.Known, x3.Text, x3.Slots⟩ : VRecMessage))).length : Int))) (Option.bind (((x0_0.set x0_2.toNat (⟨x0_1, x1.From, x1.To, x1.Ballot, x1.Index, x1.Known, x1.Text, x1.Slots⟩ : VRecMessage)).set x0_2.toNat ((⟨x2.Kind, IntKind.i64.wrap (x0_1 + 1), x2.To, x2.Ballot, x2.Index, x2.Known, x2.Text, x2.Slots⟩ : VRecMessage))).set x0_2.toNat ((⟨x3.Kind, x3.From, IntKind.i64.wrap ((IntKind.i64.wrap (x0_1 + 1)) + 1), x3.Ballot, x3.Index, x3.Known, x3.Text, x3.Slots⟩ : VRecMessage)))[x0_2.toNat]? fun x4 => cond (decide (0 ≤ x0_2)) (cond (decide (x0_2 < (((((x0_0.set x0_2.toNat (⟨x0_1, x1.From, x1.To, x1.Ballot, x1.Index, x1.Known, x1.Text, x1.Slots⟩ : VRecMessage)).set x0_2.toNat ((⟨x2.Kind, IntKind.i64.wrap (x0_1 + 1), x2.To, x2.Ballot, x2.Index, x2.Known, x2.Text, x2.Slots⟩ : VRecMessage))).set x0_2.toNat ((⟨x3.Kind, x3.From, IntKind.i64.wrap ((IntKind.i64.wrap (x0_1 + 1)) + 1), x3.Ballot, x3.Index, x3.Known, x3.Text, x3.Slots⟩ : VRecMessage))).set x0_2.toNat ((⟨x4.Kind, x4.From, x4.To, IntKind.i64.wrap ((IntKind.i64.wrap ((IntKind.i64.wrap (x0_1 + 1)) + 1)) + 1), x4.Index, x4.Known, x4.Text, x4.Slots⟩ : VRecMessage))).length : Int))) (Option.bind ((((x0_0.set x0_2.toNat (⟨x0_1, x1.From, x1.To, x1.Ballot, x1.Index, x1.Known, x1.Text, x1.Slots⟩ : VRecMessage)).set x0_2.toNat ((⟨x2.Kind, IntKind.i64.wrap (x0_1 + 1), x2.To, x2.Ballot, x2.Index, x2.Known, x2.Text, x2.Slots⟩ : VRecMessage))).set x0_2.toNat ((⟨x3.Kind, x3.From, IntKind.i64.wrap ((IntKind.i64.wrap (x0_1 + 1)) + 1), x3.Ballot, x3.Index, x3.Known, x3.Text, x3.Slots⟩ : VRecMessage))).set x0_2.toNat ((⟨x4.Kind, x4.From, x4.To, IntKind.i64.wrap ((IntKind.i64.wrap ((IntKind.i64.wrap (x0_1 + 1)) + 1)) + 1), x4.Index, x4.Known, x4.Text, x4.Slots⟩ : VRecMessage)))[x0_2.toNat]? fun x5 => cond (decide (0 ≤ x0_2)) (cond (decide (x0_2 < ((((((x0_0.set x0_2.toNat (⟨x0_1, x1.From, x1.To, x1.Ballot, x1.Index, x1.Known, x1.Text, x1.Slots⟩ : VRecMessage)).set x0_2.toNat ((⟨x2.Kind, IntKind.i64.wrap (x0_1 + 1), x2.To, x2.Ballot, x2.Index, x2.Known, x2.Text, x2.Slots⟩ : VRecMessage))).set x0_2.toNat ((⟨x3.Kind, x3.From, IntKind.i64.wrap ((IntKind.i64.wrap (x0_1 + 1)) + 1), x3.Ballot, x3.Index, x3.Known, x3.Text, x3.Slots⟩ : VRecMessage))).set x0_2.toNat ((⟨x4.Kind, x4.From, x4.To, IntKind.i64.wrap ((IntKind.i64.wrap ((IntKind.i64.wrap (x0_1 + 1)) + 1)) + 1), x4.Index, x4.Known, x4.Text, x4.Slots⟩ : VRecMessage))).set x0_2.toNat ((⟨x5.Kind, x5.From, x5.To, x5.Ballot, IntKind.i64.wrap ((IntKind.i64.wrap ((IntKind.i64.wrap ((IntKind.i64.wrap (x0_1 + 1)) + 1)) + 1)) + 1), x5.Known, x5.Text, x5.Slots⟩ : VRecMessage))).length : Int))) (Option.bind (((((x0_0.set x0_2.toNat (⟨x0_1, x1.From, x1.To, x1.Ballot, x1.Index, x1.Known, x1.Text, x1.Slots⟩ : VRecMessage)).set x0_2.toNat ((⟨x2.Kind, IntKind.i64.wrap (x0_1 + 1), x2.To, x2.Ballot, x2.Index, x2.Known, x2.Text, x2.Slots⟩ : VRecMessage))).set x0_2.toNat ((⟨x3.Kind, x3.From, IntKind.i64.wrap ((IntKind.i64.wrap (x0_1 + 1)) + 1), x3.Ballot, x3.Index, x3.Known, x3.Text, x3.Slots⟩ : VRecMessage))).set x0_2.toNat ((⟨x4.Kind, x4.From, x4.To, IntKind.i64.wrap ((IntKind.i64.wrap ((IntKind.i64.wrap (x0_1 + 1)) + 1)) + 1), x4.Index, x4.Known, x4.Text, x4.Slots⟩ : VRecMessage))).set x0_2.toNat ((⟨x5.Kind, x5.From, x5.To, x5.Ballot, IntKind.i64.wrap ((IntKind.i64.wrap ((IntKind.i64.wrap ((IntKind.i64.wrap (x0_1 + 1)) + 1)) + 1)) + 1), x5.Known, x5.Text, x5.Slots⟩ : VRecMessage)))[x0_2.toNat]? fun x6 => Option.bind (G58 (IntKind.i64.wrap ((IntKind.i64.wrap ((IntKind.i64.wrap ((IntKind.i64.wrap ((IntKind.i64.wrap ((IntKind.i64.wrap (x0_1 + 1)) + 1)) + 1)) + 1)) + 1)) + 1))) fun r7 =>
      cond (decide (0 ≤ x0_2)) (cond (decide (x0_2 < (((((((x0_0.set x0_2.toNat (⟨x0_1, x1.From, x1.To, x1.Ballot, x1.Index, x1.Known, x1.Text, x1.Slots⟩ : VRecMessage)).set x0_2.toNat ((⟨x2.Kind, IntKind.i64.wrap (x0_1 + 1), x2.To, x2.Ballot, x2.Index, x2.Known, x2.Text, x2.Slots⟩ : VRecMessage))).set x0_2.toNat ((⟨x3.Kind, x3.From, IntKind.i64.wrap ((IntKind.i64.wrap (x0_1 + 1)) + 1), x3.Ballot, x3.Index, x3.Known, x3.Text, x3.Slots⟩ : VRecMessage))).set x0_2.toNat ((⟨x4.Kind, x4.From, x4.To, IntKind.i64.wrap ((IntKind.i64.wrap ((IntKind.i64.wrap (x0_1 + 1)) + 1)) + 1), x4.Index, x4.Known, x4.Text, x4.Slots⟩ : VRecMessage))).set x0_2.toNat ((⟨x5.Kind, x5.From, x5.To, x5.Ballot, IntKind.i64.wrap ((IntKind.i64.wrap ((IntKind.i64.wrap ((IntKind.i64.wrap (x0_1 + 1)) + 1)) + 1)) + 1), x5.Known, x5.Text, x5.Slots⟩ : VRecMessage))).set x0_2.toNat ((⟨x6.Kind, x6.From, x6.To, x6.Ballot, x6.Index, IntKind.i64.wrap ((IntKind.i64.wrap ((IntKind.i64.wrap ((IntKind.i64.wrap ((IntKind.i64.wrap (x0_1 + 1)) + 1)) + 1)) + 1)) + 1), x6.Text, x6.Slots⟩ : VRecMessage))).length : Int))) (Option.bind ((((((x0_0.set x0_2.toNat (⟨x0_1, x1.From, x1.To, x1.Ballot, x1.Index, x1.Known, x1.Text, x1.Slots⟩ : VRecMessage)).set x0_2.toNat ((⟨x2.Kind, IntKind.i64.wrap (x0_1 + 1), x2.To, x2.Ballot, x2.Index, x2.Known, x2.Text, x2.Slots⟩ : VRecMessage))).set x0_2.toNat ((⟨x3.Kind, x3.From, IntKind.i64.wrap ((IntKind.i64.wrap (x0_1 + 1)) + 1), x3.Ballot, x3.Index, x3.Known, x3.Text, x3.Slots⟩ : VRecMessage))).set x0_2.toNat ((⟨x4.Kind, x4.From, x4.To, IntKind.i64.wrap ((IntKind.i64.wrap ((IntKind.i64.wrap (x0_1 + 1)) + 1)) + 1), x4.Index, x4.Known, x4.Text, x4.Slots⟩ : VRecMessage))).set x0_2.toNat ((⟨x5.Kind, x5.From, x5.To, x5.Ballot, IntKind.i64.wrap ((IntKind.i64.wrap ((IntKind.i64.wrap ((IntKind.i64.wrap (x0_1 + 1)) + 1)) + 1)) + 1), x5.Known, x5.Text, x5.Slots⟩ : VRecMessage))).set x0_2.toNat ((⟨x6.Kind, x6.From, x6.To, x6.Ballot, x6.Index, IntKind.i64.wrap ((IntKind.i64.wrap ((IntKind.i64.wrap ((IntKind.i64.wrap ((IntKind.i64.wrap (x0_1 + 1)) + 1)) + 1)) + 1)) + 1), x6.Text, x6.Slots⟩ : VRecMessage)))[x0_2.toNat]? fun x8 => cond (decide (0 ≤ x0_2)) (cond (decide (x0_2 < ((((((((x0_0.set x0_2.toNat (⟨x0_1, x1.From, x1.To, x1.Ballot, x1.Index, x1.Known, x1.Text, x1.Slots⟩ : VRecMessage)).set x0_2.toNat ((⟨x2.Kind, IntKind.i64.wrap (x0_1 + 1), x2.To, x2.Ballot, x2.Index, x2.Known, x2.Text, x2.Slots⟩ : VRecMessage))).set x0_2.toNat ((⟨x3.Kind, x3.From, IntKind.i64.wrap ((IntKind.i64.wrap (x0_1 + 1)) + 1), x3.Ballot, x3.Index, x3.Known, x3.Text, x3.Slots⟩ : VRecMessage))).set x0_2.toNat ((⟨x4.Kind, x4.From, x4.To, IntKind.i64.wrap ((IntKind.i64.wrap ((IntKind.i64.wrap (x0_1 + 1)) + 1)) + 1), x4.Index, x4.Known, x4.Text, x4.Slots⟩ : VRecMessage))).set x0_2.toNat ((⟨x5.Kind, x5.From, x5.To, x5.Ballot, IntKind.i64.wrap ((IntKind.i64.wrap ((IntKind.i64.wrap ((IntKind.i64.wrap (x0_1 + 1)) + 1)) + 1)) + 1), x5.Known, x5.Text, x5.Slots⟩ : VRecMessage))).set x0_2.toNat ((⟨x6.Kind, x6.From, x6.To, x6.Ballot, x6.Index, IntKind.i64.wrap ((IntKind.i64.wrap ((IntKind.i64.wrap ((IntKind.i64.wrap ((IntKind.i64.wrap (x0_1 + 1)) + 1)) + 1)) + 1)) + 1), x6.Text, x6.Slots⟩ : VRecMessage))).set x0_2.toNat (⟨x8.Kind, x8.From, x8.To, x8.Ballot, x8.Index, x8.Known, r7, x8.Slots⟩ : VRecMessage)).length : Int))) (Option.bind (((((((x0_0.set x0_2.toNat (⟨x0_1, x1.From, x1.To, x1.Ballot, x1.Index, x1.Known, x1.Text, x1.Slots⟩ : VRecMessage)).set x0_2.toNat ((⟨x2.Kind, IntKind.i64.wrap (x0_1 + 1), x2.To, x2.Ballot, x2.Index, x2.Known, x2.Text, x2.Slots⟩ : VRecMessage))).set x0_2.toNat ((⟨x3.Kind, x3.From, IntKind.i64.wrap ((IntKind.i64.wrap (x0_1 + 1)) + 1), x3.Ballot, x3.Index, x3.Known, x3.Text, x3.Slots⟩ : VRecMessage))).set x0_2.toNat ((⟨x4.Kind, x4.From, x4.To, IntKind.i64.wrap ((IntKind.i64.wrap ((IntKind.i64.wrap (x0_1 + 1)) + 1)) + 1), x4.Index, x4.Known, x4.Text, x4.Slots⟩ : VRecMessage))).set x0_2.toNat ((⟨x5.Kind, x5.From, x5.To, x5.Ballot, IntKind.i64.wrap ((IntKind.i64.wrap ((IntKind.i64.wrap ((IntKind.i64.wrap (x0_1 + 1)) + 1)) + 1)) + 1), x5.Known, x5.Text, x5.Slots⟩ : VRecMessage))).set x0_2.toNat ((⟨x6.Kind, x6.From, x6.To, x6.Ballot, x6.Index, IntKind.i64.wrap ((IntKind.i64.wrap ((IntKind.i64.wrap ((IntKind.i64.wrap ((IntKind.i64.wrap (x0_1 + 1)) + 1)) + 1)) + 1)) + 1), x6.Text, x6.Slots⟩ : VRecMessage))).set x0_2.toNat (⟨x8.Kind, x8.From, x8.To, x8.Ballot, x8.Index, x8.Known, r7, x8.Slots⟩ : VRecMessage))[x0_2.toNat]? fun x9 => Option.bind (((((((x0_0.set x0_2.toNat (⟨x0_1, x1.From, x1.To, x1.Ballot, x1.Index, x1.Known, x1.Text, x1.Slots⟩ : VRecMessage)).set x0_2.toNat ((⟨x2.Kind, IntKind.i64.wrap (x0_1 + 1), x2.To, x2.Ballot, x2.Index, x2.Known, x2.Text, x2.Slots⟩ : VRecMessage))).set x0_2.toNat ((⟨x3.Kind, x3.From, IntKind.i64.wrap ((IntKind.i64.wrap (x0_1 + 1)) + 1), x3.Ballot, x3.Index, x3.Known, x3.Text, x3.Slots⟩ : VRecMessage))).set x0_2.toNat ((⟨x4.Kind, x4.From, x4.To, IntKind.i64.wrap ((IntKind.i64.wrap ((IntKind.i64.wrap (x0_1 + 1)) + 1)) + 1), x4.Index, x4.Known, x4.Text, x4.Slots⟩ : VRecMessage))).set x0_2.toNat ((⟨x5.Kind, x5.From, x5.To, x5.Ballot, IntKind.i64.wrap ((IntKind.i64.wrap ((IntKind.i64.wrap ((IntKind.i64.wrap (x0_1 + 1)) + 1)) + 1)) + 1), x5.Known, x5.Text, x5.Slots⟩ : VRecMessage))).set x0_2.toNat ((⟨x6.Kind, x6.From, x6.To, x6.Ballot, x6.Index, IntKind.i64.wrap ((IntKind.i64.wrap ((IntKind.i64.wrap ((IntKind.i64.wrap ((IntKind.i64.wrap (x0_1 + 1)) + 1)) + 1)) + 1)) + 1), x6.Text, x6.Slots⟩ : VRecMessage))).set x0_2.toNat (⟨x8.Kind, x8.From, x8.To, x8.Ballot, x8.Index, x8.Known, r7, x8.Slots⟩ : VRecMessage))[x0_2.toNat]? fun x10 => Option.bind (G83 x10.Slots (IntKind.i64.wrap ((IntKind.i64.wrap ((IntKind.i64.wrap ((IntKind.i64.wrap ((IntKind.i64.wrap ((IntKind.i64.wrap ((IntKind.i64.wrap (x0_1 + 1)) + 1)) + 1)) + 1)) + 1)) + 1)) + 1))) fun r11 =>
      Option.bind (((((((x0_0.set x0_2.toNat (⟨x0_1, x1.From, x1.To, x1.Ballot, x1.Index, x1.Known, x1.Text, x1.Slots⟩ : VRecMessage)).set x0_2.toNat ((⟨x2.Kind, IntKind.i64.wrap (x0_1 + 1), x2.To, x2.Ballot, x2.Index, x2.Known, x2.Text, x2.Slots⟩ : VRecMessage))).set x0_2.toNat ((⟨x3.Kind, x3.From, IntKind.i64.wrap ((IntKind.i64.wrap (x0_1 + 1)) + 1), x3.Ballot, x3.Index, x3.Known, x3.Text, x3.Slots⟩ : VRecMessage))).set x0_2.toNat ((⟨x4.Kind, x4.From, x4.To, IntKind.i64.wrap ((IntKind.i64.wrap ((IntKind.i64.wrap (x0_1 + 1)) + 1)) + 1), x4.Index, x4.Known, x4.Text, x4.Slots⟩ : VRecMessage))).set x0_2.toNat ((⟨x5.Kind, x5.From, x5.To, x5.Ballot, IntKind.i64.wrap ((IntKind.i64.wrap ((IntKind.i64.wrap ((IntKind.i64.wrap (x0_1 + 1)) + 1)) + 1)) + 1), x5.Known, x5.Text, x5.Slots⟩ : VRecMessage))).set x0_2.toNat ((⟨x6.Kind, x6.From, x6.To, x6.Ballot, x6.Index, IntKind.i64.wrap ((IntKind.i64.wrap ((IntKind.i64.wrap ((IntKind.i64.wrap ((IntKind.i64.wrap (x0_1 + 1)) + 1)) + 1)) + 1)) + 1), x6.Text, x6.Slots⟩ : VRecMessage))).set x0_2.toNat (⟨x8.Kind, x8.From, x8.To, x8.Ballot, x8.Index, x8.Known, r7, x8.Slots⟩ : VRecMessage))[x0_2.toNat]? fun x12 => rec0 ((((((((x0_0.set x0_2.toNat (⟨x0_1, x1.From, x1.To, x1.Ballot, x1.Index, x1.Known, x1.Text, x1.Slots⟩ : VRecMessage)).set x0_2.toNat ((⟨x2.Kind, IntKind.i64.wrap (x0_1 + 1), x2.To, x2.Ballot, x2.Index, x2.Known, x2.Text, x2.Slots⟩ : VRecMessage))).set x0_2.toNat ((⟨x3.Kind, x3.From, IntKind.i64.wrap ((IntKind.i64.wrap (x0_1 + 1)) + 1), x3.Ballot, x3.Index, x3.Known, x3.Text, x3.Slots⟩ : VRecMessage))).set x0_2.toNat ((⟨x4.Kind, x4.From, x4.To, IntKind.i64.wrap ((IntKind.i64.wrap ((IntKind.i64.wrap (x0_1 + 1)) + 1)) + 1), x4.Index, x4.Known, x4.Text, x4.Slots⟩ : VRecMessage))).set x0_2.toNat ((⟨x5.Kind, x5.From, x5.To, x5.Ballot, IntKind.i64.wrap ((IntKind.i64.wrap ((IntKind.i64.wrap ((IntKind.i64.wrap (x0_1 + 1)) + 1)) + 1)) + 1), x5.Known, x5.Text, x5.Slots⟩ : VRecMessage))).set x0_2.toNat ((⟨x6.Kind, x6.From, x6.To, x6.Ballot, x6.Index, IntKind.i64.wrap ((IntKind.i64.wrap ((IntKind.i64.wrap ((IntKind.i64.wrap ((IntKind.i64.wrap (x0_1 + 1)) + 1)) + 1)) + 1)) + 1), x6.Text, x6.Slots⟩ : VRecMessage))).set x0_2.toNat (⟨x8.Kind, x8.From, x8.To, x8.Ballot, x8.Index, x8.Known, r7, x8.Slots⟩ : VRecMessage)).set x0_2.toNat (⟨x12.Kind, x12.From, x12.To, x12.Ballot, x12.Index, x12.Known, x12.Text, r11.1⟩ : VRecMessage), r11.2, IntKind.i64.wrap (x0_2 + 1))) none) none) none) none) none) none) none) none) none) none) none) none) none) none) none) none)
      (some (x0_0, x0_1))
noncomputable def LP61_0 (n : Nat)  (x : A61_0) : Option (List (C .e116) × Int) := lpN (r61_0 n ) n x
noncomputable def MP61_0 (kp : Nat → Prop) (kh : Nat → Option Obj) (hd : Nat → Value) (n : Nat)  (x : A61_0) : Option (List (C .e116) × Int) := iter (fun rec S => run (X61.gh kp kh hd) (F61 n) (codeAt (bodyOf Go.Proofs.Try.f61) [1, 0, 1, 0, 0]) 0 S (lopK rec (blkK 0 (seqK (run (X61.gh kp kh hd) (F61 n) (codeAt (bodyOf Go.Proofs.Try.f61) [1, 1]) 0) (kTopW (X61.gh kp kh hd) Go.Proofs.Try.f61 [true, false] dec61))))) [0, 1, 5, 90000, 90001] n (s61_0 x)
theorem m61_0 (kp : Nat → Prop) (kh : Nat → Option Obj) (hd : Nat → Value) (n : Nat)  (x : A61_0) : MP61_0 kp kh hd n  x = LP61_0 n  x := by
  refine iter_eq s61_0 (r61_0 n ) (fun rec0 x => ?_) n x
  obtain ⟨x0_0, x0_1, x0_2⟩ := x
  kernel_rfl
noncomputable def G61n (n : Nat) (a0 : List (C .e116)) (a1 : Int) : Option (List (C .e116) × Int) :=
      LP61_0 n  (a0, a1, 0)
theorem t61 (kp : Nat → Prop) (kh : Nat → Option Obj) (hd : Nat → Value) (n : Nat) (a0 : List (C .e116)) (a1 : Int) : runFnW (X61.gh kp kh hd) (F61 n) Go.Proofs.Try.f61 [(false, [.row .e116 a0]), (false, [.int .i64 a1])] dec61 = G61n n a0 a1 := by
  have h : runFnW (X61.gh kp kh hd) (F61 n) Go.Proofs.Try.f61 [(false, [.row .e116 a0]), (false, [.int .i64 a1])] dec61 =
      MP61_0 kp kh hd n  (a0, a1, 0) := by kernel_rfl
  simp only [h, G61n, m61_0]
noncomputable def G61 (a0 : List (C .e116)) (a1 : Int) : Option (List (C .e116) × Int) := G61n fuel a0 a1
noncomputable def con61 : ConW C := { R0 := List (C .e116) × Int, out := fun r => [.row .e116 r.1], ret := fun r => [(false, [.int .i64 r.2])], g := fun rs => match rs with
  | [(false, [.row .e116 y0]), (false, [.int .i64 y1])] => G61 y0 y1
  | _ => none }
theorem x61 : XOk Go.Proofs.Try.prog X61 := ⟨tks_ok, els_ok⟩
theorem q61 : Cons Go.Proofs.Try.prog X61 := ⟨lkR_ok (l := [(58, con58)]) ⟨c58, trivial⟩, lkW_ok (l := [(83, con83)]) ⟨c83, trivial⟩⟩
theorem c61 : ConWOk Go.Proofs.Try.prog KK 61 con61 := by
  refine conw_of x61 q61 (by kernel_rfl) (f := 61) (fn := Go.Proofs.Try.f61) (c := bodyOf Go.Proofs.Try.f61) (by kernel_rfl) (by kernel_rfl) (by kernel_rfl) (nameB (by kernel_rfl)) con61 dec61 (fun os rs r0 h => ?_) (fun rs r0 h => ?_)
  · unfold dec61 at h
    split at h
    · cases h; exact ⟨rfl, rfl⟩
    · cases h
  · simp only [con61] at h
    split at h
    · rename_i y0 y1
      exact ⟨Nat.le_of_ble_eq_true (by kernel_rfl), F61 fuel, fun kp kh hd => (t61 kp kh hd fuel y0 y1).trans h⟩
    · cases h
/-! ### f84 loop.example/wharfdesk/laws.markStringS -/
noncomputable def X84 : Cx C := { K := KK, tk := lk tks, con := lkC [(58, con58)], conw := lkC [] }
def F84 (n : Nat) : Cf := { N := n, keep := [0, 1, 4, 5, 9, 90000, 90001], live := lk [(0, [0, 1, 5, 90000, 90001])] }
def dec84 (os : List (Lf C)) (rs : List (Bool × List (Lf C))) : Option (List (C .e9) × Int) := match os, rs with
  | [.row .e9 o0], [(false, [.int .i64 z0])] => some (o0, z0)
  | _, _ => none
abbrev A84_0 : Type := List (C .e9) × Int × Int
def s84_0 : A84_0 → St C := fun (x0_0, x0_1, x0_2) => { env := [(0, .one (.ref 100000 [])), (1, .one (.int .i64 x0_1)), (5, .one (.int .i64 x0_2)), (90000, .frame), (90001, .hdr 100000 0)], objs := [(100000, .row .e9 x0_0 false)], base := 0 }
noncomputable def r84_0 (n : Nat)  (rec0 : A84_0 → Option (List (C .e9) × Int)) : A84_0 → Option (List (C .e9) × Int) := fun (x0_0, x0_1, x0_2) =>
      cond (decide (x0_2 < (x0_0.length : Int)))
      (Option.bind (G58 x0_1) fun r1 =>
      cond (decide (0 ≤ x0_2)) (cond (decide (x0_2 < (x0_0.length : Int))) (Option.bind x0_0[x0_2.toNat]? fun x2 => rec0 (x0_0.set x0_2.toNat r1, IntKind.i64.wrap (x0_1 + 1), IntKind.i64.wrap (x0_2 + 1))) none) none)
      (some (x0_0, x0_1))
noncomputable def LP84_0 (n : Nat)  (x : A84_0) : Option (List (C .e9) × Int) := lpN (r84_0 n ) n x
noncomputable def MP84_0 (kp : Nat → Prop) (kh : Nat → Option Obj) (hd : Nat → Value) (n : Nat)  (x : A84_0) : Option (List (C .e9) × Int) := iter (fun rec S => run (X84.gh kp kh hd) (F84 n) (codeAt (bodyOf Go.Proofs.Try.f84) [1, 0, 1, 0, 0]) 0 S (lopK rec (blkK 0 (seqK (run (X84.gh kp kh hd) (F84 n) (codeAt (bodyOf Go.Proofs.Try.f84) [1, 1]) 0) (kTopW (X84.gh kp kh hd) Go.Proofs.Try.f84 [true, false] dec84))))) [0, 1, 5, 90000, 90001] n (s84_0 x)
theorem m84_0 (kp : Nat → Prop) (kh : Nat → Option Obj) (hd : Nat → Value) (n : Nat)  (x : A84_0) : MP84_0 kp kh hd n  x = LP84_0 n  x := by
  refine iter_eq s84_0 (r84_0 n ) (fun rec0 x => ?_) n x
  obtain ⟨x0_0, x0_1, x0_2⟩ := x
  kernel_rfl
noncomputable def G84n (n : Nat) (a0 : List (C .e9)) (a1 : Int) : Option (List (C .e9) × Int) :=
      LP84_0 n  (a0, a1, 0)
theorem t84 (kp : Nat → Prop) (kh : Nat → Option Obj) (hd : Nat → Value) (n : Nat) (a0 : List (C .e9)) (a1 : Int) : runFnW (X84.gh kp kh hd) (F84 n) Go.Proofs.Try.f84 [(false, [.row .e9 a0]), (false, [.int .i64 a1])] dec84 = G84n n a0 a1 := by
  have h : runFnW (X84.gh kp kh hd) (F84 n) Go.Proofs.Try.f84 [(false, [.row .e9 a0]), (false, [.int .i64 a1])] dec84 =
      MP84_0 kp kh hd n  (a0, a1, 0) := by kernel_rfl
  simp only [h, G84n, m84_0]
noncomputable def G84 (a0 : List (C .e9)) (a1 : Int) : Option (List (C .e9) × Int) := G84n fuel a0 a1
noncomputable def con84 : ConW C := { R0 := List (C .e9) × Int, out := fun r => [.row .e9 r.1], ret := fun r => [(false, [.int .i64 r.2])], g := fun rs => match rs with
  | [(false, [.row .e9 y0]), (false, [.int .i64 y1])] => G84 y0 y1
  | _ => none }
theorem x84 : XOk Go.Proofs.Try.prog X84 := ⟨tks_ok, els_ok⟩
theorem q84 : Cons Go.Proofs.Try.prog X84 := ⟨lkR_ok (l := [(58, con58)]) ⟨c58, trivial⟩, lkW_ok (l := []) trivial⟩
theorem c84 : ConWOk Go.Proofs.Try.prog KK 84 con84 := by
  refine conw_of x84 q84 (by kernel_rfl) (f := 84) (fn := Go.Proofs.Try.f84) (c := bodyOf Go.Proofs.Try.f84) (by kernel_rfl) (by kernel_rfl) (by kernel_rfl) (nameB (by kernel_rfl)) con84 dec84 (fun os rs r0 h => ?_) (fun rs r0 h => ?_)
  · unfold dec84 at h
    split at h
    · cases h; exact ⟨rfl, rfl⟩
    · cases h
  · simp only [con84] at h
    split at h
    · rename_i y0 y1
      exact ⟨Nat.le_of_ble_eq_true (by kernel_rfl), F84 fuel, fun kp kh hd => (t84 kp kh hd fuel y0 y1).trans h⟩
    · cases h
/-! ### f85 loop.example/wharfdesk/laws.markRecAckS -/
noncomputable def X85 : Cx C := { K := KK, tk := lk tks, con := lkC [], conw := lkC [(59, con59)] }
def F85 (n : Nat) : Cf := { N := n, keep := [0, 1, 4, 5, 9, 90000, 90001], live := lk [(0, [0, 1, 5, 90000, 90001])] }
def dec85 (os : List (Lf C)) (rs : List (Bool × List (Lf C))) : Option (List (C .e134) × Int) := match os, rs with
  | [.row .e134 o0], [(false, [.int .i64 z0])] => some (o0, z0)
  | _, _ => none
abbrev A85_0 : Type := List (C .e134) × Int × Int
def s85_0 : A85_0 → St C := fun (x0_0, x0_1, x0_2) => { env := [(0, .one (.ref 100000 [])), (1, .one (.int .i64 x0_1)), (5, .one (.int .i64 x0_2)), (90000, .frame), (90001, .hdr 100000 0)], objs := [(100000, .row .e134 x0_0 false)], base := 0 }
noncomputable def r85_0 (n : Nat)  (rec0 : A85_0 → Option (List (C .e134) × Int)) : A85_0 → Option (List (C .e134) × Int) := fun (x0_0, x0_1, x0_2) =>
      cond (decide (x0_2 < (x0_0.length : Int)))
      (cond (decide (0 ≤ x0_2)) (cond (decide (x0_2 < (x0_0.length : Int))) (Option.bind x0_0[x0_2.toNat]? fun x1 => cond (decide (0 ≤ x0_2)) (cond (decide (x0_2 < ((x0_0.set x0_2.toNat (⟨x0_1, x1.From⟩ : VRecAck)).length : Int))) (Option.bind (x0_0.set x0_2.toNat (⟨x0_1, x1.From⟩ : VRecAck))[x0_2.toNat]? fun x2 => Option.bind (x0_0.set x0_2.toNat (⟨x0_1, x1.From⟩ : VRecAck))[x0_2.toNat]? fun x3 => Option.bind (G59 x3.From (IntKind.i64.wrap (x0_1 + 1))) fun r4 =>
      Option.bind (x0_0.set x0_2.toNat (⟨x0_1, x1.From⟩ : VRecAck))[x0_2.toNat]? fun x5 => rec0 ((x0_0.set x0_2.toNat (⟨x0_1, x1.From⟩ : VRecAck)).set x0_2.toNat (⟨x5.Index, r4.1⟩ : VRecAck), r4.2, IntKind.i64.wrap (x0_2 + 1))) none) none) none) none)
      (some (x0_0, x0_1))
noncomputable def LP85_0 (n : Nat)  (x : A85_0) : Option (List (C .e134) × Int) := lpN (r85_0 n ) n x
noncomputable def MP85_0 (kp : Nat → Prop) (kh : Nat → Option Obj) (hd : Nat → Value) (n : Nat)  (x : A85_0) : Option (List (C .e134) × Int) := iter (fun rec S => run (X85.gh kp kh hd) (F85 n) (codeAt (bodyOf Go.Proofs.Try.f85) [1, 0, 1, 0, 0]) 0 S (lopK rec (blkK 0 (seqK (run (X85.gh kp kh hd) (F85 n) (codeAt (bodyOf Go.Proofs.Try.f85) [1, 1]) 0) (kTopW (X85.gh kp kh hd) Go.Proofs.Try.f85 [true, false] dec85))))) [0, 1, 5, 90000, 90001] n (s85_0 x)
theorem m85_0 (kp : Nat → Prop) (kh : Nat → Option Obj) (hd : Nat → Value) (n : Nat)  (x : A85_0) : MP85_0 kp kh hd n  x = LP85_0 n  x := by
  refine iter_eq s85_0 (r85_0 n ) (fun rec0 x => ?_) n x
  obtain ⟨x0_0, x0_1, x0_2⟩ := x
  kernel_rfl
noncomputable def G85n (n : Nat) (a0 : List (C .e134)) (a1 : Int) : Option (List (C .e134) × Int) :=
      LP85_0 n  (a0, a1, 0)
theorem t85 (kp : Nat → Prop) (kh : Nat → Option Obj) (hd : Nat → Value) (n : Nat) (a0 : List (C .e134)) (a1 : Int) : runFnW (X85.gh kp kh hd) (F85 n) Go.Proofs.Try.f85 [(false, [.row .e134 a0]), (false, [.int .i64 a1])] dec85 = G85n n a0 a1 := by
  have h : runFnW (X85.gh kp kh hd) (F85 n) Go.Proofs.Try.f85 [(false, [.row .e134 a0]), (false, [.int .i64 a1])] dec85 =
      MP85_0 kp kh hd n  (a0, a1, 0) := by kernel_rfl
  simp only [h, G85n, m85_0]
noncomputable def G85 (a0 : List (C .e134)) (a1 : Int) : Option (List (C .e134) × Int) := G85n fuel a0 a1
noncomputable def con85 : ConW C := { R0 := List (C .e134) × Int, out := fun r => [.row .e134 r.1], ret := fun r => [(false, [.int .i64 r.2])], g := fun rs => match rs with
  | [(false, [.row .e134 y0]), (false, [.int .i64 y1])] => G85 y0 y1
  | _ => none }
theorem x85 : XOk Go.Proofs.Try.prog X85 := ⟨tks_ok, els_ok⟩
theorem q85 : Cons Go.Proofs.Try.prog X85 := ⟨lkR_ok (l := []) trivial, lkW_ok (l := [(59, con59)]) ⟨c59, trivial⟩⟩
theorem c85 : ConWOk Go.Proofs.Try.prog KK 85 con85 := by
  refine conw_of x85 q85 (by kernel_rfl) (f := 85) (fn := Go.Proofs.Try.f85) (c := bodyOf Go.Proofs.Try.f85) (by kernel_rfl) (by kernel_rfl) (by kernel_rfl) (nameB (by kernel_rfl)) con85 dec85 (fun os rs r0 h => ?_) (fun rs r0 h => ?_)
  · unfold dec85 at h
    split at h
    · cases h; exact ⟨rfl, rfl⟩
    · cases h
  · simp only [con85] at h
    split at h
    · rename_i y0 y1
      exact ⟨Nat.le_of_ble_eq_true (by kernel_rfl), F85 fuel, fun kp kh hd => (t85 kp kh hd fuel y0 y1).trans h⟩
    · cases h
/-! ### f60 loop.example/wharfdesk/laws.markRecorderS -/
noncomputable def X60 : Cx C := { K := KK, tk := lk tks, con := lkC [], conw := lkC [(59, con59), (61, con61), (83, con83), (84, con84), (85, con85)] }
def F60 (n : Nat) : Cf := { N := n, keep := [0, 1, 4, 5, 9, 90000, 90001], live := lk [(0, [0, 1, 5, 90000, 90001])] }
def dec60 (os : List (Lf C)) (rs : List (Bool × List (Lf C))) : Option (List (C .e84) × Int) := match os, rs with
  | [.row .e84 o0], [(false, [.int .i64 z0])] => some (o0, z0)
  | _, _ => none
abbrev A60_0 : Type := List (C .e84) × Int × Int
def s60_0 : A60_0 → St C := fun (x0_0, x0_1, x0_2) => { env := [(0, .one (.ref 100000 [])), (1, .one (.int .i64 x0_1)), (5, .one (.int .i64 x0_2)), (90000, .frame), (90001, .hdr 100000 0)], objs := [(100000, .row .e84 x0_0 false)], base := 0 }
noncomputable def r60_0 (n : Nat)  (rec0 : A60_0 → Option (List (C .e84) × Int)) : A60_0 → Option (List (C .e84) × Int) := fun (x0_0, x0_1, x0_2) =>
      cond (decide (x0_2 < (x0_0.length : Int)))
      (cond (decide (0 ≤ x0_2)) (cond (decide (x0_2 < (x0_0.length : Int))) (Option.bind x0_0[x0_2.toNat]? fun x1 => cond (decide (0 ≤ x0_2)) (cond (decide (x0_2 < ((x0_0.set x0_2.toNat (⟨x0_1, x1.Of, x1.Up, x1.Safe_Promise, x1.Safe_Known, x1.Safe_Slots, x1.Disk_Promise, x1.Disk_Known, x1.Disk_Slots, x1.Held, x1.Wishes, x1.Lead, x1.Trying, x1.Ballot, x1.Yes, x1.Best, x1.Acks, x1.Heard⟩ : VRecorder)).length : Int))) (Option.bind (x0_0.set x0_2.toNat (⟨x0_1, x1.Of, x1.Up, x1.Safe_Promise, x1.Safe_Known, x1.Safe_Slots, x1.Disk_Promise, x1.Disk_Known, x1.Disk_Slots, x1.Held, x1.Wishes, x1.Lead, x1.Trying, x1.Ballot, x1.Yes, x1.Best, x1.Acks, x1.Heard⟩ : VRecorder))[x0_2.toNat]? fun x2 => cond (decide (3 = 0)) none (cond (decide (0 ≤ x0_2)) (cond (decide (x0_2 < (((x0_0.set x0_2.toNat (⟨x0_1, x1.Of, x1.Up, x1.Safe_Promise, x1.Safe_Known, x1.Safe_Slots, x1.Disk_Promise, x1.Disk_Known, x1.Disk_Slots, x1.Held, x1.Wishes, x1.Lead, x1.Trying, x1.Ballot, x1.Yes, x1.Best, x1.Acks, x1.Heard⟩ : VRecorder)).set x0_2.toNat ((⟨x2.Number, IntKind.i64.wrap (x0_1 + 1), x2.Up, x2.Safe_Promise, x2.Safe_Known, x2.Safe_Slots, x2.Disk_Promise, x2.Disk_Known, x2.Disk_Slots, x2.Held, x2.Wishes, x2.Lead, x2.Trying, x2.Ballot, x2.Yes, x2.Best, x2.Acks, x2.Heard⟩ : VRecorder))).length : Int))) (Option.bind ((x0_0.set x0_2.toNat (⟨x0_1, x1.Of, x1.Up, x1.Safe_Promise, x1.Safe_Known, x1.Safe_Slots, x1.Disk_Promise, x1.Disk_Known, x1.Disk_Slots, x1.Held, x1.Wishes, x1.Lead, x1.Trying, x1.Ballot, x1.Yes, x1.Best, x1.Acks, x1.Heard⟩ : VRecorder)).set x0_2.toNat ((⟨x2.Number, IntKind.i64.wrap (x0_1 + 1), x2.Up, x2.Safe_Promise, x2.Safe_Known, x2.Safe_Slots, x2.Disk_Promise, x2.Disk_Known, x2.Disk_Slots, x2.Held, x2.Wishes, x2.Lead, x2.Trying, x2.Ballot, x2.Yes, x2.Best, x2.Acks, x2.Heard⟩ : VRecorder)))[x0_2.toNat]? fun x3 => cond (decide (0 ≤ x0_2)) (cond (decide (x0_2 < ((((x0_0.set x0_2.toNat (⟨x0_1, x1.Of, x1.Up, x1.Safe_Promise, x1.Safe_Known, x1.Safe_Slots, x1.Disk_Promise, x1.Disk_Known, x1.Disk_Slots, x1.Held, x1.Wishes, x1.Lead, x1.Trying, x1.Ballot, x1.Yes, x1.Best, x1.Acks, x1.Heard⟩ : VRecorder)).set x0_2.toNat ((⟨x2.Number, IntKind.i64.wrap (x0_1 + 1), x2.Up, x2.Safe_Promise, x2.Safe_Known, x2.Safe_Slots, x2.Disk_Promise, x2.Disk_Known, x2.Disk_Slots, x2.Held, x2.Wishes, x2.Lead, x2.Trying, x2.Ballot, x2.Yes, x2.Best, x2.Acks, x2.Heard⟩ : VRecorder))).set x0_2.toNat ((⟨x3.Number, x3.Of, ((IntKind.i64.wrap ((IntKind.i64.wrap (x0_1 + 1)) + 1)).tmod 3) == 0, x3.Safe_Promise, x3.Safe_Known, x3.Safe_Slots, x3.Disk_Promise, x3.Disk_Known, x3.Disk_Slots, x3.Held, x3.Wishes, x3.Lead, x3.Trying, x3.Ballot, x3.Yes, x3.Best, x3.Acks, x3.Heard⟩ : VRecorder))).length : Int))) (Option.bind (((x0_0.set x0_2.toNat (⟨x0_1, x1.Of, x1.Up, x1.Safe_Promise, x1.Safe_Known, x1.Safe_Slots, x1.Disk_Promise, x1.Disk_Known, x1.Disk_Slots, x1.Held, x1.Wishes, x1.Lead, x1.Trying, x1.Ballot, x1.Yes, x1.Best, x1.Acks, x1.Heard⟩ : VRecorder)).set x0_2.toNat ((⟨x2.Number, IntKind.i64.wrap (x0_1 + 1), x2.Up, x2.Safe_Promise, x2.Safe_Known, x2.Safe_Slots, x2.Disk_Promise, x2.Disk_Known, x2.Disk_Slots, x2.Held, x2.Wishes, x2.Lead, x2.Trying, x2.Ballot, x2.Yes, x2.Best, x2.Acks, x2.Heard⟩ : VRecorder))).set x0_2.toNat ((⟨x3.Number, x3.Of, ((IntKind.i64.wrap ((IntKind.i64.wrap (x0_1 + 1)) + 1)).tmod 3) == 0, x3.Safe_Promise, x3.Safe_Known, x3.Safe_Slots, x3.Disk_Promise, x3.Disk_Known, x3.Disk_Slots, x3.Held, x3.Wishes, x3.Lead, x3.Trying, x3.Ballot, x3.Yes, x3.Best, x3.Acks, x3.Heard⟩ : VRecorder)))[x0_2.toNat]? fun x4 => cond (decide (0 ≤ x0_2)) (cond (decide (x0_2 < (((((x0_0.set x0_2.toNat (⟨x0_1, x1.Of, x1.Up, x1.Safe_Promise, x1.Safe_Known, x1.Safe_Slots, x1.Disk_Promise, x1.Disk_Known, x1.Disk_Slots, x1.Held, x1.Wishes, x1.Lead, x1.Trying, x1.Ballot, x1.Yes, x1.Best, x1.Acks, x1.Heard⟩ : VRecorder)).set x0_2.toNat ((⟨x2.Number, IntKind.i64.wrap (x0_1 + 1), x2.Up, x2.Safe_Promise, x2.Safe_Known, x2.Safe_Slots, x2.Disk_Promise, x2.Disk_Known, x2.Disk_Slots, x2.Held, x2.Wishes, x2.Lead, x2.Trying, x2.Ballot, x2.Yes, x2.Best, x2.Acks, x2.Heard⟩ : VRecorder))).set x0_2.toNat ((⟨x3.Number, x3.Of, ((IntKind.i64.wrap ((IntKind.i64.wrap (x0_1 + 1)) + 1)).tmod 3) == 0, x3.Safe_Promise, x3.Safe_Known, x3.Safe_Slots, x3.Disk_Promise, x3.Disk_Known, x3.Disk_Slots, x3.Held, x3.Wishes, x3.Lead, x3.Trying, x3.Ballot, x3.Yes, x3.Best, x3.Acks, x3.Heard⟩ : VRecorder))).set x0_2.toNat ((⟨x4.Number, x4.Of, x4.Up, IntKind.i64.wrap ((IntKind.i64.wrap ((IntKind.i64.wrap (x0_1 + 1)) + 1)) + 1), x4.Safe_Known, x4.Safe_Slots, x4.Disk_Promise, x4.Disk_Known, x4.Disk_Slots, x4.Held, x4.Wishes, x4.Lead, x4.Trying, x4.Ballot, x4.Yes, x4.Best, x4.Acks, x4.Heard⟩ : VRecorder))).length : Int))) (Option.bind ((((x0_0.set x0_2.toNat (⟨x0_1, x1.Of, x1.Up, x1.Safe_Promise, x1.Safe_Known, x1.Safe_Slots, x1.Disk_Promise, x1.Disk_Known, x1.Disk_Slots, x1.Held, x1.Wishes, x1.Lead, x1.Trying, x1.Ballot, x1.Yes, x1.Best, x1.Acks, x1.Heard⟩ : VRecorder)).set x0_2.toNat ((⟨x2.Number, IntKind.i64.wrap (x0_1 + 1), x2.Up, x2.Safe_Promise, x2.Safe_Known, x2.Safe_Slots, x2.Disk_Promise, x2.Disk_Known, x2.Disk_Slots, x2.Held, x2.Wishes, x2.Lead, x2.Trying, x2.Ballot, x2.Yes, x2.Best, x2.Acks, x2.Heard⟩ : VRecorder))).set x0_2.toNat ((⟨x3.Number, x3.Of, ((IntKind.i64.wrap ((IntKind.i64.wrap (x0_1 + 1)) + 1)).tmod 3) == 0, x3.Safe_Promise, x3.Safe_Known, x3.Safe_Slots, x3.Disk_Promise, x3.Disk_Known, x3.Disk_Slots, x3.Held, x3.Wishes, x3.Lead, x3.Trying, x3.Ballot, x3.Yes, x3.Best, x3.Acks, x3.Heard⟩ : VRecorder))).set x0_2.toNat ((⟨x4.Number, x4.Of, x4.Up, IntKind.i64.wrap ((IntKind.i64.wrap ((IntKind.i64.wrap (x0_1 + 1)) + 1)) + 1), x4.Safe_Known, x4.Safe_Slots, x4.Disk_Promise, x4.Disk_Known, x4.Disk_Slots, x4.Held, x4.Wishes, x4.Lead, x4.Trying, x4.Ballot, x4.Yes, x4.Best, x4.Acks, x4.Heard⟩ : VRecorder)))[x0_2.toNat]? fun x5 => cond (decide (0 ≤ x0_2)) (cond (decide (x0_2 < ((((((x0_0.set x0_2.toNat (⟨x0_1, x1.Of, x1.Up, x1.Safe_Promise, x1.Safe_Known, x1.Safe_Slots, x1.Disk_Promise, x1.Disk_Known, x1.Disk_Slots, x1.Held, x1.Wishes, x1.Lead, x1.Trying, x1.Ballot, x1.Yes, x1.Best, x1.Acks, x1.Heard⟩ : VRecorder)).set x0_2.toNat ((⟨x2.Number, IntKind.i64.wrap (x0_1 + 1), x2.Up, x2.Safe_Promise, x2.Safe_Known, x2.Safe_Slots, x2.Disk_Promise, x2.Disk_Known, x2.Disk_Slots, x2.Held, x2.Wishes, x2.Lead, x2.Trying, x2.Ballot, x2.Yes, x2.Best, x2.Acks, x2.Heard⟩ : VRecorder))).set x0_2.toNat ((⟨x3.Number, x3.Of, ((IntKind.i64.wrap ((IntKind.i64.wrap (x0_1 + 1)) + 1)).tmod 3) == 0, x3.Safe_Promise, x3.Safe_Known, x3.Safe_Slots, x3.Disk_Promise, x3.Disk_Known, x3.Disk_Slots, x3.Held, x3.Wishes, x3.Lead, x3.Trying, x3.Ballot, x3.Yes, x3.Best, x3.Acks, x3.Heard⟩ : VRecorder))).set x0_2.toNat ((⟨x4.Number, x4.Of, x4.Up, IntKind.i64.wrap ((IntKind.i64.wrap ((IntKind.i64.wrap (x0_1 + 1)) + 1)) + 1), x4.Safe_Known, x4.Safe_Slots, x4.Disk_Promise, x4.Disk_Known, x4.Disk_Slots, x4.Held, x4.Wishes, x4.Lead, x4.Trying, x4.Ballot, x4.Yes, x4.Best, x4.Acks, x4.Heard⟩ : VRecorder))).set x0_2.toNat ((⟨x5.Number, x5.Of, x5.Up, x5.Safe_Promise, IntKind.i64.wrap ((IntKind.i64.wrap ((IntKind.i64.wrap ((IntKind.i64.wrap (x0_1 + 1)) + 1)) + 1)) + 1), x5.Safe_Slots, x5.Disk_Promise, x5.Disk_Known, x5.Disk_Slots, x5.Held, x5.Wishes, x5.Lead, x5.Trying, x5.Ballot, x5.Yes, x5.Best, x5.Acks, x5.Heard⟩ : VRecorder))).length : Int))) (Option.bind (((((x0_0.set x0_2.toNat (⟨x0_1, x1.Of, x1.Up, x1.Safe_Promise, x1.Safe_Known, x1.Safe_Slots, x1.Disk_Promise, x1.Disk_Known, x1.Disk_Slots, x1.Held, x1.Wishes, x1.Lead, x1.Trying, x1.Ballot, x1.Yes, x1.Best, x1.Acks, x1.Heard⟩ : VRecorder)).set x0_2.toNat ((⟨x2.Number, IntKind.i64.wrap (x0_1 + 1), x2.Up, x2.Safe_Promise, x2.Safe_Known, x2.Safe_Slots, x2.Disk_Promise, x2.Disk_Known, x2.Disk_Slots, x2.Held, x2.Wishes, x2.Lead, x2.Trying, x2.Ballot, x2.Yes, x2.Best, x2.Acks, x2.Heard⟩ : VRecorder))).set x0_2.toNat ((⟨x3.Number, x3.Of, ((IntKind.i64.wrap ((IntKind.i64.wrap (x0_1 + 1)) + 1)).tmod 3) == 0, x3.Safe_Promise, x3.Safe_Known, x3.Safe_Slots, x3.Disk_Promise, x3.Disk_Known, x3.Disk_Slots, x3.Held, x3.Wishes, x3.Lead, x3.Trying, x3.Ballot, x3.Yes, x3.Best, x3.Acks, x3.Heard⟩ : VRecorder))).set x0_2.toNat ((⟨x4.Number, x4.Of, x4.Up, IntKind.i64.wrap ((IntKind.i64.wrap ((IntKind.i64.wrap (x0_1 + 1)) + 1)) + 1), x4.Safe_Known, x4.Safe_Slots, x4.Disk_Promise, x4.Disk_Known, x4.Disk_Slots, x4.Held, x4.Wishes, x4.Lead, x4.Trying, x4.Ballot, x4.Yes, x4.Best, x4.Acks, x4.Heard⟩ : VRecorder))).set x0_2.toNat ((⟨x5.Number, x5.Of, x5.Up, x5.Safe_Promise, IntKind.i64.wrap ((IntKind.i64.wrap ((IntKind.i64.wrap ((IntKind.i64.wrap (x0_1 + 1)) + 1)) + 1)) + 1), x5.Safe_Slots, x5.Disk_Promise, x5.Disk_Known, x5.Disk_Slots, x5.Held, x5.Wishes, x5.Lead, x5.Trying, x5.Ballot, x5.Yes, x5.Best, x5.Acks, x5.Heard⟩ : VRecorder)))[x0_2.toNat]? fun x6 => Option.bind (((((x0_0.set x0_2.toNat (⟨x0_1, x1.Of, x1.Up, x1.Safe_Promise, x1.Safe_Known, x1.Safe_Slots, x1.Disk_Promise, x1.Disk_Known, x1.Disk_Slots, x1.Held, x1.Wishes, x1.Lead, x1.Trying, x1.Ballot, x1.Yes, x1.Best, x1.Acks, x1.Heard⟩ : VRecorder)).set x0_2.toNat ((⟨x2.Number, IntKind.i64.wrap (x0_1 + 1), x2.Up, x2.Safe_Promise, x2.Safe_Known, x2.Safe_Slots, x2.Disk_Promise, x2.Disk_Known, x2.Disk_Slots, x2.Held, x2.Wishes, x2.Lead, x2.Trying, x2.Ballot, x2.Yes, x2.Best, x2.Acks, x2.Heard⟩ : VRecorder))).set x0_2.toNat ((⟨x3.Number, x3.Of, ((IntKind.i64.wrap ((IntKind.i64.wrap (x0_1 + 1)) + 1)).tmod 3) == 0, x3.Safe_Promise, x3.Safe_Known, x3.Safe_Slots, x3.Disk_Promise, x3.Disk_Known, x3.Disk_Slots, x3.Held, x3.Wishes, x3.Lead, x3.Trying, x3.Ballot, x3.Yes, x3.Best, x3.Acks, x3.Heard⟩ : VRecorder))).set x0_2.toNat ((⟨x4.Number, x4.Of, x4.Up, IntKind.i64.wrap ((IntKind.i64.wrap ((IntKind.i64.wrap (x0_1 + 1)) + 1)) + 1), x4.Safe_Known, x4.Safe_Slots, x4.Disk_Promise, x4.Disk_Known, x4.Disk_Slots, x4.Held, x4.Wishes, x4.Lead, x4.Trying, x4.Ballot, x4.Yes, x4.Best, x4.Acks, x4.Heard⟩ : VRecorder))).set x0_2.toNat ((⟨x5.Number, x5.Of, x5.Up, x5.Safe_Promise, IntKind.i64.wrap ((IntKind.i64.wrap ((IntKind.i64.wrap ((IntKind.i64.wrap (x0_1 + 1)) + 1)) + 1)) + 1), x5.Safe_Slots, x5.Disk_Promise, x5.Disk_Known, x5.Disk_Slots, x5.Held, x5.Wishes, x5.Lead, x5.Trying, x5.Ballot, x5.Yes, x5.Best, x5.Acks, x5.Heard⟩ : VRecorder)))[x0_2.toNat]? fun x7 => Option.bind (G83 x7.Safe_Slots (IntKind.i64.wrap ((IntKind.i64.wrap ((IntKind.i64.wrap ((IntKind.i64.wrap ((IntKind.i64.wrap (x0_1 + 1)) + 1)) + 1)) + 1)) + 1))) fun r8 =>
      Option.bind (((((x0_0.set x0_2.toNat (⟨x0_1, x1.Of, x1.Up, x1.Safe_Promise, x1.Safe_Known, x1.Safe_Slots, x1.Disk_Promise, x1.Disk_Known, x1.Disk_Slots, x1.Held, x1.Wishes, x1.Lead, x1.Trying, x1.Ballot, x1.Yes, x1.Best, x1.Acks, x1.Heard⟩ : VRecorder)).set x0_2.toNat ((⟨x2.Number, IntKind.i64.wrap (x0_1 + 1), x2.Up, x2.Safe_Promise, x2.Safe_Known, x2.Safe_Slots, x2.Disk_Promise, x2.Disk_Known, x2.Disk_Slots, x2.Held, x2.Wishes, x2.Lead, x2.Trying, x2.Ballot, x2.Yes, x2.Best, x2.Acks, x2.Heard⟩ : VRecorder))).set x0_2.toNat ((⟨x3.Number, x3.Of, ((IntKind.i64.wrap ((IntKind.i64.wrap (x0_1 + 1)) + 1)).tmod 3) == 0, x3.Safe_Promise, x3.Safe_Known, x3.Safe_Slots, x3.Disk_Promise, x3.Disk_Known, x3.Disk_Slots, x3.Held, x3.Wishes, x3.Lead, x3.Trying, x3.Ballot, x3.Yes, x3.Best, x3.Acks, x3.Heard⟩ : VRecorder))).set x0_2.toNat ((⟨x4.Number, x4.Of, x4.Up, IntKind.i64.wrap ((IntKind.i64.wrap ((IntKind.i64.wrap (x0_1 + 1)) + 1)) + 1), x4.Safe_Known, x4.Safe_Slots, x4.Disk_Promise, x4.Disk_Known, x4.Disk_Slots, x4.Held, x4.Wishes, x4.Lead, x4.Trying, x4.Ballot, x4.Yes, x4.Best, x4.Acks, x4.Heard⟩ : VRecorder))).set x0_2.toNat ((⟨x5.Number, x5.Of, x5.Up, x5.Safe_Promise, IntKind.i64.wrap ((IntKind.i64.wrap ((IntKind.i64.wrap ((IntKind.i64.wrap (x0_1 + 1)) + 1)) + 1)) + 1), x5.Safe_Slots, x5.Disk_Promise, x5.Disk_Known, x5.Disk_Slots, x5.Held, x5.Wishes, x5.Lead, x5.Trying, x5.Ballot, x5.Yes, x5.Best, x5.Acks, x5.Heard⟩ : VRecorder)))[x0_2.toNat]? fun x9 => cond (decide (0 ≤ x0_2)) (cond (decide (x0_2 < (((((((x0_0.set x0_2.toNat (⟨x0_1, x1.Of, x1.Up, x1.Safe_Promise, x1.Safe_Known, x1.Safe_Slots, x1.Disk_Promise, x1.Disk_Known, x1.Disk_Slots, x1.Held, x1.Wishes, x1.Lead, x1.Trying, x1.Ballot, x1.Yes, x1.Best, x1.Acks, x1.Heard⟩ : VRecorder)).set x0_2.toNat ((⟨x2.Number, IntKind.i64.wrap (x0_1 + 1), x2.Up, x2.Safe_Promise, x2.Safe_Known, x2.Safe_Slots, x2.Disk_Promise, x2.Disk_Known, x2.Disk_Slots, x2.Held, x2.Wishes, x2.Lead, x2.Trying, x2.Ballot, x2.Yes, x2.Best, x2.Acks, x2.Heard⟩ : VRecorder))).set x0_2.toNat ((⟨x3.Number, x3.Of, ((IntKind.i64.wrap ((IntKind.i64.wrap (x0_1 + 1)) + 1)).tmod 3) == 0, x3.Safe_Promise, x3.Safe_Known, x3.Safe_Slots, x3.Disk_Promise, x3.Disk_Known, x3.Disk_Slots, x3.Held, x3.Wishes, x3.Lead, x3.Trying, x3.Ballot, x3.Yes, x3.Best, x3.Acks, x3.Heard⟩ : VRecorder))).set x0_2.toNat ((⟨x4.Number, x4.Of, x4.Up, IntKind.i64.wrap ((IntKind.i64.wrap ((IntKind.i64.wrap (x0_1 + 1)) + 1)) + 1), x4.Safe_Known, x4.Safe_Slots, x4.Disk_Promise, x4.Disk_Known, x4.Disk_Slots, x4.Held, x4.Wishes, x4.Lead, x4.Trying, x4.Ballot, x4.Yes, x4.Best, x4.Acks, x4.Heard⟩ : VRecorder))).set x0_2.toNat ((⟨x5.Number, x5.Of, x5.Up, x5.Safe_Promise, IntKind.i64.wrap ((IntKind.i64.wrap ((IntKind.i64.wrap ((IntKind.i64.wrap (x0_1 + 1)) + 1)) + 1)) + 1), x5.Safe_Slots, x5.Disk_Promise, x5.Disk_Known, x5.Disk_Slots, x5.Held, x5.Wishes, x5.Lead, x5.Trying, x5.Ballot, x5.Yes, x5.Best, x5.Acks, x5.Heard⟩ : VRecorder))).set x0_2.toNat (⟨x9.Number, x9.Of, x9.Up, x9.Safe_Promise, x9.Safe_Known, r8.1, x9.Disk_Promise, x9.Disk_Known, x9.Disk_Slots, x9.Held, x9.Wishes, x9.Lead, x9.Trying, x9.Ballot, x9.Yes, x9.Best, x9.Acks, x9.Heard⟩ : VRecorder)).length : Int))) (Option.bind ((((((x0_0.set x0_2.toNat (⟨x0_1, x1.Of, x1.Up, x1.Safe_Promise, x1.Safe_Known, x1.Safe_Slots, x1.Disk_Promise, x1.Disk_Known, x1.Disk_Slots, x1.Held, x1.Wishes, x1.Lead, x1.Trying, x1.Ballot, x1.Yes, x1.Best, x1.Acks, x1.Heard⟩ : VRecorder)).set x0_2.toNat ((⟨x2.Number, IntKind.i64.wrap (x0_1 + 1), x2.Up, x2.Safe_Promise, x2.Safe_Known, x2.Safe_Slots, x2.Disk_Promise, x2.Disk_Known, x2.Disk_Slots, x2.Held, x2.Wishes, x2.Lead, x2.Trying, x2.Ballot, x2.Yes, x2.Best, x2.Acks, x2.Heard⟩ : VRecorder))).set x0_2.toNat ((⟨x3.Number, x3.Of, ((IntKind.i64.wrap ((IntKind.i64.wrap (x0_1 + 1)) + 1)).tmod 3) == 0, x3.Safe_Promise, x3.Safe_Known, x3.Safe_Slots, x3.Disk_Promise, x3.Disk_Known, x3.Disk_Slots, x3.Held, x3.Wishes, x3.Lead, x3.Trying, x3.Ballot, x3.Yes, x3.Best, x3.Acks, x3.Heard⟩ : VRecorder))).set x0_2.toNat ((⟨x4.Number, x4.Of, x4.Up, IntKind.i64.wrap ((IntKind.i64.wrap ((IntKind.i64.wrap (x0_1 + 1)) + 1)) + 1), x4.Safe_Known, x4.Safe_Slots, x4.Disk_Promise, x4.Disk_Known, x4.Disk_Slots, x4.Held, x4.Wishes, x4.Lead, x4.Trying, x4.Ballot, x4.Yes, x4.Best, x4.Acks, x4.Heard⟩ : VRecorder))).set x0_2.toNat ((⟨x5.Number, x5.Of, x5.Up, x5.Safe_Promise, IntKind.i64.wrap ((IntKind.i64.wrap ((IntKind.i64.wrap ((IntKind.i64.wrap (x0_1 + 1)) + 1)) + 1)) + 1), x5.Safe_Slots, x5.Disk_Promise, x5.Disk_Known, x5.Disk_Slots, x5.Held, x5.Wishes, x5.Lead, x5.Trying, x5.Ballot, x5.Yes, x5.Best, x5.Acks, x5.Heard⟩ : VRecorder))).set x0_2.toNat (⟨x9.Number, x9.Of, x9.Up, x9.Safe_Promise, x9.Safe_Known, r8.1, x9.Disk_Promise, x9.Disk_Known, x9.Disk_Slots, x9.Held, x9.Wishes, x9.Lead, x9.Trying, x9.Ballot, x9.Yes, x9.Best, x9.Acks, x9.Heard⟩ : VRecorder))[x0_2.toNat]? fun x10 => cond (decide (0 ≤ x0_2)) (cond (decide (x0_2 < ((((((((x0_0.set x0_2.toNat (⟨x0_1, x1.Of, x1.Up, x1.Safe_Promise, x1.Safe_Known, x1.Safe_Slots, x1.Disk_Promise, x1.Disk_Known, x1.Disk_Slots, x1.Held, x1.Wishes, x1.Lead, x1.Trying, x1.Ballot, x1.Yes, x1.Best, x1.Acks, x1.Heard⟩ : VRecorder)).set x0_2.toNat ((⟨x2.Number, IntKind.i64.wrap (x0_1 + 1), x2.Up, x2.Safe_Promise, x2.Safe_Known, x2.Safe_Slots, x2.Disk_Promise, x2.Disk_Known, x2.Disk_Slots, x2.Held, x2.Wishes, x2.Lead, x2.Trying, x2.Ballot, x2.Yes, x2.Best, x2.Acks, x2.Heard⟩ : VRecorder))).set x0_2.toNat ((⟨x3.Number, x3.Of, ((IntKind.i64.wrap ((IntKind.i64.wrap (x0_1 + 1)) + 1)).tmod 3) == 0, x3.Safe_Promise, x3.Safe_Known, x3.Safe_Slots, x3.Disk_Promise, x3.Disk_Known, x3.Disk_Slots, x3.Held, x3.Wishes, x3.Lead, x3.Trying, x3.Ballot, x3.Yes, x3.Best, x3.Acks, x3.Heard⟩ : VRecorder))).set x0_2.toNat ((⟨x4.Number, x4.Of, x4.Up, IntKind.i64.wrap ((IntKind.i64.wrap ((IntKind.i64.wrap (x0_1 + 1)) + 1)) + 1), x4.Safe_Known, x4.Safe_Slots, x4.Disk_Promise, x4.Disk_Known, x4.Disk_Slots, x4.Held, x4.Wishes, x4.Lead, x4.Trying, x4.Ballot, x4.Yes, x4.Best, x4.Acks, x4.Heard⟩ : VRecorder))).set x0_2.toNat ((⟨x5.Number, x5.Of, x5.Up, x5.Safe_Promise, IntKind.i64.wrap ((IntKind.i64.wrap ((IntKind.i64.wrap ((IntKind.i64.wrap (x0_1 + 1)) + 1)) + 1)) + 1), x5.Safe_Slots, x5.Disk_Promise, x5.Disk_Known, x5.Disk_Slots, x5.Held, x5.Wishes, x5.Lead, x5.Trying, x5.Ballot, x5.Yes, x5.Best, x5.Acks, x5.Heard⟩ : VRecorder))).set x0_2.toNat (⟨x9.Number, x9.Of, x9.Up, x9.Safe_Promise, x9.Safe_Known, r8.1, x9.Disk_Promise, x9.Disk_Known, x9.Disk_Slots, x9.Held, x9.Wishes, x9.Lead, x9.Trying, x9.Ballot, x9.Yes, x9.Best, x9.Acks, x9.Heard⟩ : VRecorder)).set x0_2.toNat (⟨x10.Number, x10.Of, x10.Up, x10.Safe_Promise, x10.Safe_Known, x10.Safe_Slots, r8.2, x10.Disk_Known, x10.Disk_Slots, x10.Held, x10.Wishes, x10.Lead, x10.Trying, x10.Ballot, x10.Yes, x10.Best, x10.Acks, x10.Heard⟩ : VRecorder)).length : Int))) (Option.bind (((((((x0_0.set x0_2.toNat (⟨x0_1, x1.Of, x1.Up, x1.Safe_Promise, x1.Safe_Known, x1.Safe_Slots, x1.Disk_Promise, x1.Disk_Known, x1.Disk_Slots, x1.Held, x1.Wishes, x1.Lead, x1.Trying, x1.Ballot, x1.Yes, x1.Best, x1.Acks, x1.Heard⟩ : VRecorder)).set x0_2.toNat ((⟨x2.Number, IntKind.i64.wrap (x0_1 + 1), x2.Up, x2.Safe_Promise, x2.Safe_Known, x2.Safe_Slots, x2.Disk_Promise, x2.Disk_Known, x2.Disk_Slots, x2.Held, x2.Wishes, x2.Lead, x2.Trying, x2.Ballot, x2.Yes, x2.Best, x2.Acks, x2.Heard⟩ : VRecorder))).set x0_2.toNat ((⟨x3.Number, x3.Of, ((IntKind.i64.wrap ((IntKind.i64.wrap (x0_1 + 1)) + 1)).tmod 3) == 0, x3.Safe_Promise, x3.Safe_Known, x3.Safe_Slots, x3.Disk_Promise, x3.Disk_Known, x3.Disk_Slots, x3.Held, x3.Wishes, x3.Lead, x3.Trying, x3.Ballot, x3.Yes, x3.Best, x3.Acks, x3.Heard⟩ : VRecorder))).set x0_2.toNat ((⟨x4.Number, x4.Of, x4.Up, IntKind.i64.wrap ((IntKind.i64.wrap ((IntKind.i64.wrap (x0_1 + 1)) + 1)) + 1), x4.Safe_Known, x4.Safe_Slots, x4.Disk_Promise, x4.Disk_Known, x4.Disk_Slots, x4.Held, x4.Wishes, x4.Lead, x4.Trying, x4.Ballot, x4.Yes, x4.Best, x4.Acks, x4.Heard⟩ : VRecorder))).set x0_2.toNat ((⟨x5.Number, x5.Of, x5.Up, x5.Safe_Promise, IntKind.i64.wrap ((IntKind.i64.wrap ((IntKind.i64.wrap ((IntKind.i64.wrap (x0_1 + 1)) + 1)) + 1)) + 1), x5.Safe_Slots, x5.Disk_Promise, x5.Disk_Known, x5.Disk_Slots, x5.Held, x5.Wishes, x5.Lead, x5.Trying, x5.Ballot, x5.Yes, x5.Best, x5.Acks, x5.Heard⟩ : VRecorder))).set x0_2.toNat (⟨x9.Number, x9.Of, x9.Up, x9.Safe_Promise, x9.Safe_Known, r8.1, x9.Disk_Promise, x9.Disk_Known, x9.Disk_Slots, x9.Held, x9.Wishes, x9.Lead, x9.Trying, x9.Ballot, x9.Yes, x9.Best, x9.Acks, x9.Heard⟩ : VRecorder)).set x0_2.toNat (⟨x10.Number, x10.Of, x10.Up, x10.Safe_Promise, x10.Safe_Known, x10.Safe_Slots, r8.2, x10.Disk_Known, x10.Disk_Slots, x10.Held, x10.Wishes, x10.Lead, x10.Trying, x10.Ballot, x10.Yes, x10.Best, x10.Acks, x10.Heard⟩ : VRecorder))[x0_2.toNat]? fun x11 => cond (decide (0 ≤ x0_2)) (cond (decide (x0_2 < (((((((((x0_0.set x0_2.toNat (⟨x0_1, x1.Of, x1.Up, x1.Safe_Promise, x1.Safe_Known, x1.Safe_Slots, x1.Disk_Promise, x1.Disk_Known, x1.Disk_Slots, x1.Held, x1.Wishes, x1.Lead, x1.Trying, x1.Ballot, x1.Yes, x1.Best, x1.Acks, x1.Heard⟩ : VRecorder)).set x0_2.toNat ((⟨x2.Number, IntKind.i64.wrap (x0_1 + 1), x2.Up, x2.Safe_Promise, x2.Safe_Known, x2.Safe_Slots, x2.Disk_Promise, x2.Disk_Known, x2.Disk_Slots, x2.Held, x2.Wishes, x2.Lead, x2.Trying, x2.Ballot, x2.Yes, x2.Best, x2.Acks, x2.Heard⟩ : VRecorder))).set x0_2.toNat ((⟨x3.Number, x3.Of, ((IntKind.i64.wrap ((IntKind.i64.wrap (x0_1 + 1)) + 1)).tmod 3) == 0, x3.Safe_Promise, x3.Safe_Known, x3.Safe_Slots, x3.Disk_Promise, x3.Disk_Known, x3.Disk_Slots, x3.Held, x3.Wishes, x3.Lead, x3.Trying, x3.Ballot, x3.Yes, x3.Best, x3.Acks, x3.Heard⟩ : VRecorder))).set x0_2.toNat ((⟨x4.Number, x4.Of, x4.Up, IntKind.i64.wrap ((IntKind.i64.wrap ((IntKind.i64.wrap (x0_1 + 1)) + 1)) + 1), x4.Safe_Known, x4.Safe_Slots, x4.Disk_Promise, x4.Disk_Known, x4.Disk_Slots, x4.Held, x4.Wishes, x4.Lead, x4.Trying, x4.Ballot, x4.Yes, x4.Best, x4.Acks, x4.Heard⟩ : VRecorder))).set x0_2.toNat ((⟨x5.Number, x5.Of, x5.Up, x5.Safe_Promise, IntKind.i64.wrap ((IntKind.i64.wrap ((IntKind.i64.wrap ((IntKind.i64.wrap (x0_1 + 1)) + 1)) + 1)) + 1), x5.Safe_Slots, x5.Disk_Promise, x5.Disk_Known, x5.Disk_Slots, x5.Held, x5.Wishes, x5.Lead, x5.Trying, x5.Ballot, x5.Yes, x5.Best, x5.Acks, x5.Heard⟩ : VRecorder))).set x0_2.toNat (⟨x9.Number, x9.Of, x9.Up, x9.Safe_Promise, x9.Safe_Known, r8.1, x9.Disk_Promise, x9.Disk_Known, x9.Disk_Slots, x9.Held, x9.Wishes, x9.Lead, x9.Trying, x9.Ballot, x9.Yes, x9.Best, x9.Acks, x9.Heard⟩ : VRecorder)).set x0_2.toNat (⟨x10.Number, x10.Of, x10.Up, x10.Safe_Promise, x10.Safe_Known, x10.Safe_Slots, r8.2, x10.Disk_Known, x10.Disk_Slots, x10.Held, x10.Wishes, x10.Lead, x10.Trying, x10.Ballot, x10.Yes, x10.Best, x10.Acks, x10.Heard⟩ : VRecorder)).set x0_2.toNat ((⟨x11.Number, x11.Of, x11.Up, x11.Safe_Promise, x11.Safe_Known, x11.Safe_Slots, x11.Disk_Promise, IntKind.i64.wrap (r8.2 + 1), x11.Disk_Slots, x11.Held, x11.Wishes, x11.Lead, x11.Trying, x11.Ballot, x11.Yes, x11.Best, x11.Acks, x11.Heard⟩ : VRecorder))).length : Int))) (Option.bind ((((((((x0_0.set x0_2.toNat (⟨x0_1, x1.Of, x1.Up, x1.Safe_Promise, x1.Safe_Known, x1.Safe_Slots, x1.Disk_Promise, x1.Disk_Known, x1.Disk_Slots, x1.Held, x1.Wishes, x1.Lead, x1.Trying, x1.Ballot, x1.Yes, x1.Best, x1.Acks, x1.Heard⟩ : VRecorder)).set x0_2.toNat ((⟨x2.Number, IntKind.i64.wrap (x0_1 + 1), x2.Up, x2.Safe_Promise, x2.Safe_Known, x2.Safe_Slots, x2.Disk_Promise, x2.Disk_Known, x2.Disk_Slots, x2.Held, x2.Wishes, x2.Lead, x2.Trying, x2.Ballot, x2.Yes, x2.Best, x2.Acks, x2.Heard⟩ : VRecorder))).set x0_2.toNat ((⟨x3.Number, x3.Of, ((IntKind.i64.wrap ((IntKind.i64.wrap (x0_1 + 1)) + 1)).tmod 3) == 0, x3.Safe_Promise, x3.Safe_Known, x3.Safe_Slots, x3.Disk_Promise, x3.Disk_Known, x3.Disk_Slots, x3.Held, x3.Wishes, x3.Lead, x3.Trying, x3.Ballot, x3.Yes, x3.Best, x3.Acks, x3.Heard⟩ : VRecorder))).set x0_2.toNat ((⟨x4.Number, x4.Of, x4.Up, IntKind.i64.wrap ((IntKind.i64.wrap ((IntKind.i64.wrap (x0_1 + 1)) + 1)) + 1), x4.Safe_Known, x4.Safe_Slots, x4.Disk_Promise, x4.Disk_Known, x4.Disk_Slots, x4.Held, x4.Wishes, x4.Lead, x4.Trying, x4.Ballot, x4.Yes, x4.Best, x4.Acks, x4.Heard⟩ : VRecorder))).set x0_2.toNat ((⟨x5.Number, x5.Of, x5.Up, x5.Safe_Promise, IntKind.i64.wrap ((IntKind.i64.wrap ((IntKind.i64.wrap ((IntKind.i64.wrap (x0_1 + 1)) + 1)) + 1)) + 1), x5.Safe_Slots, x5.Disk_Promise, x5.Disk_Known, x5.Disk_Slots, x5.Held, x5.Wishes, x5.Lead, x5.Trying, x5.Ballot, x5.Yes, x5.Best, x5.Acks, x5.Heard⟩ : VRecorder))).set x0_2.toNat (⟨x9.Number, x9.Of, x9.Up, x9.Safe_Promise, x9.Safe_Known, r8.1, x9.Disk_Promise, x9.Disk_Known, x9.Disk_Slots, x9.Held, x9.Wishes, x9.Lead, x9.Trying, x9.Ballot, x9.Yes, x9.Best, x9.Acks, x9.Heard⟩ : VRecorder)).set x0_2.toNat (⟨x10.Number, x10.Of, x10.Up, x10.Safe_Promise, x10.Safe_Known, x10.Safe_Slots, r8.2, x10.Disk_Known, x10.Disk_Slots, x10.Held, x10.Wishes, x10.Lead, x10.Trying, x10.Ballot, x10.Yes, x10.Best, x10.Acks, x10.Heard⟩ : VRecorder)).set x0_2.toNat ((⟨x11.Number, x11.Of, x11.Up, x11.Safe_Promise, x11.Safe_Known, x11.Safe_Slots, x11.Disk_Promise, IntKind.i64.wrap (r8.2 + 1), x11.Disk_Slots, x11.Held, x11.Wishes, x11.Lead, x11.Trying, x11.Ballot, x11.Yes, x11.Best, x11.Acks, x11.Heard⟩ : VRecorder)))[x0_2.toNat]? fun x12 => Option.bind ((((((((x0_0.set x0_2.toNat (⟨x0_1, x1.Of, x1.Up, x1.Safe_Promise, x1.Safe_Known, x1.Safe_Slots, x1.Disk_Promise, x1.Disk_Known, x1.Disk_Slots, x1.Held, x1.Wishes, x1.Lead, x1.Trying, x1.Ballot, x1.Yes, x1.Best, x1.Acks, x1.Heard⟩ : VRecorder)).set x0_2.toNat ((⟨x2.Number, IntKind.i64.wrap (x0_1 + 1), x2.Up, x2.Safe_Promise, x2.Safe_Known, x2.Safe_Slots, x2.Disk_Promise, x2.Disk_Known, x2.Disk_Slots, x2.Held, x2.Wishes, x2.Lead, x2.Trying, x2.Ballot, x2.Yes, x2.Best, x2.Acks, x2.Heard⟩ : VRecorder))).set x0_2.toNat ((⟨x3.Number, x3.Of, ((IntKind.i64.wrap ((IntKind.i64.wrap (x0_1 + 1)) + 1)).tmod 3) == 0, x3.Safe_Promise, x3.Safe_Known, x3.Safe_Slots, x3.Disk_Promise, x3.Disk_Known, x3.Disk_Slots, x3.Held, x3.Wishes, x3.Lead, x3.Trying, x3.Ballot, x3.Yes, x3.Best, x3.Acks, x3.Heard⟩ : VRecorder))).set x0_2.toNat ((⟨x4.Number, x4.Of, x4.Up, IntKind.i64.wrap ((IntKind.i64.wrap ((IntKind.i64.wrap (x0_1 + 1)) + 1)) + 1), x4.Safe_Known, x4.Safe_Slots, x4.Disk_Promise, x4.Disk_Known, x4.Disk_Slots, x4.Held, x4.Wishes, x4.Lead, x4.Trying, x4.Ballot, x4.Yes, x4.Best, x4.Acks, x4.Heard⟩ : VRecorder))).set x0_2.toNat ((⟨x5.Number, x5.Of, x5.Up, x5.Safe_Promise, IntKind.i64.wrap ((IntKind.i64.wrap ((IntKind.i64.wrap ((IntKind.i64.wrap (x0_1 + 1)) + 1)) + 1)) + 1), x5.Safe_Slots, x5.Disk_Promise, x5.Disk_Known, x5.Disk_Slots, x5.Held, x5.Wishes, x5.Lead, x5.Trying, x5.Ballot, x5.Yes, x5.Best, x5.Acks, x5.Heard⟩ : VRecorder))).set x0_2.toNat (⟨x9.Number, x9.Of, x9.Up, x9.Safe_Promise, x9.Safe_Known, r8.1, x9.Disk_Promise, x9.Disk_Known, x9.Disk_Slots, x9.Held, x9.Wishes, x9.Lead, x9.Trying, x9.Ballot, x9.Yes, x9.Best, x9.Acks, x9.Heard⟩ : VRecorder)).set x0_2.toNat (⟨x10.Number, x10.Of, x10.Up, x10.Safe_Promise, x10.Safe_Known, x10.Safe_Slots, r8.2, x10.Disk_Known, x10.Disk_Slots, x10.Held, x10.Wishes, x10.Lead, x10.Trying, x10.Ballot, x10.Yes, x10.Best, x10.Acks, x10.Heard⟩ : VRecorder)).set x0_2.toNat ((⟨x11.Number, x11.Of, x11.Up, x11.Safe_Promise, x11.Safe_Known, x11.Safe_Slots, x11.Disk_Promise, IntKind.i64.wrap (r8.2 + 1), x11.Disk_Slots, x11.Held, x11.Wishes, x11.Lead, x11.Trying, x11.Ballot, x11.Yes, x11.Best, x11.Acks, x11.Heard⟩ : VRecorder)))[x0_2.toNat]? fun x13 => Option.bind (G83 x13.Disk_Slots (IntKind.i64.wrap ((IntKind.i64.wrap (r8.2 + 1)) + 1))) fun r14 =>
      Option.bind ((((((((x0_0.set x0_2.toNat (⟨x0_1, x1.Of, x1.Up, x1.Safe_Promise, x1.Safe_Known, x1.Safe_Slots, x1.Disk_Promise, x1.Disk_Known, x1.Disk_Slots, x1.Held, x1.Wishes, x1.Lead, x1.Trying, x1.Ballot, x1.Yes, x1.Best, x1.Acks, x1.Heard⟩ : VRecorder)).set x0_2.toNat ((⟨x2.Number, IntKind.i64.wrap (x0_1 + 1), x2.Up, x2.Safe_Promise, x2.Safe_Known, x2.Safe_Slots, x2.Disk_Promise, x2.Disk_Known, x2.Disk_Slots, x2.Held, x2.Wishes, x2.Lead, x2.Trying, x2.Ballot, x2.Yes, x2.Best, x2.Acks, x2.Heard⟩ : VRecorder))).set x0_2.toNat ((⟨x3.Number, x3.Of, ((IntKind.i64.wrap ((IntKind.i64.wrap (x0_1 + 1)) + 1)).tmod 3) == 0, x3.Safe_Promise, x3.Safe_Known, x3.Safe_Slots, x3.Disk_Promise, x3.Disk_Known, x3.Disk_Slots, x3.Held, x3.Wishes, x3.Lead, x3.Trying, x3.Ballot, x3.Yes, x3.Best, x3.Acks, x3.Heard⟩ : VRecorder))).set x0_2.toNat ((⟨x4.Number, x4.Of, x4.Up, IntKind.i64.wrap ((IntKind.i64.wrap ((IntKind.i64.wrap (x0_1 + 1)) + 1)) + 1), x4.Safe_Known, x4.Safe_Slots, x4.Disk_Promise, x4.Disk_Known, x4.Disk_Slots, x4.Held, x4.Wishes, x4.Lead, x4.Trying, x4.Ballot, x4.Yes, x4.Best, x4.Acks, x4.Heard⟩ : VRecorder))).set x0_2.toNat ((⟨x5.Number, x5.Of, x5.Up, x5.Safe_Promise, IntKind.i64.wrap ((IntKind.i64.wrap ((IntKind.i64.wrap ((IntKind.i64.wrap (x0_1 + 1)) + 1)) + 1)) + 1), x5.Safe_Slots, x5.Disk_Promise, x5.Disk_Known, x5.Disk_Slots, x5.Held, x5.Wishes, x5.Lead, x5.Trying, x5.Ballot, x5.Yes, x5.Best, x5.Acks, x5.Heard⟩ : VRecorder))).set x0_2.toNat (⟨x9.Number, x9.Of, x9.Up, x9.Safe_Promise, x9.Safe_Known, r8.1, x9.Disk_Promise, x9.Disk_Known, x9.Disk_Slots, x9.Held, x9.Wishes, x9.Lead, x9.Trying, x9.Ballot, x9.Yes, x9.Best, x9.Acks, x9.Heard⟩ : VRecorder)).set x0_2.toNat (⟨x10.Number, x10.Of, x10.Up, x10.Safe_Promise, x10.Safe_Known, x10.Safe_Slots, r8.2, x10.Disk_Known, x10.Disk_Slots, x10.Held, x10.Wishes, x10.Lead, x10.Trying, x10.Ballot, x10.Yes, x10.Best, x10.Acks, x10.Heard⟩ : VRecorder)).set x0_2.toNat ((⟨x11.Number, x11.Of, x11.Up, x11.Safe_Promise, x11.Safe_Known, x11.Safe_Slots, x11.Disk_Promise, IntKind.i64.wrap (r8.2 + 1), x11.Disk_Slots, x11.Held, x11.Wishes, x11.Lead, x11.Trying, x11.Ballot, x11.Yes, x11.Best, x11.Acks, x11.Heard⟩ : VRecorder)))[x0_2.toNat]? fun x15 => cond (decide (0 ≤ x0_2)) (cond (decide (x0_2 < ((((((((((x0_0.set x0_2.toNat (⟨x0_1, x1.Of, x1.Up, x1.Safe_Promise, x1.Safe_Known, x1.Safe_Slots, x1.Disk_Promise, x1.Disk_Known, x1.Disk_Slots, x1.Held, x1.Wishes, x1.Lead, x1.Trying, x1.Ballot, x1.Yes, x1.Best, x1.Acks, x1.Heard⟩ : VRecorder)).set x0_2.toNat ((⟨x2.Number, IntKind.i64.wrap (x0_1 + 1), x2.Up, x2.Safe_Promise, x2.Safe_Known, x2.Safe_Slots, x2.Disk_Promise, x2.Disk_Known, x2.Disk_Slots, x2.Held, x2.Wishes, x2.Lead, x2.Trying, x2.Ballot, x2.Yes, x2.Best, x2.Acks, x2.Heard⟩ : VRecorder))).set x0_2.toNat ((⟨x3.Number, x3.Of, ((IntKind.i64.wrap ((IntKind.i64.wrap (x0_1 + 1)) + 1)).tmod 3) == 0, x3.Safe_Promise, x3.Safe_Known, x3.Safe_Slots, x3.Disk_Promise, x3.Disk_Known, x3.Disk_Slots, x3.Held, x3.Wishes, x3.Lead, x3.Trying, x3.Ballot, x3.Yes, x3.Best, x3.Acks, x3.Heard⟩ : VRecorder))).set x0_2.toNat ((⟨x4.Number, x4.Of, x4.Up, IntKind.i64.wrap ((IntKind.i64.wrap ((IntKind.i64.wrap (x0_1 + 1)) + 1)) + 1), x4.Safe_Known, x4.Safe_Slots, x4.Disk_Promise, x4.Disk_Known, x4.Disk_Slots, x4.Held, x4.Wishes, x4.Lead, x4.Trying, x4.Ballot, x4.Yes, x4.Best, x4.Acks, x4.Heard⟩ : VRecorder))).set x0_2.toNat ((⟨x5.Number, x5.Of, x5.Up, x5.Safe_Promise, IntKind.i64.wrap ((IntKind.i64.wrap ((IntKind.i64.wrap ((IntKind.i64.wrap (x0_1 + 1)) + 1)) + 1)) + 1), x5.Safe_Slots, x5.Disk_Promise, x5.Disk_Known, x5.Disk_Slots, x5.Held, x5.Wishes, x5.Lead, x5.Trying, x5.Ballot, x5.Yes, x5.Best, x5.Acks, x5.Heard⟩ : VRecorder))).set x0_2.toNat (⟨x9.Number, x9.Of, x9.Up, x9.Safe_Promise, x9.Safe_Known, r8.1, x9.Disk_Promise, x9.Disk_Known, x9.Disk_Slots, x9.Held, x9.Wishes, x9.Lead, x9.Trying, x9.Ballot, x9.Yes, x9.Best, x9.Acks, x9.Heard⟩ : VRecorder)).set x0_2.toNat (⟨x10.Number, x10.Of, x10.Up, x10.Safe_Promise, x10.Safe_Known, x10.Safe_Slots, r8.2, x10.Disk_Known, x10.Disk_Slots, x10.Held, x10.Wishes, x10.Lead, x10.Trying, x10.Ballot, x10.Yes, x10.Best, x10.Acks, x10.Heard⟩ : VRecorder)).set x0_2.toNat ((⟨x11.Number, x11.Of, x11.Up, x11.Safe_Promise, x11.Safe_Known, x11.Safe_Slots, x11.Disk_Promise, IntKind.i64.wrap (r8.2 + 1), x11.Disk_Slots, x11.Held, x11.Wishes, x11.Lead, x11.Trying, x11.Ballot, x11.Yes, x11.Best, x11.Acks, x11.Heard⟩ : VRecorder))).set x0_2.toNat (⟨x15.Number, x15.Of, x15.Up, x15.Safe_Promise, x15.Safe_Known, x15.Safe_Slots, x15.Disk_Promise, x15.Disk_Known, r14.1, x15.Held, x15.Wishes, x15.Lead, x15.Trying, x15.Ballot, x15.Yes, x15.Best, x15.Acks, x15.Heard⟩ : VRecorder)).length : Int))) (Option.bind (((((((((x0_0.set x0_2.toNat (⟨x0_1, x1.Of, x1.Up, x1.Safe_Promise, x1.Safe_Known, x1.Safe_Slots, x1.Disk_Promise, x1.Disk_Known, x1.Disk_Slots, x1.Held, x1.Wishes, x1.Lead, x1.Trying, x1.Ballot, x1.Yes, x1.Best, x1.Acks, x1.Heard⟩ : VRecorder)).set x0_2.toNat ((⟨x2.Number, IntKind.i64.wrap (x0_1 + 1), x2.Up, x2.Safe_Promise, x2.Safe_Known, x2.Safe_Slots, x2.Disk_Promise, x2.Disk_Known, x2.Disk_Slots, x2.Held, x2.Wishes, x2.Lead, x2.Trying, x2.Ballot, x2.Yes, x2.Best, x2.Acks, x2.Heard⟩ : VRecorder))).set x0_2.toNat ((⟨x3.Number, x3.Of, ((IntKind.i64.wrap ((IntKind.i64.wrap (x0_1 + 1)) + 1)).tmod 3) == 0, x3.Safe_Promise, x3.Safe_Known, x3.Safe_Slots, x3.Disk_Promise, x3.Disk_Known, x3.Disk_Slots, x3.Held, x3.Wishes, x3.Lead, x3.Trying, x3.Ballot, x3.Yes, x3.Best, x3.Acks, x3.Heard⟩ : VRecorder))).set x0_2.toNat ((⟨x4.Number, x4.Of, x4.Up, IntKind.i64.wrap ((IntKind.i64.wrap ((IntKind.i64.wrap (x0_1 + 1)) + 1)) + 1), x4.Safe_Known, x4.Safe_Slots, x4.Disk_Promise, x4.Disk_Known, x4.Disk_Slots, x4.Held, x4.Wishes, x4.Lead, x4.Trying, x4.Ballot, x4.Yes, x4.Best, x4.Acks, x4.Heard⟩ : VRecorder))).set x0_2.toNat ((⟨x5.Number, x5.Of, x5.Up, x5.Safe_Promise, IntKind.i64.wrap ((IntKind.i64.wrap ((IntKind.i64.wrap ((IntKind.i64.wrap (x0_1 + 1)) + 1)) + 1)) + 1), x5.Safe_Slots, x5.Disk_Promise, x5.Disk_Known, x5.Disk_Slots, x5.Held, x5.Wishes, x5.Lead, x5.Trying, x5.Ballot, x5.Yes, x5.Best, x5.Acks, x5.Heard⟩ : VRecorder))).set x0_2.toNat (⟨x9.Number, x9.Of, x9.Up, x9.Safe_Promise, x9.Safe_Known, r8.1, x9.Disk_Promise, x9.Disk_Known, x9.Disk_Slots, x9.Held, x9.Wishes, x9.Lead, x9.Trying, x9.Ballot, x9.Yes, x9.Best, x9.Acks, x9.Heard⟩ : VRecorder)).set x0_2.toNat (⟨x10.Number, x10.Of, x10.Up, x10.Safe_Promise, x10.Safe_Known, x10.Safe_Slots, r8.2, x10.Disk_Known, x10.Disk_Slots, x10.Held, x10.Wishes, x10.Lead, x10.Trying, x10.Ballot, x10.Yes, x10.Best, x10.Acks, x10.Heard⟩ : VRecorder)).set x0_2.toNat ((⟨x11.Number, x11.Of, x11.Up, x11.Safe_Promise, x11.Safe_Known, x11.Safe_Slots, x11.Disk_Promise, IntKind.i64.wrap (r8.2 + 1), x11.Disk_Slots, x11.Held, x11.Wishes, x11.Lead, x11.Trying, x11.Ballot, x11.Yes, x11.Best, x11.Acks, x11.Heard⟩ : VRecorder))).set x0_2.toNat (⟨x15.Number, x15.Of, x15.Up, x15.Safe_Promise, x15.Safe_Known, x15.Safe_Slots, x15.Disk_Promise, x15.Disk_Known, r14.1, x15.Held, x15.Wishes, x15.Lead, x15.Trying, x15.Ballot, x15.Yes, x15.Best, x15.Acks, x15.Heard⟩ : VRecorder))[x0_2.toNat]? fun x16 => Option.bind (((((((((x0_0.set x0_2.toNat (⟨x0_1, x1.Of, x1.Up, x1.Safe_Promise, x1.Safe_Known, x1.Safe_Slots, x1.Disk_Promise, x1.Disk_Known, x1.Disk_Slots, x1.Held, x1.Wishes, x1.Lead, x1.Trying, x1.Ballot, x1.Yes, x1.Best, x1.Acks, x1.Heard⟩ : VRecorder)).set x0_2.toNat ((⟨x2.Number, IntKind.i64.wrap (x0_1 + 1), x2.Up, x2.Safe_Promise, x2.Safe_Known, x2.Safe_Slots, x2.Disk_Promise, x2.Disk_Known, x2.Disk_Slots, x2.Held, x2.Wishes, x2.Lead, x2.Trying, x2.Ballot, x2.Yes, x2.Best, x2.Acks, x2.Heard⟩ : VRecorder))).set x0_2.toNat ((⟨x3.Number, x3.Of, ((IntKind.i64.wrap ((IntKind.i64.wrap (x0_1 + 1)) + 1)).tmod 3) == 0, x3.Safe_Promise, x3.Safe_Known, x3.Safe_Slots, x3.Disk_Promise, x3.Disk_Known, x3.Disk_Slots, x3.Held, x3.Wishes, x3.Lead, x3.Trying, x3.Ballot, x3.Yes, x3.Best, x3.Acks, x3.Heard⟩ : VRecorder))).set x0_2.toNat ((⟨x4.Number, x4.Of, x4.Up, IntKind.i64.wrap ((IntKind.i64.wrap ((IntKind.i64.wrap (x0_1 + 1)) + 1)) + 1), x4.Safe_Known, x4.Safe_Slots, x4.Disk_Promise, x4.Disk_Known, x4.Disk_Slots, x4.Held, x4.Wishes, x4.Lead, x4.Trying, x4.Ballot, x4.Yes, x4.Best, x4.Acks, x4.Heard⟩ : VRecorder))).set x0_2.toNat ((⟨x5.Number, x5.Of, x5.Up, x5.Safe_Promise, IntKind.i64.wrap ((IntKind.i64.wrap ((IntKind.i64.wrap ((IntKind.i64.wrap (x0_1 + 1)) + 1)) + 1)) + 1), x5.Safe_Slots, x5.Disk_Promise, x5.Disk_Known, x5.Disk_Slots, x5.Held, x5.Wishes, x5.Lead, x5.Trying, x5.Ballot, x5.Yes, x5.Best, x5.Acks, x5.Heard⟩ : VRecorder))).set x0_2.toNat (⟨x9.Number, x9.Of, x9.Up, x9.Safe_Promise, x9.Safe_Known, r8.1, x9.Disk_Promise, x9.Disk_Known, x9.Disk_Slots, x9.Held, x9.Wishes, x9.Lead, x9.Trying, x9.Ballot, x9.Yes, x9.Best, x9.Acks, x9.Heard⟩ : VRecorder)).set x0_2.toNat (⟨x10.Number, x10.Of, x10.Up, x10.Safe_Promise, x10.Safe_Known, x10.Safe_Slots, r8.2, x10.Disk_Known, x10.Disk_Slots, x10.Held, x10.Wishes, x10.Lead, x10.Trying, x10.Ballot, x10.Yes, x10.Best, x10.Acks, x10.Heard⟩ : VRecorder)).set x0_2.toNat ((⟨x11.Number, x11.Of, x11.Up, x11.Safe_Promise, x11.Safe_Known, x11.Safe_Slots, x11.Disk_Promise, IntKind.i64.wrap (r8.2 + 1), x11.Disk_Slots, x11.Held, x11.Wishes, x11.Lead, x11.Trying, x11.Ballot, x11.Yes, x11.Best, x11.Acks, x11.Heard⟩ : VRecorder))).set x0_2.toNat (⟨x15.Number, x15.Of, x15.Up, x15.Safe_Promise, x15.Safe_Known, x15.Safe_Slots, x15.Disk_Promise, x15.Disk_Known, r14.1, x15.Held, x15.Wishes, x15.Lead, x15.Trying, x15.Ballot, x15.Yes, x15.Best, x15.Acks, x15.Heard⟩ : VRecorder))[x0_2.toNat]? fun x17 => Option.bind (G61 x17.Held r14.2) fun r18 =>
      Option.bind (((((((((x0_0.set x0_2.toNat (⟨x0_1, x1.Of, x1.Up, x1.Safe_Promise, x1.Safe_Known, x1.Safe_Slots, x1.Disk_Promise, x1.Disk_Known, x1.Disk_Slots, x1.Held, x1.Wishes, x1.Lead, x1.Trying, x1.Ballot, x1.Yes, x1.Best, x1.Acks, x1.Heard⟩ : VRecorder)).set x0_2.toNat ((⟨x2.Number, IntKind.i64.wrap (x0_1 + 1), x2.Up, x2.Safe_Promise, x2.Safe_Known, x2.Safe_Slots, x2.Disk_Promise, x2.Disk_Known, x2.Disk_Slots, x2.Held, x2.Wishes, x2.Lead, x2.Trying, x2.Ballot, x2.Yes, x2.Best, x2.Acks, x2.Heard⟩ : VRecorder))).set x0_2.toNat ((⟨x3.Number, x3.Of, ((IntKind.i64.wrap ((IntKind.i64.wrap (x0_1 + 1)) + 1)).tmod 3) == 0, x3.Safe_Promise, x3.Safe_Known, x3.Safe_Slots, x3.Disk_Promise, x3.Disk_Known, x3.Disk_Slots, x3.Held, x3.Wishes, x3.Lead, x3.Trying, x3.Ballot, x3.Yes, x3.Best, x3.Acks, x3.Heard⟩ : VRecorder))).set x0_2.toNat ((⟨x4.Number, x4.Of, x4.Up, IntKind.i64.wrap ((IntKind.i64.wrap ((IntKind.i64.wrap (x0_1 + 1)) + 1)) + 1), x4.Safe_Known, x4.Safe_Slots, x4.Disk_Promise, x4.Disk_Known, x4.Disk_Slots, x4.Held, x4.Wishes, x4.Lead, x4.Trying, x4.Ballot, x4.Yes, x4.Best, x4.Acks, x4.Heard⟩ : VRecorder))).set x0_2.toNat ((⟨x5.Number, x5.Of, x5.Up, x5.Safe_Promise, IntKind.i64.wrap ((IntKind.i64.wrap ((IntKind.i64.wrap ((IntKind.i64.wrap (x0_1 + 1)) + 1)) + 1)) + 1), x5.Safe_Slots, x5.Disk_Promise, x5.Disk_Known, x5.Disk_Slots, x5.Held, x5.Wishes, x5.Lead, x5.Trying, x5.Ballot, x5.Yes, x5.Best, x5.Acks, x5.Heard⟩ : VRecorder))).set x0_2.toNat (⟨x9.Number, x9.Of, x9.Up, x9.Safe_Promise, x9.Safe_Known, r8.1, x9.Disk_Promise, x9.Disk_Known, x9.Disk_Slots, x9.Held, x9.Wishes, x9.Lead, x9.Trying, x9.Ballot, x9.Yes, x9.Best, x9.Acks, x9.Heard⟩ : VRecorder)).set x0_2.toNat (⟨x10.Number, x10.Of, x10.Up, x10.Safe_Promise, x10.Safe_Known, x10.Safe_Slots, r8.2, x10.Disk_Known, x10.Disk_Slots, x10.Held, x10.Wishes, x10.Lead, x10.Trying, x10.Ballot, x10.Yes, x10.Best, x10.Acks, x10.Heard⟩ : VRecorder)).set x0_2.toNat ((⟨x11.Number, x11.Of, x11.Up, x11.Safe_Promise, x11.Safe_Known, x11.Safe_Slots, x11.Disk_Promise, IntKind.i64.wrap (r8.2 + 1), x11.Disk_Slots, x11.Held, x11.Wishes, x11.Lead, x11.Trying, x11.Ballot, x11.Yes, x11.Best, x11.Acks, x11.Heard⟩ : VRecorder))).set x0_2.toNat (⟨x15.Number, x15.Of, x15.Up, x15.Safe_Promise, x15.Safe_Known, x15.Safe_Slots, x15.Disk_Promise, x15.Disk_Known, r14.1, x15.Held, x15.Wishes, x15.Lead, x15.Trying, x15.Ballot, x15.Yes, x15.Best, x15.Acks, x15.Heard⟩ : VRecorder))[x0_2.toNat]? fun x19 => cond (decide (0 ≤ x0_2)) (cond (decide (x0_2 < (((((((((((x0_0.set x0_2.toNat (⟨x0_1, x1.Of, x1.Up, x1.Safe_Promise, x1.Safe_Known, x1.Safe_Slots, x1.Disk_Promise, x1.Disk_Known, x1.Disk_Slots, x1.Held, x1.Wishes, x1.Lead, x1.Trying, x1.Ballot, x1.Yes, x1.Best, x1.Acks, x1.Heard⟩ : VRecorder)).set x0_2.toNat ((⟨x2.Number, IntKind.i64.wrap (x0_1 + 1), x2.Up, x2.Safe_Promise, x2.Safe_Known, x2.Safe_Slots, x2.Disk_Promise, x2.Disk_Known, x2.Disk_Slots, x2.Held, x2.Wishes, x2.Lead, x2.Trying, x2.Ballot, x2.Yes, x2.Best, x2.Acks, x2.Heard⟩ : VRecorder))).set x0_2.toNat ((⟨x3.Number, x3.Of, ((IntKind.i64.wrap ((IntKind.i64.wrap (x0_1 + 1)) + 1)).tmod 3) == 0, x3.Safe_Promise, x3.Safe_Known, x3.Safe_Slots, x3.Disk_Promise, x3.Disk_Known, x3.Disk_Slots, x3.Held, x3.Wishes, x3.Lead, x3.Trying, x3.Ballot, x3.Yes, x3.Best, x3.Acks, x3.Heard⟩ : VRecorder))).set x0_2.toNat ((⟨x4.Number, x4.Of, x4.Up, IntKind.i64.wrap ((IntKind.i64.wrap ((IntKind.i64.wrap (x0_1 + 1)) + 1)) + 1), x4.Safe_Known, x4.Safe_Slots, x4.Disk_Promise, x4.Disk_Known, x4.Disk_Slots, x4.Held, x4.Wishes, x4.Lead, x4.Trying, x4.Ballot, x4.Yes, x4.Best, x4.Acks, x4.Heard⟩ : VRecorder))).set x0_2.toNat ((⟨x5.Number, x5.Of, x5.Up, x5.Safe_Promise, IntKind.i64.wrap ((IntKind.i64.wrap ((IntKind.i64.wrap ((IntKind.i64.wrap (x0_1 + 1)) + 1)) + 1)) + 1), x5.Safe_Slots, x5.Disk_Promise, x5.Disk_Known, x5.Disk_Slots, x5.Held, x5.Wishes, x5.Lead, x5.Trying, x5.Ballot, x5.Yes, x5.Best, x5.Acks, x5.Heard⟩ : VRecorder))).set x0_2.toNat (⟨x9.Number, x9.Of, x9.Up, x9.Safe_Promise, x9.Safe_Known, r8.1, x9.Disk_Promise, x9.Disk_Known, x9.Disk_Slots, x9.Held, x9.Wishes, x9.Lead, x9.Trying, x9.Ballot, x9.Yes, x9.Best, x9.Acks, x9.Heard⟩ : VRecorder)).set x0_2.toNat (⟨x10.Number, x10.Of, x10.Up, x10.Safe_Promise, x10.Safe_Known, x10.Safe_Slots, r8.2, x10.Disk_Known, x10.Disk_Slots, x10.Held, x10.Wishes, x10.Lead, x10.Trying, x10.Ballot, x10.Yes, x10.Best, x10.Acks, x10.Heard⟩ : VRecorder)).set x0_2.toNat ((⟨x11.Number, x11.Of, x11.Up, x11.Safe_Promise, x11.Safe_Known, x11.Safe_Slots, x11.Disk_Promise, IntKind.i64.wrap (r8.2 + 1), x11.Disk_Slots, x11.Held, x11.Wishes, x11.Lead, x11.Trying, x11.Ballot, x11.Yes, x11.Best, x11.Acks, x11.Heard⟩ : VRecorder))).set x0_2.toNat (⟨x15.Number, x15.Of, x15.Up, x15.Safe_Promise, x15.Safe_Known, x15.Safe_Slots, x15.Disk_Promise, x15.Disk_Known, r14.1, x15.Held, x15.Wishes, x15.Lead, x15.Trying, x15.Ballot, x15.Yes, x15.Best, x15.Acks, x15.Heard⟩ : VRecorder)).set x0_2.toNat (⟨x19.Number, x19.Of, x19.Up, x19.Safe_Promise, x19.Safe_Known, x19.Safe_Slots, x19.Disk_Promise, x19.Disk_Known, x19.Disk_Slots, r18.1, x19.Wishes, x19.Lead, x19.Trying, x19.Ballot, x19.Yes, x19.Best, x19.Acks, x19.Heard⟩ : VRecorder)).length : Int))) (Option.bind ((((((((((x0_0.set x0_2.toNat (⟨x0_1, x1.Of, x1.Up, x1.Safe_Promise, x1.Safe_Known, x1.Safe_Slots, x1.Disk_Promise, x1.Disk_Known, x1.Disk_Slots, x1.Held, x1.Wishes, x1.Lead, x1.Trying, x1.Ballot, x1.Yes, x1.Best, x1.Acks, x1.Heard⟩ : VRecorder)).set x0_2.toNat ((⟨x2.Number, IntKind.i64.wrap (x0_1 + 1), x2.Up, x2.Safe_Promise, x2.Safe_Known, x2.Safe_Slots, x2.Disk_Promise, x2.Disk_Known, x2.Disk_Slots, x2.Held, x2.Wishes, x2.Lead, x2.Trying, x2.Ballot, x2.Yes, x2.Best, x2.Acks, x2.Heard⟩ : VRecorder))).set x0_2.toNat ((⟨x3.Number, x3.Of, ((IntKind.i64.wrap ((IntKind.i64.wrap (x0_1 + 1)) + 1)).tmod 3) == 0, x3.Safe_Promise, x3.Safe_Known, x3.Safe_Slots, x3.Disk_Promise, x3.Disk_Known, x3.Disk_Slots, x3.Held, x3.Wishes, x3.Lead, x3.Trying, x3.Ballot, x3.Yes, x3.Best, x3.Acks, x3.Heard⟩ : VRecorder))).set x0_2.toNat ((⟨x4.Number, x4.Of, x4.Up, IntKind.i64.wrap ((IntKind.i64.wrap ((IntKind.i64.wrap (x0_1 + 1)) + 1)) + 1), x4.Safe_Known, x4.Safe_Slots, x4.Disk_Promise, x4.Disk_Known, x4.Disk_Slots, x4.Held, x4.Wishes, x4.Lead, x4.Trying, x4.Ballot, x4.Yes, x4.Best, x4.Acks, x4.Heard⟩ : VRecorder))).set x0_2.toNat ((⟨x5.Number, x5.Of, x5.Up, x5.Safe_Promise, IntKind.i64.wrap ((IntKind.i64.wrap ((IntKind.i64.wrap ((IntKind.i64.wrap (x0_1 + 1)) + 1)) + 1)) + 1), x5.Safe_Slots, x5.Disk_Promise, x5.Disk_Known, x5.Disk_Slots, x5.Held, x5.Wishes, x5.Lead, x5.Trying, x5.Ballot, x5.Yes, x5.Best, x5.Acks, x5.Heard⟩ : VRecorder))).set x0_2.toNat (⟨x9.Number, x9.Of, x9.Up, x9.Safe_Promise, x9.Safe_Known, r8.1, x9.Disk_Promise, x9.Disk_Known, x9.Disk_Slots, x9.Held, x9.Wishes, x9.Lead, x9.Trying, x9.Ballot, x9.Yes, x9.Best, x9.Acks, x9.Heard⟩ : VRecorder)).set x0_2.toNat (⟨x10.Number, x10.Of, x10.Up, x10.Safe_Promise, x10.Safe_Known, x10.Safe_Slots, r8.2, x10.Disk_Known, x10.Disk_Slots, x10.Held, x10.Wishes, x10.Lead, x10.Trying, x10.Ballot, x10.Yes, x10.Best, x10.Acks, x10.Heard⟩ : VRecorder)).set x0_2.toNat ((⟨x11.Number, x11.Of, x11.Up, x11.Safe_Promise, x11.Safe_Known, x11.Safe_Slots, x11.Disk_Promise, IntKind.i64.wrap (r8.2 + 1), x11.Disk_Slots, x11.Held, x11.Wishes, x11.Lead, x11.Trying, x11.Ballot, x11.Yes, x11.Best, x11.Acks, x11.Heard⟩ : VRecorder))).set x0_2.toNat (⟨x15.Number, x15.Of, x15.Up, x15.Safe_Promise, x15.Safe_Known, x15.Safe_Slots, x15.Disk_Promise, x15.Disk_Known, r14.1, x15.Held, x15.Wishes, x15.Lead, x15.Trying, x15.Ballot, x15.Yes, x15.Best, x15.Acks, x15.Heard⟩ : VRecorder)).set x0_2.toNat (⟨x19.Number, x19.Of, x19.Up, x19.Safe_Promise, x19.Safe_Known, x19.Safe_Slots, x19.Disk_Promise, x19.Disk_Known, x19.Disk_Slots, r18.1, x19.Wishes, x19.Lead, x19.Trying, x19.Ballot, x19.Yes, x19.Best, x19.Acks, x19.Heard⟩ : VRecorder))[x0_2.toNat]? fun x20 => Option.bind ((((((((((x0_0.set x0_2.toNat (⟨x0_1, x1.Of, x1.Up, x1.Safe_Promise, x1.Safe_Known, x1.Safe_Slots, x1.Disk_Promise, x1.Disk_Known, x1.Disk_Slots, x1.Held, x1.Wishes, x1.Lead, x1.Trying, x1.Ballot, x1.Yes, x1.Best, x1.Acks, x1.Heard⟩ : VRecorder)).set x0_2.toNat ((⟨x2.Number, IntKind.i64.wrap (x0_1 + 1), x2.Up, x2.Safe_Promise, x2.Safe_Known, x2.Safe_Slots, x2.Disk_Promise, x2.Disk_Known, x2.Disk_Slots, x2.Held, x2.Wishes, x2.Lead, x2.Trying, x2.Ballot, x2.Yes, x2.Best, x2.Acks, x2.Heard⟩ : VRecorder))).set x0_2.toNat ((⟨x3.Number, x3.Of, ((IntKind.i64.wrap ((IntKind.i64.wrap (x0_1 + 1)) + 1)).tmod 3) == 0, x3.Safe_Promise, x3.Safe_Known, x3.Safe_Slots, x3.Disk_Promise, x3.Disk_Known, x3.Disk_Slots, x3.Held, x3.Wishes, x3.Lead, x3.Trying, x3.Ballot, x3.Yes, x3.Best, x3.Acks, x3.Heard⟩ : VRecorder))).set x0_2.toNat ((⟨x4.Number, x4.Of, x4.Up, IntKind.i64.wrap ((IntKind.i64.wrap ((IntKind.i64.wrap (x0_1 + 1)) + 1)) + 1), x4.Safe_Known, x4.Safe_Slots, x4.Disk_Promise, x4.Disk_Known, x4.Disk_Slots, x4.Held, x4.Wishes, x4.Lead, x4.Trying, x4.Ballot, x4.Yes, x4.Best, x4.Acks, x4.Heard⟩ : VRecorder))).set x0_2.toNat ((⟨x5.Number, x5.Of, x5.Up, x5.Safe_Promise, IntKind.i64.wrap ((IntKind.i64.wrap ((IntKind.i64.wrap ((IntKind.i64.wrap (x0_1 + 1)) + 1)) + 1)) + 1), x5.Safe_Slots, x5.Disk_Promise, x5.Disk_Known, x5.Disk_Slots, x5.Held, x5.Wishes, x5.Lead, x5.Trying, x5.Ballot, x5.Yes, x5.Best, x5.Acks, x5.Heard⟩ : VRecorder))).set x0_2.toNat (⟨x9.Number, x9.Of, x9.Up, x9.Safe_Promise, x9.Safe_Known, r8.1, x9.Disk_Promise, x9.Disk_Known, x9.Disk_Slots, x9.Held, x9.Wishes, x9.Lead, x9.Trying, x9.Ballot, x9.Yes, x9.Best, x9.Acks, x9.Heard⟩ : VRecorder)).set x0_2.toNat (⟨x10.Number, x10.Of, x10.Up, x10.Safe_Promise, x10.Safe_Known, x10.Safe_Slots, r8.2, x10.Disk_Known, x10.Disk_Slots, x10.Held, x10.Wishes, x10.Lead, x10.Trying, x10.Ballot, x10.Yes, x10.Best, x10.Acks, x10.Heard⟩ : VRecorder)).set x0_2.toNat ((⟨x11.Number, x11.Of, x11.Up, x11.Safe_Promise, x11.Safe_Known, x11.Safe_Slots, x11.Disk_Promise, IntKind.i64.wrap (r8.2 + 1), x11.Disk_Slots, x11.Held, x11.Wishes, x11.Lead, x11.Trying, x11.Ballot, x11.Yes, x11.Best, x11.Acks, x11.Heard⟩ : VRecorder))).set x0_2.toNat (⟨x15.Number, x15.Of, x15.Up, x15.Safe_Promise, x15.Safe_Known, x15.Safe_Slots, x15.Disk_Promise, x15.Disk_Known, r14.1, x15.Held, x15.Wishes, x15.Lead, x15.Trying, x15.Ballot, x15.Yes, x15.Best, x15.Acks, x15.Heard⟩ : VRecorder)).set x0_2.toNat (⟨x19.Number, x19.Of, x19.Up, x19.Safe_Promise, x19.Safe_Known, x19.Safe_Slots, x19.Disk_Promise, x19.Disk_Known, x19.Disk_Slots, r18.1, x19.Wishes, x19.Lead, x19.Trying, x19.Ballot, x19.Yes, x19.Best, x19.Acks, x19.Heard⟩ : VRecorder))[x0_2.toNat]? fun x21 => Option.bind (G84 x21.Wishes r18.2) fun r22 =>
      Option.bind ((((((((((x0_0.set x0_2.toNat (⟨x0_1, x1.Of, x1.Up, x1.Safe_Promise, x1.Safe_Known, x1.Safe_Slots, x1.Disk_Promise, x1.Disk_Known, x1.Disk_Slots, x1.Held, x1.Wishes, x1.Lead, x1.Trying, x1.Ballot, x1.Yes, x1.Best, x1.Acks, x1.Heard⟩ : VRecorder)).set x0_2.toNat ((⟨x2.Number, IntKind.i64.wrap (x0_1 + 1), x2.Up, x2.Safe_Promise, x2.Safe_Known, x2.Safe_Slots, x2.Disk_Promise, x2.Disk_Known, x2.Disk_Slots, x2.Held, x2.Wishes, x2.Lead, x2.Trying, x2.Ballot, x2.Yes, x2.Best, x2.Acks, x2.Heard⟩ : VRecorder))).set x0_2.toNat ((⟨x3.Number, x3.Of, ((IntKind.i64.wrap ((IntKind.i64.wrap (x0_1 + 1)) + 1)).tmod 3) == 0, x3.Safe_Promise, x3.Safe_Known, x3.Safe_Slots, x3.Disk_Promise, x3.Disk_Known, x3.Disk_Slots, x3.Held, x3.Wishes, x3.Lead, x3.Trying, x3.Ballot, x3.Yes, x3.Best, x3.Acks, x3.Heard⟩ : VRecorder))).set x0_2.toNat ((⟨x4.Number, x4.Of, x4.Up, IntKind.i64.wrap ((IntKind.i64.wrap ((IntKind.i64.wrap (x0_1 + 1)) + 1)) + 1), x4.Safe_Known, x4.Safe_Slots, x4.Disk_Promise, x4.Disk_Known, x4.Disk_Slots, x4.Held, x4.Wishes, x4.Lead, x4.Trying, x4.Ballot, x4.Yes, x4.Best, x4.Acks, x4.Heard⟩ : VRecorder))).set x0_2.toNat ((⟨x5.Number, x5.Of, x5.Up, x5.Safe_Promise, IntKind.i64.wrap ((IntKind.i64.wrap ((IntKind.i64.wrap ((IntKind.i64.wrap (x0_1 + 1)) + 1)) + 1)) + 1), x5.Safe_Slots, x5.Disk_Promise, x5.Disk_Known, x5.Disk_Slots, x5.Held, x5.Wishes, x5.Lead, x5.Trying, x5.Ballot, x5.Yes, x5.Best, x5.Acks, x5.Heard⟩ : VRecorder))).set x0_2.toNat (⟨x9.Number, x9.Of, x9.Up, x9.Safe_Promise, x9.Safe_Known, r8.1, x9.Disk_Promise, x9.Disk_Known, x9.Disk_Slots, x9.Held, x9.Wishes, x9.Lead, x9.Trying, x9.Ballot, x9.Yes, x9.Best, x9.Acks, x9.Heard⟩ : VRecorder)).set x0_2.toNat (⟨x10.Number, x10.Of, x10.Up, x10.Safe_Promise, x10.Safe_Known, x10.Safe_Slots, r8.2, x10.Disk_Known, x10.Disk_Slots, x10.Held, x10.Wishes, x10.Lead, x10.Trying, x10.Ballot, x10.Yes, x10.Best, x10.Acks, x10.Heard⟩ : VRecorder)).set x0_2.toNat ((⟨x11.Number, x11.Of, x11.Up, x11.Safe_Promise, x11.Safe_Known, x11.Safe_Slots, x11.Disk_Promise, IntKind.i64.wrap (r8.2 + 1), x11.Disk_Slots, x11.Held, x11.Wishes, x11.Lead, x11.Trying, x11.Ballot, x11.Yes, x11.Best, x11.Acks, x11.Heard⟩ : VRecorder))).set x0_2.toNat (⟨x15.Number, x15.Of, x15.Up, x15.Safe_Promise, x15.Safe_Known, x15.Safe_Slots, x15.Disk_Promise, x15.Disk_Known, r14.1, x15.Held, x15.Wishes, x15.Lead, x15.Trying, x15.Ballot, x15.Yes, x15.Best, x15.Acks, x15.Heard⟩ : VRecorder)).set x0_2.toNat (⟨x19.Number, x19.Of, x19.Up, x19.Safe_Promise, x19.Safe_Known, x19.Safe_Slots, x19.Disk_Promise, x19.Disk_Known, x19.Disk_Slots, r18.1, x19.Wishes, x19.Lead, x19.Trying, x19.Ballot, x19.Yes, x19.Best, x19.Acks, x19.Heard⟩ : VRecorder))[x0_2.toNat]? fun x23 => cond (decide (3 = 0)) none (cond (decide (0 ≤ x0_2)) (cond (decide (x0_2 < ((((((((((((x0_0.set x0_2.toNat (⟨x0_1, x1.Of, x1.Up, x1.Safe_Promise, x1.Safe_Known, x1.Safe_Slots, x1.Disk_Promise, x1.Disk_Known, x1.Disk_Slots, x1.Held, x1.Wishes, x1.Lead, x1.Trying, x1.Ballot, x1.Yes, x1.Best, x1.Acks, x1.Heard⟩ : VRecorder)).set x0_2.toNat ((⟨x2.Number, IntKind.i64.wrap (x0_1 + 1), x2.Up, x2.Safe_Promise, x2.Safe_Known, x2.Safe_Slots, x2.Disk_Promise, x2.Disk_Known, x2.Disk_Slots, x2.Held, x2.Wishes, x2.Lead, x2.Trying, x2.Ballot, x2.Yes, x2.Best, x2.Acks, x2.Heard⟩ : VRecorder))).set x0_2.toNat ((⟨x3.Number, x3.Of, ((IntKind.i64.wrap ((IntKind.i64.wrap (x0_1 + 1)) + 1)).tmod 3) == 0, x3.Safe_Promise, x3.Safe_Known, x3.Safe_Slots, x3.Disk_Promise, x3.Disk_Known, x3.Disk_Slots, x3.Held, x3.Wishes, x3.Lead, x3.Trying, x3.Ballot, x3.Yes, x3.Best, x3.Acks, x3.Heard⟩ : VRecorder))).set x0_2.toNat ((⟨x4.Number, x4.Of, x4.Up, IntKind.i64.wrap ((IntKind.i64.wrap ((IntKind.i64.wrap (x0_1 + 1)) + 1)) + 1), x4.Safe_Known, x4.Safe_Slots, x4.Disk_Promise, x4.Disk_Known, x4.Disk_Slots, x4.Held, x4.Wishes, x4.Lead, x4.Trying, x4.Ballot, x4.Yes, x4.Best, x4.Acks, x4.Heard⟩ : VRecorder))).set x0_2.toNat ((⟨x5.Number, x5.Of, x5.Up, x5.Safe_Promise, IntKind.i64.wrap ((IntKind.i64.wrap ((IntKind.i64.wrap ((IntKind.i64.wrap (x0_1 + 1)) + 1)) + 1)) + 1), x5.Safe_Slots, x5.Disk_Promise, x5.Disk_Known, x5.Disk_Slots, x5.Held, x5.Wishes, x5.Lead, x5.Trying, x5.Ballot, x5.Yes, x5.Best, x5.Acks, x5.Heard⟩ : VRecorder))).set x0_2.toNat (⟨x9.Number, x9.Of, x9.Up, x9.Safe_Promise, x9.Safe_Known, r8.1, x9.Disk_Promise, x9.Disk_Known, x9.Disk_Slots, x9.Held, x9.Wishes, x9.Lead, x9.Trying, x9.Ballot, x9.Yes, x9.Best, x9.Acks, x9.Heard⟩ : VRecorder)).set x0_2.toNat (⟨x10.Number, x10.Of, x10.Up, x10.Safe_Promise, x10.Safe_Known, x10.Safe_Slots, r8.2, x10.Disk_Known, x10.Disk_Slots, x10.Held, x10.Wishes, x10.Lead, x10.Trying, x10.Ballot, x10.Yes, x10.Best, x10.Acks, x10.Heard⟩ : VRecorder)).set x0_2.toNat ((⟨x11.Number, x11.Of, x11.Up, x11.Safe_Promise, x11.Safe_Known, x11.Safe_Slots, x11.Disk_Promise, IntKind.i64.wrap (r8.2 + 1), x11.Disk_Slots, x11.Held, x11.Wishes, x11.Lead, x11.Trying, x11.Ballot, x11.Yes, x11.Best, x11.Acks, x11.Heard⟩ : VRecorder))).set x0_2.toNat (⟨x15.Number, x15.Of, x15.Up, x15.Safe_Promise, x15.Safe_Known, x15.Safe_Slots, x15.Disk_Promise, x15.Disk_Known, r14.1, x15.Held, x15.Wishes, x15.Lead, x15.Trying, x15.Ballot, x15.Yes, x15.Best, x15.Acks, x15.Heard⟩ : VRecorder)).set x0_2.toNat (⟨x19.Number, x19.Of, x19.Up, x19.Safe_Promise, x19.Safe_Known, x19.Safe_Slots, x19.Disk_Promise, x19.Disk_Known, x19.Disk_Slots, r18.1, x19.Wishes, x19.Lead, x19.Trying, x19.Ballot, x19.Yes, x19.Best, x19.Acks, x19.Heard⟩ : VRecorder)).set x0_2.toNat (⟨x23.Number, x23.Of, x23.Up, x23.Safe_Promise, x23.Safe_Known, x23.Safe_Slots, x23.Disk_Promise, x23.Disk_Known, x23.Disk_Slots, x23.Held, r22.1, x23.Lead, x23.Trying, x23.Ballot, x23.Yes, x23.Best, x23.Acks, x23.Heard⟩ : VRecorder)).length : Int))) (Option.bind (((((((((((x0_0.set x0_2.toNat (⟨x0_1, x1.Of, x1.Up, x1.Safe_Promise, x1.Safe_Known, x1.Safe_Slots, x1.Disk_Promise, x1.Disk_Known, x1.Disk_Slots, x1.Held, x1.Wishes, x1.Lead, x1.Trying, x1.Ballot, x1.Yes, x1.Best, x1.Acks, x1.Heard⟩ : VRecorder)).set x0_2.toNat ((⟨x2.Number, IntKind.i64.wrap (x0_1 + 1), x2.Up, x2.Safe_Promise, x2.Safe_Known, x2.Safe_Slots, x2.Disk_Promise, x2.Disk_Known, x2.Disk_Slots, x2.Held, x2.Wishes, x2.Lead, x2.Trying, x2.Ballot, x2.Yes, x2.Best, x2.Acks, x2.Heard⟩ : VRecorder))).set x0_2.toNat ((⟨x3.Number, x3.Of, ((IntKind.i64.wrap ((IntKind.i64.wrap (x0_1 + 1)) + 1)).tmod 3) == 0, x3.Safe_Promise, x3.Safe_Known, x3.Safe_Slots, x3.Disk_Promise, x3.Disk_Known, x3.Disk_Slots, x3.Held, x3.Wishes, x3.Lead, x3.Trying, x3.Ballot, x3.Yes, x3.Best, x3.Acks, x3.Heard⟩ : VRecorder))).set x0_2.toNat ((⟨x4.Number, x4.Of, x4.Up, IntKind.i64.wrap ((IntKind.i64.wrap ((IntKind.i64.wrap (x0_1 + 1)) + 1)) + 1), x4.Safe_Known, x4.Safe_Slots, x4.Disk_Promise, x4.Disk_Known, x4.Disk_Slots, x4.Held, x4.Wishes, x4.Lead, x4.Trying, x4.Ballot, x4.Yes, x4.Best, x4.Acks, x4.Heard⟩ : VRecorder))).set x0_2.toNat ((⟨x5.Number, x5.Of, x5.Up, x5.Safe_Promise, IntKind.i64.wrap ((IntKind.i64.wrap ((IntKind.i64.wrap ((IntKind.i64.wrap (x0_1 + 1)) + 1)) + 1)) + 1), x5.Safe_Slots, x5.Disk_Promise, x5.Disk_Known, x5.Disk_Slots, x5.Held, x5.Wishes, x5.Lead, x5.Trying, x5.Ballot, x5.Yes, x5.Best, x5.Acks, x5.Heard⟩ : VRecorder))).set x0_2.toNat (⟨x9.Number, x9.Of, x9.Up, x9.Safe_Promise, x9.Safe_Known, r8.1, x9.Disk_Promise, x9.Disk_Known, x9.Disk_Slots, x9.Held, x9.Wishes, x9.Lead, x9.Trying, x9.Ballot, x9.Yes, x9.Best, x9.Acks, x9.Heard⟩ : VRecorder)).set x0_2.toNat (⟨x10.Number, x10.Of, x10.Up, x10.Safe_Promise, x10.Safe_Known, x10.Safe_Slots, r8.2, x10.Disk_Known, x10.Disk_Slots, x10.Held, x10.Wishes, x10.Lead, x10.Trying, x10.Ballot, x10.Yes, x10.Best, x10.Acks, x10.Heard⟩ : VRecorder)).set x0_2.toNat ((⟨x11.Number, x11.Of, x11.Up, x11.Safe_Promise, x11.Safe_Known, x11.Safe_Slots, x11.Disk_Promise, IntKind.i64.wrap (r8.2 + 1), x11.Disk_Slots, x11.Held, x11.Wishes, x11.Lead, x11.Trying, x11.Ballot, x11.Yes, x11.Best, x11.Acks, x11.Heard⟩ : VRecorder))).set x0_2.toNat (⟨x15.Number, x15.Of, x15.Up, x15.Safe_Promise, x15.Safe_Known, x15.Safe_Slots, x15.Disk_Promise, x15.Disk_Known, r14.1, x15.Held, x15.Wishes, x15.Lead, x15.Trying, x15.Ballot, x15.Yes, x15.Best, x15.Acks, x15.Heard⟩ : VRecorder)).set x0_2.toNat (⟨x19.Number, x19.Of, x19.Up, x19.Safe_Promise, x19.Safe_Known, x19.Safe_Slots, x19.Disk_Promise, x19.Disk_Known, x19.Disk_Slots, r18.1, x19.Wishes, x19.Lead, x19.Trying, x19.Ballot, x19.Yes, x19.Best, x19.Acks, x19.Heard⟩ : VRecorder)).set x0_2.toNat (⟨x23.Number, x23.Of, x23.Up, x23.Safe_Promise, x23.Safe_Known, x23.Safe_Slots, x23.Disk_Promise, x23.Disk_Known, x23.Disk_Slots, x23.Held, r22.1, x23.Lead, x23.Trying, x23.Ballot, x23.Yes, x23.Best, x23.Acks, x23.Heard⟩ : VRecorder))[x0_2.toNat]? fun x24 => cond (decide (3 = 0)) none (cond (decide (0 ≤ x0_2)) (cond (decide (x0_2 < (((((((((((((x0_0.set x0_2.toNat (⟨x0_1, x1.Of, x1.Up, x1.Safe_Promise, x1.Safe_Known, x1.Safe_Slots, x1.Disk_Promise, x1.Disk_Known, x1.Disk_Slots, x1.Held, x1.Wishes, x1.Lead, x1.Trying, x1.Ballot, x1.Yes, x1.Best, x1.Acks, x1.Heard⟩ : VRecorder)).set x0_2.toNat ((⟨x2.Number, IntKind.i64.wrap (x0_1 + 1), x2.Up, x2.Safe_Promise, x2.Safe_Known, x2.Safe_Slots, x2.Disk_Promise, x2.Disk_Known, x2.Disk_Slots, x2.Held, x2.Wishes, x2.Lead, x2.Trying, x2.Ballot, x2.Yes, x2.Best, x2.Acks, x2.Heard⟩ : VRecorder))).set x0_2.toNat ((⟨x3.Number, x3.Of, ((IntKind.i64.wrap ((IntKind.i64.wrap (x0_1 + 1)) + 1)).tmod 3) == 0, x3.Safe_Promise, x3.Safe_Known, x3.Safe_Slots, x3.Disk_Promise, x3.Disk_Known, x3.Disk_Slots, x3.Held, x3.Wishes, x3.Lead, x3.Trying, x3.Ballot, x3.Yes, x3.Best, x3.Acks, x3.Heard⟩ : VRecorder))).set x0_2.toNat ((⟨x4.Number, x4.Of, x4.Up, IntKind.i64.wrap ((IntKind.i64.wrap ((IntKind.i64.wrap (x0_1 + 1)) + 1)) + 1), x4.Safe_Known, x4.Safe_Slots, x4.Disk_Promise, x4.Disk_Known, x4.Disk_Slots, x4.Held, x4.Wishes, x4.Lead, x4.Trying, x4.Ballot, x4.Yes, x4.Best, x4.Acks, x4.Heard⟩ : VRecorder))).set x0_2.toNat ((⟨x5.Number, x5.Of, x5.Up, x5.Safe_Promise, IntKind.i64.wrap ((IntKind.i64.wrap ((IntKind.i64.wrap ((IntKind.i64.wrap (x0_1 + 1)) + 1)) + 1)) + 1), x5.Safe_Slots, x5.Disk_Promise, x5.Disk_Known, x5.Disk_Slots, x5.Held, x5.Wishes, x5.Lead, x5.Trying, x5.Ballot, x5.Yes, x5.Best, x5.Acks, x5.Heard⟩ : VRecorder))).set x0_2.toNat (⟨x9.Number, x9.Of, x9.Up, x9.Safe_Promise, x9.Safe_Known, r8.1, x9.Disk_Promise, x9.Disk_Known, x9.Disk_Slots, x9.Held, x9.Wishes, x9.Lead, x9.Trying, x9.Ballot, x9.Yes, x9.Best, x9.Acks, x9.Heard⟩ : VRecorder)).set x0_2.toNat (⟨x10.Number, x10.Of, x10.Up, x10.Safe_Promise, x10.Safe_Known, x10.Safe_Slots, r8.2, x10.Disk_Known, x10.Disk_Slots, x10.Held, x10.Wishes, x10.Lead, x10.Trying, x10.Ballot, x10.Yes, x10.Best, x10.Acks, x10.Heard⟩ : VRecorder)).set x0_2.toNat ((⟨x11.Number, x11.Of, x11.Up, x11.Safe_Promise, x11.Safe_Known, x11.Safe_Slots, x11.Disk_Promise, IntKind.i64.wrap (r8.2 + 1), x11.Disk_Slots, x11.Held, x11.Wishes, x11.Lead, x11.Trying, x11.Ballot, x11.Yes, x11.Best, x11.Acks, x11.Heard⟩ : VRecorder))).set x0_2.toNat (⟨x15.Number, x15.Of, x15.Up, x15.Safe_Promise, x15.Safe_Known, x15.Safe_Slots, x15.Disk_Promise, x15.Disk_Known, r14.1, x15.Held, x15.Wishes, x15.Lead, x15.Trying, x15.Ballot, x15.Yes, x15.Best, x15.Acks, x15.Heard⟩ : VRecorder)).set x0_2.toNat (⟨x19.Number, x19.Of, x19.Up, x19.Safe_Promise, x19.Safe_Known, x19.Safe_Slots, x19.Disk_Promise, x19.Disk_Known, x19.Disk_Slots, r18.1, x19.Wishes, x19.Lead, x19.Trying, x19.Ballot, x19.Yes, x19.Best, x19.Acks, x19.Heard⟩ : VRecorder)).set x0_2.toNat (⟨x23.Number, x23.Of, x23.Up, x23.Safe_Promise, x23.Safe_Known, x23.Safe_Slots, x23.Disk_Promise, x23.Disk_Known, x23.Disk_Slots, x23.Held, r22.1, x23.Lead, x23.Trying, x23.Ballot, x23.Yes, x23.Best, x23.Acks, x23.Heard⟩ : VRecorder)).set x0_2.toNat ((⟨x24.Number, x24.Of, x24.Up, x24.Safe_Promise, x24.Safe_Known, x24.Safe_Slots, x24.Disk_Promise, x24.Disk_Known, x24.Disk_Slots, x24.Held, x24.Wishes, (r22.2.tmod 3) == 0, x24.Trying, x24.Ballot, x24.Yes, x24.Best, x24.Acks, x24.Heard⟩ : VRecorder))).length : Int))) (Option.bind ((((((((((((x0_0.set x0_2.toNat (⟨x0_1, x1.Of, x1.Up, x1.Safe_Promise, x1.Safe_Known, x1.Safe_Slots, x1.Disk_Promise, x1.Disk_Known, x1.Disk_Slots, x1.Held, x1.Wishes, x1.Lead, x1.Trying, x1.Ballot, x1.Yes, x1.Best, x1.Acks, x1.Heard⟩ : VRecorder)).set x0_2.toNat ((⟨x2.Number, IntKind.i64.wrap (x0_1 + 1), x2.Up, x2.Safe_Promise, x2.Safe_Known, x2.Safe_Slots, x2.Disk_Promise, x2.Disk_Known, x2.Disk_Slots, x2.Held, x2.Wishes, x2.Lead, x2.Trying, x2.Ballot, x2.Yes, x2.Best, x2.Acks, x2.Heard⟩ : VRecorder))).set x0_2.toNat ((⟨x3.Number, x3.Of, ((IntKind.i64.wrap ((IntKind.i64.wrap (x0_1 + 1)) + 1)).tmod 3) == 0, x3.Safe_Promise, x3.Safe_Known, x3.Safe_Slots, x3.Disk_Promise, x3.Disk_Known, x3.Disk_Slots, x3.Held, x3.Wishes, x3.Lead, x3.Trying, x3.Ballot, x3.Yes, x3.Best, x3.Acks, x3.Heard⟩ : VRecorder))).set x0_2.toNat ((⟨x4.Number, x4.Of, x4.Up, IntKind.i64.wrap ((IntKind.i64.wrap ((IntKind.i64.wrap (x0_1 + 1)) + 1)) + 1), x4.Safe_Known, x4.Safe_Slots, x4.Disk_Promise, x4.Disk_Known, x4.Disk_Slots, x4.Held, x4.Wishes, x4.Lead, x4.Trying, x4.Ballot, x4.Yes, x4.Best, x4.Acks, x4.Heard⟩ : VRecorder))).set x0_2.toNat ((⟨x5.Number, x5.Of, x5.Up, x5.Safe_Promise, IntKind.i64.wrap ((IntKind.i64.wrap ((IntKind.i64.wrap ((IntKind.i64.wrap (x0_1 + 1)) + 1)) + 1)) + 1), x5.Safe_Slots, x5.Disk_Promise, x5.Disk_Known, x5.Disk_Slots, x5.Held, x5.Wishes, x5.Lead, x5.Trying, x5.Ballot, x5.Yes, x5.Best, x5.Acks, x5.Heard⟩ : VRecorder))).set x0_2.toNat (⟨x9.Number, x9.Of, x9.Up, x9.Safe_Promise, x9.Safe_Known, r8.1, x9.Disk_Promise, x9.Disk_Known, x9.Disk_Slots, x9.Held, x9.Wishes, x9.Lead, x9.Trying, x9.Ballot, x9.Yes, x9.Best, x9.Acks, x9.Heard⟩ : VRecorder)).set x0_2.toNat (⟨x10.Number, x10.Of, x10.Up, x10.Safe_Promise, x10.Safe_Known, x10.Safe_Slots, r8.2, x10.Disk_Known, x10.Disk_Slots, x10.Held, x10.Wishes, x10.Lead, x10.Trying, x10.Ballot, x10.Yes, x10.Best, x10.Acks, x10.Heard⟩ : VRecorder)).set x0_2.toNat ((⟨x11.Number, x11.Of, x11.Up, x11.Safe_Promise, x11.Safe_Known, x11.Safe_Slots, x11.Disk_Promise, IntKind.i64.wrap (r8.2 + 1), x11.Disk_Slots, x11.Held, x11.Wishes, x11.Lead, x11.Trying, x11.Ballot, x11.Yes, x11.Best, x11.Acks, x11.Heard⟩ : VRecorder))).set x0_2.toNat (⟨x15.Number, x15.Of, x15.Up, x15.Safe_Promise, x15.Safe_Known, x15.Safe_Slots, x15.Disk_Promise, x15.Disk_Known, r14.1, x15.Held, x15.Wishes, x15.Lead, x15.Trying, x15.Ballot, x15.Yes, x15.Best, x15.Acks, x15.Heard⟩ : VRecorder)).set x0_2.toNat (⟨x19.Number, x19.Of, x19.Up, x19.Safe_Promise, x19.Safe_Known, x19.Safe_Slots, x19.Disk_Promise, x19.Disk_Known, x19.Disk_Slots, r18.1, x19.Wishes, x19.Lead, x19.Trying, x19.Ballot, x19.Yes, x19.Best, x19.Acks, x19.Heard⟩ : VRecorder)).set x0_2.toNat (⟨x23.Number, x23.Of, x23.Up, x23.Safe_Promise, x23.Safe_Known, x23.Safe_Slots, x23.Disk_Promise, x23.Disk_Known, x23.Disk_Slots, x23.Held, r22.1, x23.Lead, x23.Trying, x23.Ballot, x23.Yes, x23.Best, x23.Acks, x23.Heard⟩ : VRecorder)).set x0_2.toNat ((⟨x24.Number, x24.Of, x24.Up, x24.Safe_Promise, x24.Safe_Known, x24.Safe_Slots, x24.Disk_Promise, x24.Disk_Known, x24.Disk_Slots, x24.Held, x24.Wishes, (r22.2.tmod 3) == 0, x24.Trying, x24.Ballot, x24.Yes, x24.Best, x24.Acks, x24.Heard⟩ : VRecorder)))[x0_2.toNat]? fun x25 => cond (decide (0 ≤ x0_2)) (cond (decide (x0_2 < ((((((((((((((x0_0.set x0_2.toNat (⟨x0_1, x1.Of, x1.Up, x1.Safe_Promise, x1.Safe_Known, x1.Safe_Slots, x1.Disk_Promise, x1.Disk_Known, x1.Disk_Slots, x1.Held, x1.Wishes, x1.Lead, x1.Trying, x1.Ballot, x1.Yes, x1.Best, x1.Acks, x1.Heard⟩ : VRecorder)).set x0_2.toNat ((⟨x2.Number, IntKind.i64.wrap (x0_1 + 1), x2.Up, x2.Safe_Promise, x2.Safe_Known, x2.Safe_Slots, x2.Disk_Promise, x2.Disk_Known, x2.Disk_Slots, x2.Held, x2.Wishes, x2.Lead, x2.Trying, x2.Ballot, x2.Yes, x2.Best, x2.Acks, x2.Heard⟩ : VRecorder))).set x0_2.toNat ((⟨x3.Number, x3.Of, ((IntKind.i64.wrap ((IntKind.i64.wrap (x0_1 + 1)) + 1)).tmod 3) == 0, x3.Safe_Promise, x3.Safe_Known, x3.Safe_Slots, x3.Disk_Promise, x3.Disk_Known, x3.Disk_Slots, x3.Held, x3.Wishes, x3.Lead, x3.Trying, x3.Ballot, x3.Yes, x3.Best, x3.Acks, x3.Heard⟩ : VRecorder))).set x0_2.toNat ((⟨x4.Number, x4.Of, x4.Up, IntKind.i64.wrap ((IntKind.i64.wrap ((IntKind.i64.wrap (x0_1 + 1)) + 1)) + 1), x4.Safe_Known, x4.Safe_Slots, x4.Disk_Promise, x4.Disk_Known, x4.Disk_Slots, x4.Held, x4.Wishes, x4.Lead, x4.Trying, x4.Ballot, x4.Yes, x4.Best, x4.Acks, x4.Heard⟩ : VRecorder))).set x0_2.toNat ((⟨x5.Number, x5.Of, x5.Up, x5.Safe_Promise, IntKind.i64.wrap ((IntKind.i64.wrap ((IntKind.i64.wrap ((IntKind.i64.wrap (x0_1 + 1)) + 1)) + 1)) + 1), x5.Safe_Slots, x5.Disk_Promise, x5.Disk_Known, x5.Disk_Slots, x5.Held, x5.Wishes, x5.Lead, x5.Trying, x5.Ballot, x5.Yes, x5.Best, x5.Acks, x5.Heard⟩ : VRecorder))).set x0_2.toNat (⟨x9.Number, x9.Of, x9.Up, x9.Safe_Promise, x9.Safe_Known, r8.1, x9.Disk_Promise, x9.Disk_Known, x9.Disk_Slots, x9.Held, x9.Wishes, x9.Lead, x9.Trying, x9.Ballot, x9.Yes, x9.Best, x9.Acks, x9.Heard⟩ : VRecorder)).set x0_2.toNat (⟨x10.Number, x10.Of, x10.Up, x10.Safe_Promise, x10.Safe_Known, x10.Safe_Slots, r8.2, x10.Disk_Known, x10.Disk_Slots, x10.Held, x10.Wishes, x10.Lead, x10.Trying, x10.Ballot, x10.Yes, x10.Best, x10.Acks, x10.Heard⟩ : VRecorder)).set x0_2.toNat ((⟨x11.Number, x11.Of, x11.Up, x11.Safe_Promise, x11.Safe_Known, x11.Safe_Slots, x11.Disk_Promise, IntKind.i64.wrap (r8.2 + 1), x11.Disk_Slots, x11.Held, x11.Wishes, x11.Lead, x11.Trying, x11.Ballot, x11.Yes, x11.Best, x11.Acks, x11.Heard⟩ : VRecorder))).set x0_2.toNat (⟨x15.Number, x15.Of, x15.Up, x15.Safe_Promise, x15.Safe_Known, x15.Safe_Slots, x15.Disk_Promise, x15.Disk_Known, r14.1, x15.Held, x15.Wishes, x15.Lead, x15.Trying, x15.Ballot, x15.Yes, x15.Best, x15.Acks, x15.Heard⟩ : VRecorder)).set x0_2.toNat (⟨x19.Number, x19.Of, x19.Up, x19.Safe_Promise, x19.Safe_Known, x19.Safe_Slots, x19.Disk_Promise, x19.Disk_Known, x19.Disk_Slots, r18.1, x19.Wishes, x19.Lead, x19.Trying, x19.Ballot, x19.Yes, x19.Best, x19.Acks, x19.Heard⟩ : VRecorder)).set x0_2.toNat (⟨x23.Number, x23.Of, x23.Up, x23.Safe_Promise, x23.Safe_Known, x23.Safe_Slots, x23.Disk_Promise, x23.Disk_Known, x23.Disk_Slots, x23.Held, r22.1, x23.Lead, x23.Trying, x23.Ballot, x23.Yes, x23.Best, x23.Acks, x23.Heard⟩ : VRecorder)).set x0_2.toNat ((⟨x24.Number, x24.Of, x24.Up, x24.Safe_Promise, x24.Safe_Known, x24.Safe_Slots, x24.Disk_Promise, x24.Disk_Known, x24.Disk_Slots, x24.Held, x24.Wishes, (r22.2.tmod 3) == 0, x24.Trying, x24.Ballot, x24.Yes, x24.Best, x24.Acks, x24.Heard⟩ : VRecorder))).set x0_2.toNat ((⟨x25.Number, x25.Of, x25.Up, x25.Safe_Promise, x25.Safe_Known, x25.Safe_Slots, x25.Disk_Promise, x25.Disk_Known, x25.Disk_Slots, x25.Held, x25.Wishes, x25.Lead, ((IntKind.i64.wrap (r22.2 + 1)).tmod 3) == 0, x25.Ballot, x25.Yes, x25.Best, x25.Acks, x25.Heard⟩ : VRecorder))).length : Int))) (Option.bind (((((((((((((x0_0.set x0_2.toNat (⟨x0_1, x1.Of, x1.Up, x1.Safe_Promise, x1.Safe_Known, x1.Safe_Slots, x1.Disk_Promise, x1.Disk_Known, x1.Disk_Slots, x1.Held, x1.Wishes, x1.Lead, x1.Trying, x1.Ballot, x1.Yes, x1.Best, x1.Acks, x1.Heard⟩ : VRecorder)).set x0_2.toNat ((⟨x2.Number, IntKind.i64.wrap (x0_1 + 1), x2.Up, x2.Safe_Promise, x2.Safe_Known, x2.Safe_Slots, x2.Disk_Promise, x2.Disk_Known, x2.Disk_Slots, x2.Held, x2.Wishes, x2.Lead, x2.Trying, x2.Ballot, x2.Yes, x2.Best, x2.Acks, x2.Heard⟩ : VRecorder))).set x0_2.toNat ((⟨x3.Number, x3.Of, ((IntKind.i64.wrap ((IntKind.i64.wrap (x0_1 + 1)) + 1)).tmod 3) == 0, x3.Safe_Promise, x3.Safe_Known, x3.Safe_Slots, x3.Disk_Promise, x3.Disk_Known, x3.Disk_Slots, x3.Held, x3.Wishes, x3.Lead, x3.Trying, x3.Ballot, x3.Yes, x3.Best, x3.Acks, x3.Heard⟩ : VRecorder))).set x0_2.toNat ((⟨x4.Number, x4.Of, x4.Up, IntKind.i64.wrap ((IntKind.i64.wrap ((IntKind.i64.wrap (x0_1 + 1)) + 1)) + 1), x4.Safe_Known, x4.Safe_Slots, x4.Disk_Promise, x4.Disk_Known, x4.Disk_Slots, x4.Held, x4.Wishes, x4.Lead, x4.Trying, x4.Ballot, x4.Yes, x4.Best, x4.Acks, x4.Heard⟩ : VRecorder))).set x0_2.toNat ((⟨x5.Number, x5.Of, x5.Up, x5.Safe_Promise, IntKind.i64.wrap ((IntKind.i64.wrap ((IntKind.i64.wrap ((IntKind.i64.wrap (x0_1 + 1)) + 1)) + 1)) + 1), x5.Safe_Slots, x5.Disk_Promise, x5.Disk_Known, x5.Disk_Slots, x5.Held, x5.Wishes, x5.Lead, x5.Trying, x5.Ballot, x5.Yes, x5.Best, x5.Acks, x5.Heard⟩ : VRecorder))).set x0_2.toNat (⟨x9.Number, x9.Of, x9.Up, x9.Safe_Promise, x9.Safe_Known, r8.1, x9.Disk_Promise, x9.Disk_Known, x9.Disk_Slots, x9.Held, x9.Wishes, x9.Lead, x9.Trying, x9.Ballot, x9.Yes, x9.Best, x9.Acks, x9.Heard⟩ : VRecorder)).set x0_2.toNat (⟨x10.Number, x10.Of, x10.Up, x10.Safe_Promise, x10.Safe_Known, x10.Safe_Slots, r8.2, x10.Disk_Known, x10.Disk_Slots, x10.Held, x10.Wishes, x10.Lead, x10.Trying, x10.Ballot, x10.Yes, x10.Best, x10.Acks, x10.Heard⟩ : VRecorder)).set x0_2.toNat ((⟨x11.Number, x11.Of, x11.Up, x11.Safe_Promise, x11.Safe_Known, x11.Safe_Slots, x11.Disk_Promise, IntKind.i64.wrap (r8.2 + 1), x11.Disk_Slots, x11.Held, x11.Wishes, x11.Lead, x11.Trying, x11.Ballot, x11.Yes, x11.Best, x11.Acks, x11.Heard⟩ : VRecorder))).set x0_2.toNat (⟨x15.Number, x15.Of, x15.Up, x15.Safe_Promise, x15.Safe_Known, x15.Safe_Slots, x15.Disk_Promise, x15.Disk_Known, r14.1, x15.Held, x15.Wishes, x15.Lead, x15.Trying, x15.Ballot, x15.Yes, x15.Best, x15.Acks, x15.Heard⟩ : VRecorder)).set x0_2.toNat (⟨x19.Number, x19.Of, x19.Up, x19.Safe_Promise, x19.Safe_Known, x19.Safe_Slots, x19.Disk_Promise, x19.Disk_Known, x19.Disk_Slots, r18.1, x19.Wishes, x19.Lead, x19.Trying, x19.Ballot, x19.Yes, x19.Best, x19.Acks, x19.Heard⟩ : VRecorder)).set x0_2.toNat (⟨x23.Number, x23.Of, x23.Up, x23.Safe_Promise, x23.Safe_Known, x23.Safe_Slots, x23.Disk_Promise, x23.Disk_Known, x23.Disk_Slots, x23.Held, r22.1, x23.Lead, x23.Trying, x23.Ballot, x23.Yes, x23.Best, x23.Acks, x23.Heard⟩ : VRecorder)).set x0_2.toNat ((⟨x24.Number, x24.Of, x24.Up, x24.Safe_Promise, x24.Safe_Known, x24.Safe_Slots, x24.Disk_Promise, x24.Disk_Known, x24.Disk_Slots, x24.Held, x24.Wishes, (r22.2.tmod 3) == 0, x24.Trying, x24.Ballot, x24.Yes, x24.Best, x24.Acks, x24.Heard⟩ : VRecorder))).set x0_2.toNat ((⟨x25.Number, x25.Of, x25.Up, x25.Safe_Promise, x25.Safe_Known, x25.Safe_Slots, x25.Disk_Promise, x25.Disk_Known, x25.Disk_Slots, x25.Held, x25.Wishes, x25.Lead, ((IntKind.i64.wrap (r22.2 + 1)).tmod 3) == 0, x25.Ballot, x25.Yes, x25.Best, x25.Acks, x25.Heard⟩ : VRecorder)))[x0_2.toNat]? fun x26 => cond (decide (0 ≤ x0_2)) (cond (decide (x0_2 < (((((((((((((((x0_0.set x0_2.toNat (⟨x0_1, x1.Of, x1.Up, x1.Safe_Promise, x1.Safe_Known, x1.Safe_Slots, x1.Disk_Promise, x1.Disk_Known, x1.Disk_Slots, x1.Held, x1.Wishes, x1.Lead, x1.Trying, x1.Ballot, x1.Yes, x1.Best, x1.Acks, x1.Heard⟩ : VRecorder)).set x0_2.toNat ((⟨x2.Number, IntKind.i64.wrap (x0_1 + 1), x2.Up, x2.Safe_Promise, x2.Safe_Known, x2.Safe_Slots, x2.Disk_Promise, x2.Disk_Known, x2.Disk_Slots, x2.Held, x2.Wishes, x2.Lead, x2.Trying, x2.Ballot, x2.Yes, x2.Best, x2.Acks, x2.Heard⟩ : VRecorder))).set x0_2.toNat ((⟨x3.Number, x3.Of, ((IntKind.i64.wrap ((IntKind.i64.wrap (x0_1 + 1)) + 1)).tmod 3) == 0, x3.Safe_Promise, x3.Safe_Known, x3.Safe_Slots, x3.Disk_Promise, x3.Disk_Known, x3.Disk_Slots, x3.Held, x3.Wishes, x3.Lead, x3.Trying, x3.Ballot, x3.Yes, x3.Best, x3.Acks, x3.Heard⟩ : VRecorder))).set x0_2.toNat ((⟨x4.Number, x4.Of, x4.Up, IntKind.i64.wrap ((IntKind.i64.wrap ((IntKind.i64.wrap (x0_1 + 1)) + 1)) + 1), x4.Safe_Known, x4.Safe_Slots, x4.Disk_Promise, x4.Disk_Known, x4.Disk_Slots, x4.Held, x4.Wishes, x4.Lead, x4.Trying, x4.Ballot, x4.Yes, x4.Best, x4.Acks, x4.Heard⟩ : VRecorder))).set x0_2.toNat ((⟨x5.Number, x5.Of, x5.Up, x5.Safe_Promise, IntKind.i64.wrap ((IntKind.i64.wrap ((IntKind.i64.wrap ((IntKind.i64.wrap (x0_1 + 1)) + 1)) + 1)) + 1), x5.Safe_Slots, x5.Disk_Promise, x5.Disk_Known, x5.Disk_Slots, x5.Held, x5.Wishes, x5.Lead, x5.Trying, x5.Ballot, x5.Yes, x5.Best, x5.Acks, x5.Heard⟩ : VRecorder))).set x0_2.toNat (⟨x9.Number, x9.Of, x9.Up, x9.Safe_Promise, x9.Safe_Known, r8.1, x9.Disk_Promise, x9.Disk_Known, x9.Disk_Slots, x9.Held, x9.Wishes, x9.Lead, x9.Trying, x9.Ballot, x9.Yes, x9.Best, x9.Acks, x9.Heard⟩ : VRecorder)).set x0_2.toNat (⟨x10.Number, x10.Of, x10.Up, x10.Safe_Promise, x10.Safe_Known, x10.Safe_Slots, r8.2, x10.Disk_Known, x10.Disk_Slots, x10.Held, x10.Wishes, x10.Lead, x10.Trying, x10.Ballot, x10.Yes, x10.Best, x10.Acks, x10.Heard⟩ : VRecorder)).set x0_2.toNat ((⟨x11.Number, x11.Of, x11.Up, x11.Safe_Promise, x11.Safe_Known, x11.Safe_Slots, x11.Disk_Promise, IntKind.i64.wrap (r8.2 + 1), x11.Disk_Slots, x11.Held, x11.Wishes, x11.Lead, x11.Trying, x11.Ballot, x11.Yes, x11.Best, x11.Acks, x11.Heard⟩ : VRecorder))).set x0_2.toNat (⟨x15.Number, x15.Of, x15.Up, x15.Safe_Promise, x15.Safe_Known, x15.Safe_Slots, x15.Disk_Promise, x15.Disk_Known, r14.1, x15.Held, x15.Wishes, x15.Lead, x15.Trying, x15.Ballot, x15.Yes, x15.Best, x15.Acks, x15.Heard⟩ : VRecorder)).set x0_2.toNat (⟨x19.Number, x19.Of, x19.Up, x19.Safe_Promise, x19.Safe_Known, x19.Safe_Slots, x19.Disk_Promise, x19.Disk_Known, x19.Disk_Slots, r18.1, x19.Wishes, x19.Lead, x19.Trying, x19.Ballot, x19.Yes, x19.Best, x19.Acks, x19.Heard⟩ : VRecorder)).set x0_2.toNat (⟨x23.Number, x23.Of, x23.Up, x23.Safe_Promise, x23.Safe_Known, x23.Safe_Slots, x23.Disk_Promise, x23.Disk_Known, x23.Disk_Slots, x23.Held, r22.1, x23.Lead, x23.Trying, x23.Ballot, x23.Yes, x23.Best, x23.Acks, x23.Heard⟩ : VRecorder)).set x0_2.toNat ((⟨x24.Number, x24.Of, x24.Up, x24.Safe_Promise, x24.Safe_Known, x24.Safe_Slots, x24.Disk_Promise, x24.Disk_Known, x24.Disk_Slots, x24.Held, x24.Wishes, (r22.2.tmod 3) == 0, x24.Trying, x24.Ballot, x24.Yes, x24.Best, x24.Acks, x24.Heard⟩ : VRecorder))).set x0_2.toNat ((⟨x25.Number, x25.Of, x25.Up, x25.Safe_Promise, x25.Safe_Known, x25.Safe_Slots, x25.Disk_Promise, x25.Disk_Known, x25.Disk_Slots, x25.Held, x25.Wishes, x25.Lead, ((IntKind.i64.wrap (r22.2 + 1)).tmod 3) == 0, x25.Ballot, x25.Yes, x25.Best, x25.Acks, x25.Heard⟩ : VRecorder))).set x0_2.toNat ((⟨x26.Number, x26.Of, x26.Up, x26.Safe_Promise, x26.Safe_Known, x26.Safe_Slots, x26.Disk_Promise, x26.Disk_Known, x26.Disk_Slots, x26.Held, x26.Wishes, x26.Lead, x26.Trying, IntKind.i64.wrap ((IntKind.i64.wrap (r22.2 + 1)) + 1), x26.Yes, x26.Best, x26.Acks, x26.Heard⟩ : VRecorder))).length : Int))) (Option.bind ((((((((((((((x0_0.set x0_2.toNat (⟨x0_1, x1.Of, x1.Up, x1.Safe_Promise, x1.Safe_Known, x1.Safe_Slots, x1.Disk_Promise, x1.Disk_Known, x1.Disk_Slots, x1.Held, x1.Wishes, x1.Lead, x1.Trying, x1.Ballot, x1.Yes, x1.Best, x1.Acks, x1.Heard⟩ : VRecorder)).set x0_2.toNat ((⟨x2.Number, IntKind.i64.wrap (x0_1 + 1), x2.Up, x2.Safe_Promise, x2.Safe_Known, x2.Safe_Slots, x2.Disk_Promise, x2.Disk_Known, x2.Disk_Slots, x2.Held, x2.Wishes, x2.Lead, x2.Trying, x2.Ballot, x2.Yes, x2.Best, x2.Acks, x2.Heard⟩ : VRecorder))).set x0_2.toNat ((⟨x3.Number, x3.Of, ((IntKind.i64.wrap ((IntKind.i64.wrap (x0_1 + 1)) + 1)).tmod 3) == 0, x3.Safe_Promise, x3.Safe_Known, x3.Safe_Slots, x3.Disk_Promise, x3.Disk_Known, x3.Disk_Slots, x3.Held, x3.Wishes, x3.Lead, x3.Trying, x3.Ballot, x3.Yes, x3.Best, x3.Acks, x3.Heard⟩ : VRecorder))).set x0_2.toNat ((⟨x4.Number, x4.Of, x4.Up, IntKind.i64.wrap ((IntKind.i64.wrap ((IntKind.i64.wrap (x0_1 + 1)) + 1)) + 1), x4.Safe_Known, x4.Safe_Slots, x4.Disk_Promise, x4.Disk_Known, x4.Disk_Slots, x4.Held, x4.Wishes, x4.Lead, x4.Trying, x4.Ballot, x4.Yes, x4.Best, x4.Acks, x4.Heard⟩ : VRecorder))).set x0_2.toNat ((⟨x5.Number, x5.Of, x5.Up, x5.Safe_Promise, IntKind.i64.wrap ((IntKind.i64.wrap ((IntKind.i64.wrap ((IntKind.i64.wrap (x0_1 + 1)) + 1)) + 1)) + 1), x5.Safe_Slots, x5.Disk_Promise, x5.Disk_Known, x5.Disk_Slots, x5.Held, x5.Wishes, x5.Lead, x5.Trying, x5.Ballot, x5.Yes, x5.Best, x5.Acks, x5.Heard⟩ : VRecorder))).set x0_2.toNat (⟨x9.Number, x9.Of, x9.Up, x9.Safe_Promise, x9.Safe_Known, r8.1, x9.Disk_Promise, x9.Disk_Known, x9.Disk_Slots, x9.Held, x9.Wishes, x9.Lead, x9.Trying, x9.Ballot, x9.Yes, x9.Best, x9.Acks, x9.Heard⟩ : VRecorder)).set x0_2.toNat (⟨x10.Number, x10.Of, x10.Up, x10.Safe_Promise, x10.Safe_Known, x10.Safe_Slots, r8.2, x10.Disk_Known, x10.Disk_Slots, x10.Held, x10.Wishes, x10.Lead, x10.Trying, x10.Ballot, x10.Yes, x10.Best, x10.Acks, x10.Heard⟩ : VRecorder)).set x0_2.toNat ((⟨x11.Number, x11.Of, x11.Up, x11.Safe_Promise, x11.Safe_Known, x11.Safe_Slots, x11.Disk_Promise, IntKind.i64.wrap (r8.2 + 1), x11.Disk_Slots, x11.Held, x11.Wishes, x11.Lead, x11.Trying, x11.Ballot, x11.Yes, x11.Best, x11.Acks, x11.Heard⟩ : VRecorder))).set x0_2.toNat (⟨x15.Number, x15.Of, x15.Up, x15.Safe_Promise, x15.Safe_Known, x15.Safe_Slots, x15.Disk_Promise, x15.Disk_Known, r14.1, x15.Held, x15.Wishes, x15.Lead, x15.Trying, x15.Ballot, x15.Yes, x15.Best, x15.Acks, x15.Heard⟩ : VRecorder)).set x0_2.toNat (⟨x19.Number, x19.Of, x19.Up, x19.Safe_Promise, x19.Safe_Known, x19.Safe_Slots, x19.Disk_Promise, x19.Disk_Known, x19.Disk_Slots, r18.1, x19.Wishes, x19.Lead, x19.Trying, x19.Ballot, x19.Yes, x19.Best, x19.Acks, x19.Heard⟩ : VRecorder)).set x0_2.toNat (⟨x23.Number, x23.Of, x23.Up, x23.Safe_Promise, x23.Safe_Known, x23.Safe_Slots, x23.Disk_Promise, x23.Disk_Known, x23.Disk_Slots, x23.Held, r22.1, x23.Lead, x23.Trying, x23.Ballot, x23.Yes, x23.Best, x23.Acks, x23.Heard⟩ : VRecorder)).set x0_2.toNat ((⟨x24.Number, x24.Of, x24.Up, x24.Safe_Promise, x24.Safe_Known, x24.Safe_Slots, x24.Disk_Promise, x24.Disk_Known, x24.Disk_Slots, x24.Held, x24.Wishes, (r22.2.tmod 3) == 0, x24.Trying, x24.Ballot, x24.Yes, x24.Best, x24.Acks, x24.Heard⟩ : VRecorder))).set x0_2.toNat ((⟨x25.Number, x25.Of, x25.Up, x25.Safe_Promise, x25.Safe_Known, x25.Safe_Slots, x25.Disk_Promise, x25.Disk_Known, x25.Disk_Slots, x25.Held, x25.Wishes, x25.Lead, ((IntKind.i64.wrap (r22.2 + 1)).tmod 3) == 0, x25.Ballot, x25.Yes, x25.Best, x25.Acks, x25.Heard⟩ : VRecorder))).set x0_2.toNat ((⟨x26.Number, x26.Of, x26.Up, x26.Safe_Promise, x26.Safe_Known, x26.Safe_Slots, x26.Disk_Promise, x26.Disk_Known, x26.Disk_Slots, x26.Held, x26.Wishes, x26.Lead, x26.Trying, IntKind.i64.wrap ((IntKind.i64.wrap (r22.2 + 1)) + 1), x26.Yes, x26.Best, x26.Acks, x26.Heard⟩ : VRecorder)))[x0_2.toNat]? fun x27 => Option.bind ((((((((((((((x0_0.set x0_2.toNat (⟨x0_1, x1.Of, x1.Up, x1.Safe_Promise, x1.Safe_Known, x1.Safe_Slots, x1.Disk_Promise, x1.Disk_Known, x1.Disk_Slots, x1.Held, x1.Wishes, x1.Lead, x1.Trying, x1.Ballot, x1.Yes, x1.Best, x1.Acks, x1.Heard⟩ : VRecorder)).set x0_2.toNat ((⟨x2.Number, IntKind.i64.wrap (x0_1 + 1), x2.Up, x2.Safe_Promise, x2.Safe_Known, x2.Safe_Slots, x2.Disk_Promise, x2.Disk_Known, x2.Disk_Slots, x2.Held, x2.Wishes, x2.Lead, x2.Trying, x2.Ballot, x2.Yes, x2.Best, x2.Acks, x2.Heard⟩ : VRecorder))).set x0_2.toNat ((⟨x3.Number, x3.Of, ((IntKind.i64.wrap ((IntKind.i64.wrap (x0_1 + 1)) + 1)).tmod 3) == 0, x3.Safe_Promise, x3.Safe_Known, x3.Safe_Slots, x3.Disk_Promise, x3.Disk_Known, x3.Disk_Slots, x3.Held, x3.Wishes, x3.Lead, x3.Trying, x3.Ballot, x3.Yes, x3.Best, x3.Acks, x3.Heard⟩ : VRecorder))).set x0_2.toNat ((⟨x4.Number, x4.Of, x4.Up, IntKind.i64.wrap ((IntKind.i64.wrap ((IntKind.i64.wrap (x0_1 + 1)) + 1)) + 1), x4.Safe_Known, x4.Safe_Slots, x4.Disk_Promise, x4.Disk_Known, x4.Disk_Slots, x4.Held, x4.Wishes, x4.Lead, x4.Trying, x4.Ballot, x4.Yes, x4.Best, x4.Acks, x4.Heard⟩ : VRecorder))).set x0_2.toNat ((⟨x5.Number, x5.Of, x5.Up, x5.Safe_Promise, IntKind.i64.wrap ((IntKind.i64.wrap ((IntKind.i64.wrap ((IntKind.i64.wrap (x0_1 + 1)) + 1)) + 1)) + 1), x5.Safe_Slots, x5.Disk_Promise, x5.Disk_Known, x5.Disk_Slots, x5.Held, x5.Wishes, x5.Lead, x5.Trying, x5.Ballot, x5.Yes, x5.Best, x5.Acks, x5.Heard⟩ : VRecorder))).set x0_2.toNat (⟨x9.Number, x9.Of, x9.Up, x9.Safe_Promise, x9.Safe_Known, r8.1, x9.Disk_Promise, x9.Disk_Known, x9.Disk_Slots, x9.Held, x9.Wishes, x9.Lead, x9.Trying, x9.Ballot, x9.Yes, x9.Best, x9.Acks, x9.Heard⟩ : VRecorder)).set x0_2.toNat (⟨x10.Number, x10.Of, x10.Up, x10.Safe_Promise, x10.Safe_Known, x10.Safe_Slots, r8.2, x10.Disk_Known, x10.Disk_Slots, x10.Held, x10.Wishes, x10.Lead, x10.Trying, x10.Ballot, x10.Yes, x10.Best, x10.Acks, x10.Heard⟩ : VRecorder)).set x0_2.toNat ((⟨x11.Number, x11.Of, x11.Up, x11.Safe_Promise, x11.Safe_Known, x11.Safe_Slots, x11.Disk_Promise, IntKind.i64.wrap (r8.2 + 1), x11.Disk_Slots, x11.Held, x11.Wishes, x11.Lead, x11.Trying, x11.Ballot, x11.Yes, x11.Best, x11.Acks, x11.Heard⟩ : VRecorder))).set x0_2.toNat (⟨x15.Number, x15.Of, x15.Up, x15.Safe_Promise, x15.Safe_Known, x15.Safe_Slots, x15.Disk_Promise, x15.Disk_Known, r14.1, x15.Held, x15.Wishes, x15.Lead, x15.Trying, x15.Ballot, x15.Yes, x15.Best, x15.Acks, x15.Heard⟩ : VRecorder)).set x0_2.toNat (⟨x19.Number, x19.Of, x19.Up, x19.Safe_Promise, x19.Safe_Known, x19.Safe_Slots, x19.Disk_Promise, x19.Disk_Known, x19.Disk_Slots, r18.1, x19.Wishes, x19.Lead, x19.Trying, x19.Ballot, x19.Yes, x19.Best, x19.Acks, x19.Heard⟩ : VRecorder)).set x0_2.toNat (⟨x23.Number, x23.Of, x23.Up, x23.Safe_Promise, x23.Safe_Known, x23.Safe_Slots, x23.Disk_Promise, x23.Disk_Known, x23.Disk_Slots, x23.Held, r22.1, x23.Lead, x23.Trying, x23.Ballot, x23.Yes, x23.Best, x23.Acks, x23.Heard⟩ : VRecorder)).set x0_2.toNat ((⟨x24.Number, x24.Of, x24.Up, x24.Safe_Promise, x24.Safe_Known, x24.Safe_Slots, x24.Disk_Promise, x24.Disk_Known, x24.Disk_Slots, x24.Held, x24.Wishes, (r22.2.tmod 3) == 0, x24.Trying, x24.Ballot, x24.Yes, x24.Best, x24.Acks, x24.Heard⟩ : VRecorder))).set x0_2.toNat ((⟨x25.Number, x25.Of, x25.Up, x25.Safe_Promise, x25.Safe_Known, x25.Safe_Slots, x25.Disk_Promise, x25.Disk_Known, x25.Disk_Slots, x25.Held, x25.Wishes, x25.Lead, ((IntKind.i64.wrap (r22.2 + 1)).tmod 3) == 0, x25.Ballot, x25.Yes, x25.Best, x25.Acks, x25.Heard⟩ : VRecorder))).set x0_2.toNat ((⟨x26.Number, x26.Of, x26.Up, x26.Safe_Promise, x26.Safe_Known, x26.Safe_Slots, x26.Disk_Promise, x26.Disk_Known, x26.Disk_Slots, x26.Held, x26.Wishes, x26.Lead, x26.Trying, IntKind.i64.wrap ((IntKind.i64.wrap (r22.2 + 1)) + 1), x26.Yes, x26.Best, x26.Acks, x26.Heard⟩ : VRecorder)))[x0_2.toNat]? fun x28 => Option.bind (G59 x28.Yes (IntKind.i64.wrap ((IntKind.i64.wrap ((IntKind.i64.wrap (r22.2 + 1)) + 1)) + 1))) fun r29 =>
      Option.bind ((((((((((((((x0_0.set x0_2.toNat (⟨x0_1, x1.Of, x1.Up, x1.Safe_Promise, x1.Safe_Known, x1.Safe_Slots, x1.Disk_Promise, x1.Disk_Known, x1.Disk_Slots, x1.Held, x1.Wishes, x1.Lead, x1.Trying, x1.Ballot, x1.Yes, x1.Best, x1.Acks, x1.Heard⟩ : VRecorder)).set x0_2.toNat ((⟨x2.Number, IntKind.i64.wrap (x0_1 + 1), x2.Up, x2.Safe_Promise, x2.Safe_Known, x2.Safe_Slots, x2.Disk_Promise, x2.Disk_Known, x2.Disk_Slots, x2.Held, x2.Wishes, x2.Lead, x2.Trying, x2.Ballot, x2.Yes, x2.Best, x2.Acks, x2.Heard⟩ : VRecorder))).set x0_2.toNat ((⟨x3.Number, x3.Of, ((IntKind.i64.wrap ((IntKind.i64.wrap (x0_1 + 1)) + 1)).tmod 3) == 0, x3.Safe_Promise, x3.Safe_Known, x3.Safe_Slots, x3.Disk_Promise, x3.Disk_Known, x3.Disk_Slots, x3.Held, x3.Wishes, x3.Lead, x3.Trying, x3.Ballot, x3.Yes, x3.Best, x3.Acks, x3.Heard⟩ : VRecorder))).set x0_2.toNat ((⟨x4.Number, x4.Of, x4.Up, IntKind.i64.wrap ((IntKind.i64.wrap ((IntKind.i64.wrap (x0_1 + 1)) + 1)) + 1), x4.Safe_Known, x4.Safe_Slots, x4.Disk_Promise, x4.Disk_Known, x4.Disk_Slots, x4.Held, x4.Wishes, x4.Lead, x4.Trying, x4.Ballot, x4.Yes, x4.Best, x4.Acks, x4.Heard⟩ : VRecorder))).set x0_2.toNat ((⟨x5.Number, x5.Of, x5.Up, x5.Safe_Promise, IntKind.i64.wrap ((IntKind.i64.wrap ((IntKind.i64.wrap ((IntKind.i64.wrap (x0_1 + 1)) + 1)) + 1)) + 1), x5.Safe_Slots, x5.Disk_Promise, x5.Disk_Known, x5.Disk_Slots, x5.Held, x5.Wishes, x5.Lead, x5.Trying, x5.Ballot, x5.Yes, x5.Best, x5.Acks, x5.Heard⟩ : VRecorder))).set x0_2.toNat (⟨x9.Number, x9.Of, x9.Up, x9.Safe_Promise, x9.Safe_Known, r8.1, x9.Disk_Promise, x9.Disk_Known, x9.Disk_Slots, x9.Held, x9.Wishes, x9.Lead, x9.Trying, x9.Ballot, x9.Yes, x9.Best, x9.Acks, x9.Heard⟩ : VRecorder)).set x0_2.toNat (⟨x10.Number, x10.Of, x10.Up, x10.Safe_Promise, x10.Safe_Known, x10.Safe_Slots, r8.2, x10.Disk_Known, x10.Disk_Slots, x10.Held, x10.Wishes, x10.Lead, x10.Trying, x10.Ballot, x10.Yes, x10.Best, x10.Acks, x10.Heard⟩ : VRecorder)).set x0_2.toNat ((⟨x11.Number, x11.Of, x11.Up, x11.Safe_Promise, x11.Safe_Known, x11.Safe_Slots, x11.Disk_Promise, IntKind.i64.wrap (r8.2 + 1), x11.Disk_Slots, x11.Held, x11.Wishes, x11.Lead, x11.Trying, x11.Ballot, x11.Yes, x11.Best, x11.Acks, x11.Heard⟩ : VRecorder))).set x0_2.toNat (⟨x15.Number, x15.Of, x15.Up, x15.Safe_Promise, x15.Safe_Known, x15.Safe_Slots, x15.Disk_Promise, x15.Disk_Known, r14.1, x15.Held, x15.Wishes, x15.Lead, x15.Trying, x15.Ballot, x15.Yes, x15.Best, x15.Acks, x15.Heard⟩ : VRecorder)).set x0_2.toNat (⟨x19.Number, x19.Of, x19.Up, x19.Safe_Promise, x19.Safe_Known, x19.Safe_Slots, x19.Disk_Promise, x19.Disk_Known, x19.Disk_Slots, r18.1, x19.Wishes, x19.Lead, x19.Trying, x19.Ballot, x19.Yes, x19.Best, x19.Acks, x19.Heard⟩ : VRecorder)).set x0_2.toNat (⟨x23.Number, x23.Of, x23.Up, x23.Safe_Promise, x23.Safe_Known, x23.Safe_Slots, x23.Disk_Promise, x23.Disk_Known, x23.Disk_Slots, x23.Held, r22.1, x23.Lead, x23.Trying, x23.Ballot, x23.Yes, x23.Best, x23.Acks, x23.Heard⟩ : VRecorder)).set x0_2.toNat ((⟨x24.Number, x24.Of, x24.Up, x24.Safe_Promise, x24.Safe_Known, x24.Safe_Slots, x24.Disk_Promise, x24.Disk_Known, x24.Disk_Slots, x24.Held, x24.Wishes, (r22.2.tmod 3) == 0, x24.Trying, x24.Ballot, x24.Yes, x24.Best, x24.Acks, x24.Heard⟩ : VRecorder))).set x0_2.toNat ((⟨x25.Number, x25.Of, x25.Up, x25.Safe_Promise, x25.Safe_Known, x25.Safe_Slots, x25.Disk_Promise, x25.Disk_Known, x25.Disk_Slots, x25.Held, x25.Wishes, x25.Lead, ((IntKind.i64.wrap (r22.2 + 1)).tmod 3) == 0, x25.Ballot, x25.Yes, x25.Best, x25.Acks, x25.Heard⟩ : VRecorder))).set x0_2.toNat ((⟨x26.Number, x26.Of, x26.Up, x26.Safe_Promise, x26.Safe_Known, x26.Safe_Slots, x26.Disk_Promise, x26.Disk_Known, x26.Disk_Slots, x26.Held, x26.Wishes, x26.Lead, x26.Trying, IntKind.i64.wrap ((IntKind.i64.wrap (r22.2 + 1)) + 1), x26.Yes, x26.Best, x26.Acks, x26.Heard⟩ : VRecorder)))[x0_2.toNat]? fun x30 => cond (decide (0 ≤ x0_2)) (cond (decide (x0_2 < ((((((((((((((((x0_0.set x0_2.toNat (⟨x0_1, x1.Of, x1.Up, x1.Safe_Promise, x1.Safe_Known, x1.Safe_Slots, x1.Disk_Promise, x1.Disk_Known, x1.Disk_Slots, x1.Held, x1.Wishes, x1.Lead, x1.Trying, x1.Ballot, x1.Yes, x1.Best, x1.Acks, x1.Heard⟩ : VRecorder)).set x0_2.toNat ((⟨x2.Number, IntKind.i64.wrap (x0_1 + 1), x2.Up, x2.Safe_Promise, x2.Safe_Known, x2.Safe_Slots, x2.Disk_Promise, x2.Disk_Known, x2.Disk_Slots, x2.Held, x2.Wishes, x2.Lead, x2.Trying, x2.Ballot, x2.Yes, x2.Best, x2.Acks, x2.Heard⟩ : VRecorder))).set x0_2.toNat ((⟨x3.Number, x3.Of, ((IntKind.i64.wrap ((IntKind.i64.wrap (x0_1 + 1)) + 1)).tmod 3) == 0, x3.Safe_Promise, x3.Safe_Known, x3.Safe_Slots, x3.Disk_Promise, x3.Disk_Known, x3.Disk_Slots, x3.Held, x3.Wishes, x3.Lead, x3.Trying, x3.Ballot, x3.Yes, x3.Best, x3.Acks, x3.Heard⟩ : VRecorder))).set x0_2.toNat ((⟨x4.Number, x4.Of, x4.Up, IntKind.i64.wrap ((IntKind.i64.wrap ((IntKind.i64.wrap (x0_1 + 1)) + 1)) + 1), x4.Safe_Known, x4.Safe_Slots, x4.Disk_Promise, x4.Disk_Known, x4.Disk_Slots, x4.Held, x4.Wishes, x4.Lead, x4.Trying, x4.Ballot, x4.Yes, x4.Best, x4.Acks, x4.Heard⟩ : VRecorder))).set x0_2.toNat ((⟨x5.Number, x5.Of, x5.Up, x5.Safe_Promise, IntKind.i64.wrap ((IntKind.i64.wrap ((IntKind.i64.wrap ((IntKind.i64.wrap (x0_1 + 1)) + 1)) + 1)) + 1), x5.Safe_Slots, x5.Disk_Promise, x5.Disk_Known, x5.Disk_Slots, x5.Held, x5.Wishes, x5.Lead, x5.Trying, x5.Ballot, x5.Yes, x5.Best, x5.Acks, x5.Heard⟩ : VRecorder))).set x0_2.toNat (⟨x9.Number, x9.Of, x9.Up, x9.Safe_Promise, x9.Safe_Known, r8.1, x9.Disk_Promise, x9.Disk_Known, x9.Disk_Slots, x9.Held, x9.Wishes, x9.Lead, x9.Trying, x9.Ballot, x9.Yes, x9.Best, x9.Acks, x9.Heard⟩ : VRecorder)).set x0_2.toNat (⟨x10.Number, x10.Of, x10.Up, x10.Safe_Promise, x10.Safe_Known, x10.Safe_Slots, r8.2, x10.Disk_Known, x10.Disk_Slots, x10.Held, x10.Wishes, x10.Lead, x10.Trying, x10.Ballot, x10.Yes, x10.Best, x10.Acks, x10.Heard⟩ : VRecorder)).set x0_2.toNat ((⟨x11.Number, x11.Of, x11.Up, x11.Safe_Promise, x11.Safe_Known, x11.Safe_Slots, x11.Disk_Promise, IntKind.i64.wrap (r8.2 + 1), x11.Disk_Slots, x11.Held, x11.Wishes, x11.Lead, x11.Trying, x11.Ballot, x11.Yes, x11.Best, x11.Acks, x11.Heard⟩ : VRecorder))).set x0_2.toNat (⟨x15.Number, x15.Of, x15.Up, x15.Safe_Promise, x15.Safe_Known, x15.Safe_Slots, x15.Disk_Promise, x15.Disk_Known, r14.1, x15.Held, x15.Wishes, x15.Lead, x15.Trying, x15.Ballot, x15.Yes, x15.Best, x15.Acks, x15.Heard⟩ : VRecorder)).set x0_2.toNat (⟨x19.Number, x19.Of, x19.Up, x19.Safe_Promise, x19.Safe_Known, x19.Safe_Slots, x19.Disk_Promise, x19.Disk_Known, x19.Disk_Slots, r18.1, x19.Wishes, x19.Lead, x19.Trying, x19.Ballot, x19.Yes, x19.Best, x19.Acks, x19.Heard⟩ : VRecorder)).set x0_2.toNat (⟨x23.Number, x23.Of, x23.Up, x23.Safe_Promise, x23.Safe_Known, x23.Safe_Slots, x23.Disk_Promise, x23.Disk_Known, x23.Disk_Slots, x23.Held, r22.1, x23.Lead, x23.Trying, x23.Ballot, x23.Yes, x23.Best, x23.Acks, x23.Heard⟩ : VRecorder)).set x0_2.toNat ((⟨x24.Number, x24.Of, x24.Up, x24.Safe_Promise, x24.Safe_Known, x24.Safe_Slots, x24.Disk_Promise, x24.Disk_Known, x24.Disk_Slots, x24.Held, x24.Wishes, (r22.2.tmod 3) == 0, x24.Trying, x24.Ballot, x24.Yes, x24.Best, x24.Acks, x24.Heard⟩ : VRecorder))).set x0_2.toNat ((⟨x25.Number, x25.Of, x25.Up, x25.Safe_Promise, x25.Safe_Known, x25.Safe_Slots, x25.Disk_Promise, x25.Disk_Known, x25.Disk_Slots, x25.Held, x25.Wishes, x25.Lead, ((IntKind.i64.wrap (r22.2 + 1)).tmod 3) == 0, x25.Ballot, x25.Yes, x25.Best, x25.Acks, x25.Heard⟩ : VRecorder))).set x0_2.toNat ((⟨x26.Number, x26.Of, x26.Up, x26.Safe_Promise, x26.Safe_Known, x26.Safe_Slots, x26.Disk_Promise, x26.Disk_Known, x26.Disk_Slots, x26.Held, x26.Wishes, x26.Lead, x26.Trying, IntKind.i64.wrap ((IntKind.i64.wrap (r22.2 + 1)) + 1), x26.Yes, x26.Best, x26.Acks, x26.Heard⟩ : VRecorder))).set x0_2.toNat (⟨x30.Number, x30.Of, x30.Up, x30.Safe_Promise, x30.Safe_Known, x30.Safe_Slots, x30.Disk_Promise, x30.Disk_Known, x30.Disk_Slots, x30.Held, x30.Wishes, x30.Lead, x30.Trying, x30.Ballot, r29.1, x30.Best, x30.Acks, x30.Heard⟩ : VRecorder)).length : Int))) (Option.bind (((((((((((((((x0_0.set x0_2.toNat (⟨x0_1, x1.Of, x1.Up, x1.Safe_Promise, x1.Safe_Known, x1.Safe_Slots, x1.Disk_Promise, x1.Disk_Known, x1.Disk_Slots, x1.Held, x1.Wishes, x1.Lead, x1.Trying, x1.Ballot, x1.Yes, x1.Best, x1.Acks, x1.Heard⟩ : VRecorder)).set x0_2.toNat ((⟨x2.Number, IntKind.i64.wrap (x0_1 + 1), x2.Up, x2.Safe_Promise, x2.Safe_Known, x2.Safe_Slots, x2.Disk_Promise, x2.Disk_Known, x2.Disk_Slots, x2.Held, x2.Wishes, x2.Lead, x2.Trying, x2.Ballot, x2.Yes, x2.Best, x2.Acks, x2.Heard⟩ : VRecorder))).set x0_2.toNat ((⟨x3.Number, x3.Of, ((IntKind.i64.wrap ((IntKind.i64.wrap (x0_1 + 1)) + 1)).tmod 3) == 0, x3.Safe_Promise, x3.Safe_Known, x3.Safe_Slots, x3.Disk_Promise, x3.Disk_Known, x3.Disk_Slots, x3.Held, x3.Wishes, x3.Lead, x3.Trying, x3.Ballot, x3.Yes, x3.Best, x3.Acks, x3.Heard⟩ : VRecorder))).set x0_2.toNat ((⟨x4.Number, x4.Of, x4.Up, IntKind.i64.wrap ((IntKind.i64.wrap ((IntKind.i64.wrap (x0_1 + 1)) + 1)) + 1), x4.Safe_Known, x4.Safe_Slots, x4.Disk_Promise, x4.Disk_Known, x4.Disk_Slots, x4.Held, x4.Wishes, x4.Lead, x4.Trying, x4.Ballot, x4.Yes, x4.Best, x4.Acks, x4.Heard⟩ : VRecorder))).set x0_2.toNat ((⟨x5.Number, x5.Of, x5.Up, x5.Safe_Promise, IntKind.i64.wrap ((IntKind.i64.wrap ((IntKind.i64.wrap ((IntKind.i64.wrap (x0_1 + 1)) + 1)) + 1)) + 1), x5.Safe_Slots, x5.Disk_Promise, x5.Disk_Known, x5.Disk_Slots, x5.Held, x5.Wishes, x5.Lead, x5.Trying, x5.Ballot, x5.Yes, x5.Best, x5.Acks, x5.Heard⟩ : VRecorder))).set x0_2.toNat (⟨x9.Number, x9.Of, x9.Up, x9.Safe_Promise, x9.Safe_Known, r8.1, x9.Disk_Promise, x9.Disk_Known, x9.Disk_Slots, x9.Held, x9.Wishes, x9.Lead, x9.Trying, x9.Ballot, x9.Yes, x9.Best, x9.Acks, x9.Heard⟩ : VRecorder)).set x0_2.toNat (⟨x10.Number, x10.Of, x10.Up, x10.Safe_Promise, x10.Safe_Known, x10.Safe_Slots, r8.2, x10.Disk_Known, x10.Disk_Slots, x10.Held, x10.Wishes, x10.Lead, x10.Trying, x10.Ballot, x10.Yes, x10.Best, x10.Acks, x10.Heard⟩ : VRecorder)).set x0_2.toNat ((⟨x11.Number, x11.Of, x11.Up, x11.Safe_Promise, x11.Safe_Known, x11.Safe_Slots, x11.Disk_Promise, IntKind.i64.wrap (r8.2 + 1), x11.Disk_Slots, x11.Held, x11.Wishes, x11.Lead, x11.Trying, x11.Ballot, x11.Yes, x11.Best, x11.Acks, x11.Heard⟩ : VRecorder))).set x0_2.toNat (⟨x15.Number, x15.Of, x15.Up, x15.Safe_Promise, x15.Safe_Known, x15.Safe_Slots, x15.Disk_Promise, x15.Disk_Known, r14.1, x15.Held, x15.Wishes, x15.Lead, x15.Trying, x15.Ballot, x15.Yes, x15.Best, x15.Acks, x15.Heard⟩ : VRecorder)).set x0_2.toNat (⟨x19.Number, x19.Of, x19.Up, x19.Safe_Promise, x19.Safe_Known, x19.Safe_Slots, x19.Disk_Promise, x19.Disk_Known, x19.Disk_Slots, r18.1, x19.Wishes, x19.Lead, x19.Trying, x19.Ballot, x19.Yes, x19.Best, x19.Acks, x19.Heard⟩ : VRecorder)).set x0_2.toNat (⟨x23.Number, x23.Of, x23.Up, x23.Safe_Promise, x23.Safe_Known, x23.Safe_Slots, x23.Disk_Promise, x23.Disk_Known, x23.Disk_Slots, x23.Held, r22.1, x23.Lead, x23.Trying, x23.Ballot, x23.Yes, x23.Best, x23.Acks, x23.Heard⟩ : VRecorder)).set x0_2.toNat ((⟨x24.Number, x24.Of, x24.Up, x24.Safe_Promise, x24.Safe_Known, x24.Safe_Slots, x24.Disk_Promise, x24.Disk_Known, x24.Disk_Slots, x24.Held, x24.Wishes, (r22.2.tmod 3) == 0, x24.Trying, x24.Ballot, x24.Yes, x24.Best, x24.Acks, x24.Heard⟩ : VRecorder))).set x0_2.toNat ((⟨x25.Number, x25.Of, x25.Up, x25.Safe_Promise, x25.Safe_Known, x25.Safe_Slots, x25.Disk_Promise, x25.Disk_Known, x25.Disk_Slots, x25.Held, x25.Wishes, x25.Lead, ((IntKind.i64.wrap (r22.2 + 1)).tmod 3) == 0, x25.Ballot, x25.Yes, x25.Best, x25.Acks, x25.Heard⟩ : VRecorder))).set x0_2.toNat ((⟨x26.Number, x26.Of, x26.Up, x26.Safe_Promise, x26.Safe_Known, x26.Safe_Slots, x26.Disk_Promise, x26.Disk_Known, x26.Disk_Slots, x26.Held, x26.Wishes, x26.Lead, x26.Trying, IntKind.i64.wrap ((IntKind.i64.wrap (r22.2 + 1)) + 1), x26.Yes, x26.Best, x26.Acks, x26.Heard⟩ : VRecorder))).set x0_2.toNat (⟨x30.Number, x30.Of, x30.Up, x30.Safe_Promise, x30.Safe_Known, x30.Safe_Slots, x30.Disk_Promise, x30.Disk_Known, x30.Disk_Slots, x30.Held, x30.Wishes, x30.Lead, x30.Trying, x30.Ballot, r29.1, x30.Best, x30.Acks, x30.Heard⟩ : VRecorder))[x0_2.toNat]? fun x31 => Option.bind (((((((((((((((x0_0.set x0_2.toNat (⟨x0_1, x1.Of, x1.Up, x1.Safe_Promise, x1.Safe_Known, x1.Safe_Slots, x1.Disk_Promise, x1.Disk_Known, x1.Disk_Slots, x1.Held, x1.Wishes, x1.Lead, x1.Trying, x1.Ballot, x1.Yes, x1.Best, x1.Acks, x1.Heard⟩ : VRecorder)).set x0_2.toNat ((⟨x2.Number, IntKind.i64.wrap (x0_1 + 1), x2.Up, x2.Safe_Promise, x2.Safe_Known, x2.Safe_Slots, x2.Disk_Promise, x2.Disk_Known, x2.Disk_Slots, x2.Held, x2.Wishes, x2.Lead, x2.Trying, x2.Ballot, x2.Yes, x2.Best, x2.Acks, x2.Heard⟩ : VRecorder))).set x0_2.toNat ((⟨x3.Number, x3.Of, ((IntKind.i64.wrap ((IntKind.i64.wrap (x0_1 + 1)) + 1)).tmod 3) == 0, x3.Safe_Promise, x3.Safe_Known, x3.Safe_Slots, x3.Disk_Promise, x3.Disk_Known, x3.Disk_Slots, x3.Held, x3.Wishes, x3.Lead, x3.Trying, x3.Ballot, x3.Yes, x3.Best, x3.Acks, x3.Heard⟩ : VRecorder))).set x0_2.toNat ((⟨x4.Number, x4.Of, x4.Up, IntKind.i64.wrap ((IntKind.i64.wrap ((IntKind.i64.wrap (x0_1 + 1)) + 1)) + 1), x4.Safe_Known, x4.Safe_Slots, x4.Disk_Promise, x4.Disk_Known, x4.Disk_Slots, x4.Held, x4.Wishes, x4.Lead, x4.Trying, x4.Ballot, x4.Yes, x4.Best, x4.Acks, x4.Heard⟩ : VRecorder))).set x0_2.toNat ((⟨x5.Number, x5.Of, x5.Up, x5.Safe_Promise, IntKind.i64.wrap ((IntKind.i64.wrap ((IntKind.i64.wrap ((IntKind.i64.wrap (x0_1 + 1)) + 1)) + 1)) + 1), x5.Safe_Slots, x5.Disk_Promise, x5.Disk_Known, x5.Disk_Slots, x5.Held, x5.Wishes, x5.Lead, x5.Trying, x5.Ballot, x5.Yes, x5.Best, x5.Acks, x5.Heard⟩ : VRecorder))).set x0_2.toNat (⟨x9.Number, x9.Of, x9.Up, x9.Safe_Promise, x9.Safe_Known, r8.1, x9.Disk_Promise, x9.Disk_Known, x9.Disk_Slots, x9.Held, x9.Wishes, x9.Lead, x9.Trying, x9.Ballot, x9.Yes, x9.Best, x9.Acks, x9.Heard⟩ : VRecorder)).set x0_2.toNat (⟨x10.Number, x10.Of, x10.Up, x10.Safe_Promise, x10.Safe_Known, x10.Safe_Slots, r8.2, x10.Disk_Known, x10.Disk_Slots, x10.Held, x10.Wishes, x10.Lead, x10.Trying, x10.Ballot, x10.Yes, x10.Best, x10.Acks, x10.Heard⟩ : VRecorder)).set x0_2.toNat ((⟨x11.Number, x11.Of, x11.Up, x11.Safe_Promise, x11.Safe_Known, x11.Safe_Slots, x11.Disk_Promise, IntKind.i64.wrap (r8.2 + 1), x11.Disk_Slots, x11.Held, x11.Wishes, x11.Lead, x11.Trying, x11.Ballot, x11.Yes, x11.Best, x11.Acks, x11.Heard⟩ : VRecorder))).set x0_2.toNat (⟨x15.Number, x15.Of, x15.Up, x15.Safe_Promise, x15.Safe_Known, x15.Safe_Slots, x15.Disk_Promise, x15.Disk_Known, r14.1, x15.Held, x15.Wishes, x15.Lead, x15.Trying, x15.Ballot, x15.Yes, x15.Best, x15.Acks, x15.Heard⟩ : VRecorder)).set x0_2.toNat (⟨x19.Number, x19.Of, x19.Up, x19.Safe_Promise, x19.Safe_Known, x19.Safe_Slots, x19.Disk_Promise, x19.Disk_Known, x19.Disk_Slots, r18.1, x19.Wishes, x19.Lead, x19.Trying, x19.Ballot, x19.Yes, x19.Best, x19.Acks, x19.Heard⟩ : VRecorder)).set x0_2.toNat (⟨x23.Number, x23.Of, x23.Up, x23.Safe_Promise, x23.Safe_Known, x23.Safe_Slots, x23.Disk_Promise, x23.Disk_Known, x23.Disk_Slots, x23.Held, r22.1, x23.Lead, x23.Trying, x23.Ballot, x23.Yes, x23.Best, x23.Acks, x23.Heard⟩ : VRecorder)).set x0_2.toNat ((⟨x24.Number, x24.Of, x24.Up, x24.Safe_Promise, x24.Safe_Known, x24.Safe_Slots, x24.Disk_Promise, x24.Disk_Known, x24.Disk_Slots, x24.Held, x24.Wishes, (r22.2.tmod 3) == 0, x24.Trying, x24.Ballot, x24.Yes, x24.Best, x24.Acks, x24.Heard⟩ : VRecorder))).set x0_2.toNat ((⟨x25.Number, x25.Of, x25.Up, x25.Safe_Promise, x25.Safe_Known, x25.Safe_Slots, x25.Disk_Promise, x25.Disk_Known, x25.Disk_Slots, x25.Held, x25.Wishes, x25.Lead, ((IntKind.i64.wrap (r22.2 + 1)).tmod 3) == 0, x25.Ballot, x25.Yes, x25.Best, x25.Acks, x25.Heard⟩ : VRecorder))).set x0_2.toNat ((⟨x26.Number, x26.Of, x26.Up, x26.Safe_Promise, x26.Safe_Known, x26.Safe_Slots, x26.Disk_Promise, x26.Disk_Known, x26.Disk_Slots, x26.Held, x26.Wishes, x26.Lead, x26.Trying, IntKind.i64.wrap ((IntKind.i64.wrap (r22.2 + 1)) + 1), x26.Yes, x26.Best, x26.Acks, x26.Heard⟩ : VRecorder))).set x0_2.toNat (⟨x30.Number, x30.Of, x30.Up, x30.Safe_Promise, x30.Safe_Known, x30.Safe_Slots, x30.Disk_Promise, x30.Disk_Known, x30.Disk_Slots, x30.Held, x30.Wishes, x30.Lead, x30.Trying, x30.Ballot, r29.1, x30.Best, x30.Acks, x30.Heard⟩ : VRecorder))[x0_2.toNat]? fun x32 => Option.bind (G83 x32.Best r29.2) fun r33 =>
      Option.bind (((((((((((((((x0_0.set x0_2.toNat (⟨x0_1, x1.Of, x1.Up, x1.Safe_Promise, x1.Safe_Known, x1.Safe_Slots, x1.Disk_Promise, x1.Disk_Known, x1.Disk_Slots, x1.Held, x1.Wishes, x1.Lead, x1.Trying, x1.Ballot, x1.Yes, x1.Best, x1.Acks, x1.Heard⟩ : VRecorder)).set x0_2.toNat ((⟨x2.Number, IntKind.i64.wrap (x0_1 + 1), x2.Up, x2.Safe_Promise, x2.Safe_Known, x2.Safe_Slots, x2.Disk_Promise, x2.Disk_Known, x2.Disk_Slots, x2.Held, x2.Wishes, x2.Lead, x2.Trying, x2.Ballot, x2.Yes, x2.Best, x2.Acks, x2.Heard⟩ : VRecorder))).set x0_2.toNat ((⟨x3.Number, x3.Of, ((IntKind.i64.wrap ((IntKind.i64.wrap (x0_1 + 1)) + 1)).tmod 3) == 0, x3.Safe_Promise, x3.Safe_Known, x3.Safe_Slots, x3.Disk_Promise, x3.Disk_Known, x3.Disk_Slots, x3.Held, x3.Wishes, x3.Lead, x3.Trying, x3.Ballot, x3.Yes, x3.Best, x3.Acks, x3.Heard⟩ : VRecorder))).set x0_2.toNat ((⟨x4.Number, x4.Of, x4.Up, IntKind.i64.wrap ((IntKind.i64.wrap ((IntKind.i64.wrap (x0_1 + 1)) + 1)) + 1), x4.Safe_Known, x4.Safe_Slots, x4.Disk_Promise, x4.Disk_Known, x4.Disk_Slots, x4.Held, x4.Wishes, x4.Lead, x4.Trying, x4.Ballot, x4.Yes, x4.Best, x4.Acks, x4.Heard⟩ : VRecorder))).set x0_2.toNat ((⟨x5.Number, x5.Of, x5.Up, x5.Safe_Promise, IntKind.i64.wrap ((IntKind.i64.wrap ((IntKind.i64.wrap ((IntKind.i64.wrap (x0_1 + 1)) + 1)) + 1)) + 1), x5.Safe_Slots, x5.Disk_Promise, x5.Disk_Known, x5.Disk_Slots, x5.Held, x5.Wishes, x5.Lead, x5.Trying, x5.Ballot, x5.Yes, x5.Best, x5.Acks, x5.Heard⟩ : VRecorder))).set x0_2.toNat (⟨x9.Number, x9.Of, x9.Up, x9.Safe_Promise, x9.Safe_Known, r8.1, x9.Disk_Promise, x9.Disk_Known, x9.Disk_Slots, x9.Held, x9.Wishes, x9.Lead, x9.Trying, x9.Ballot, x9.Yes, x9.Best, x9.Acks, x9.Heard⟩ : VRecorder)).set x0_2.toNat (⟨x10.Number, x10.Of, x10.Up, x10.Safe_Promise, x10.Safe_Known, x10.Safe_Slots, r8.2, x10.Disk_Known, x10.Disk_Slots, x10.Held, x10.Wishes, x10.Lead, x10.Trying, x10.Ballot, x10.Yes, x10.Best, x10.Acks, x10.Heard⟩ : VRecorder)).set x0_2.toNat ((⟨x11.Number, x11.Of, x11.Up, x11.Safe_Promise, x11.Safe_Known, x11.Safe_Slots, x11.Disk_Promise, IntKind.i64.wrap (r8.2 + 1), x11.Disk_Slots, x11.Held, x11.Wishes, x11.Lead, x11.Trying, x11.Ballot, x11.Yes, x11.Best, x11.Acks, x11.Heard⟩ : VRecorder))).set x0_2.toNat (⟨x15.Number, x15.Of, x15.Up, x15.Safe_Promise, x15.Safe_Known, x15.Safe_Slots, x15.Disk_Promise, x15.Disk_Known, r14.1, x15.Held, x15.Wishes, x15.Lead, x15.Trying, x15.Ballot, x15.Yes, x15.Best, x15.Acks, x15.Heard⟩ : VRecorder)).set x0_2.toNat (⟨x19.Number, x19.Of, x19.Up, x19.Safe_Promise, x19.Safe_Known, x19.Safe_Slots, x19.Disk_Promise, x19.Disk_Known, x19.Disk_Slots, r18.1, x19.Wishes, x19.Lead, x19.Trying, x19.Ballot, x19.Yes, x19.Best, x19.Acks, x19.Heard⟩ : VRecorder)).set x0_2.toNat (⟨x23.Number, x23.Of, x23.Up, x23.Safe_Promise, x23.Safe_Known, x23.Safe_Slots, x23.Disk_Promise, x23.Disk_Known, x23.Disk_Slots, x23.Held, r22.1, x23.Lead, x23.Trying, x23.Ballot, x23.Yes, x23.Best, x23.Acks, x23.Heard⟩ : VRecorder)).set x0_2.toNat ((⟨x24.Number, x24.Of, x24.Up, x24.Safe_Promise, x24.Safe_Known, x24.Safe_Slots, x24.Disk_Promise, x24.Disk_Known, x24.Disk_Slots, x24.Held, x24.Wishes, (r22.2.tmod 3) == 0, x24.Trying, x24.Ballot, x24.Yes, x24.Best, x24.Acks, x24.Heard⟩ : VRecorder))).set x0_2.toNat ((⟨x25.Number, x25.Of, x25.Up, x25.Safe_Promise, x25.Safe_Known, x25.Safe_Slots, x25.Disk_Promise, x25.Disk_Known, x25.Disk_Slots, x25.Held, x25.Wishes, x25.Lead, ((IntKind.i64.wrap (r22.2 + 1)).tmod 3) == 0, x25.Ballot, x25.Yes, x25.Best, x25.Acks, x25.Heard⟩ : VRecorder))).set x0_2.toNat ((⟨x26.Number, x26.Of, x26.Up, x26.Safe_Promise, x26.Safe_Known, x26.Safe_Slots, x26.Disk_Promise, x26.Disk_Known, x26.Disk_Slots, x26.Held, x26.Wishes, x26.Lead, x26.Trying, IntKind.i64.wrap ((IntKind.i64.wrap (r22.2 + 1)) + 1), x26.Yes, x26.Best, x26.Acks, x26.Heard⟩ : VRecorder))).set x0_2.toNat (⟨x30.Number, x30.Of, x30.Up, x30.Safe_Promise, x30.Safe_Known, x30.Safe_Slots, x30.Disk_Promise, x30.Disk_Known, x30.Disk_Slots, x30.Held, x30.Wishes, x30.Lead, x30.Trying, x30.Ballot, r29.1, x30.Best, x30.Acks, x30.Heard⟩ : VRecorder))[x0_2.toNat]? fun x34 => cond (decide (0 ≤ x0_2)) (cond (decide (x0_2 < (((((((((((((((((x0_0.set x0_2.toNat (⟨x0_1, x1.Of, x1.Up, x1.Safe_Promise, x1.Safe_Known, x1.Safe_Slots, x1.Disk_Promise, x1.Disk_Known, x1.Disk_Slots, x1.Held, x1.Wishes, x1.Lead, x1.Trying, x1.Ballot, x1.Yes, x1.Best, x1.Acks, x1.Heard⟩ : VRecorder)).set x0_2.toNat ((⟨x2.Number, IntKind.i64.wrap (x0_1 + 1), x2.Up, x2.Safe_Promise, x2.Safe_Known, x2.Safe_Slots, x2.Disk_Promise, x2.Disk_Known, x2.Disk_Slots, x2.Held, x2.Wishes, x2.Lead, x2.Trying, x2.Ballot, x2.Yes, x2.Best, x2.Acks, x2.Heard⟩ : VRecorder))).set x0_2.toNat ((⟨x3.Number, x3.Of, ((IntKind.i64.wrap ((IntKind.i64.wrap (x0_1 + 1)) + 1)).tmod 3) == 0, x3.Safe_Promise, x3.Safe_Known, x3.Safe_Slots, x3.Disk_Promise, x3.Disk_Known, x3.Disk_Slots, x3.Held, x3.Wishes, x3.Lead, x3.Trying, x3.Ballot, x3.Yes, x3.Best, x3.Acks, x3.Heard⟩ : VRecorder))).set x0_2.toNat ((⟨x4.Number, x4.Of, x4.Up, IntKind.i64.wrap ((IntKind.i64.wrap ((IntKind.i64.wrap (x0_1 + 1)) + 1)) + 1), x4.Safe_Known, x4.Safe_Slots, x4.Disk_Promise, x4.Disk_Known, x4.Disk_Slots, x4.Held, x4.Wishes, x4.Lead, x4.Trying, x4.Ballot, x4.Yes, x4.Best, x4.Acks, x4.Heard⟩ : VRecorder))).set x0_2.toNat ((⟨x5.Number, x5.Of, x5.Up, x5.Safe_Promise, IntKind.i64.wrap ((IntKind.i64.wrap ((IntKind.i64.wrap ((IntKind.i64.wrap (x0_1 + 1)) + 1)) + 1)) + 1), x5.Safe_Slots, x5.Disk_Promise, x5.Disk_Known, x5.Disk_Slots, x5.Held, x5.Wishes, x5.Lead, x5.Trying, x5.Ballot, x5.Yes, x5.Best, x5.Acks, x5.Heard⟩ : VRecorder))).set x0_2.toNat (⟨x9.Number, x9.Of, x9.Up, x9.Safe_Promise, x9.Safe_Known, r8.1, x9.Disk_Promise, x9.Disk_Known, x9.Disk_Slots, x9.Held, x9.Wishes, x9.Lead, x9.Trying, x9.Ballot, x9.Yes, x9.Best, x9.Acks, x9.Heard⟩ : VRecorder)).set x0_2.toNat (⟨x10.Number, x10.Of, x10.Up, x10.Safe_Promise, x10.Safe_Known, x10.Safe_Slots, r8.2, x10.Disk_Known, x10.Disk_Slots, x10.Held, x10.Wishes, x10.Lead, x10.Trying, x10.Ballot, x10.Yes, x10.Best, x10.Acks, x10.Heard⟩ : VRecorder)).set x0_2.toNat ((⟨x11.Number, x11.Of, x11.Up, x11.Safe_Promise, x11.Safe_Known, x11.Safe_Slots, x11.Disk_Promise, IntKind.i64.wrap (r8.2 + 1), x11.Disk_Slots, x11.Held, x11.Wishes, x11.Lead, x11.Trying, x11.Ballot, x11.Yes, x11.Best, x11.Acks, x11.Heard⟩ : VRecorder))).set x0_2.toNat (⟨x15.Number, x15.Of, x15.Up, x15.Safe_Promise, x15.Safe_Known, x15.Safe_Slots, x15.Disk_Promise, x15.Disk_Known, r14.1, x15.Held, x15.Wishes, x15.Lead, x15.Trying, x15.Ballot, x15.Yes, x15.Best, x15.Acks, x15.Heard⟩ : VRecorder)).set x0_2.toNat (⟨x19.Number, x19.Of, x19.Up, x19.Safe_Promise, x19.Safe_Known, x19.Safe_Slots, x19.Disk_Promise, x19.Disk_Known, x19.Disk_Slots, r18.1, x19.Wishes, x19.Lead, x19.Trying, x19.Ballot, x19.Yes, x19.Best, x19.Acks, x19.Heard⟩ : VRecorder)).set x0_2.toNat (⟨x23.Number, x23.Of, x23.Up, x23.Safe_Promise, x23.Safe_Known, x23.Safe_Slots, x23.Disk_Promise, x23.Disk_Known, x23.Disk_Slots, x23.Held, r22.1, x23.Lead, x23.Trying, x23.Ballot, x23.Yes, x23.Best, x23.Acks, x23.Heard⟩ : VRecorder)).set x0_2.toNat ((⟨x24.Number, x24.Of, x24.Up, x24.Safe_Promise, x24.Safe_Known, x24.Safe_Slots, x24.Disk_Promise, x24.Disk_Known, x24.Disk_Slots, x24.Held, x24.Wishes, (r22.2.tmod 3) == 0, x24.Trying, x24.Ballot, x24.Yes, x24.Best, x24.Acks, x24.Heard⟩ : VRecorder))).set x0_2.toNat ((⟨x25.Number, x25.Of, x25.Up, x25.Safe_Promise, x25.Safe_Known, x25.Safe_Slots, x25.Disk_Promise, x25.Disk_Known, x25.Disk_Slots, x25.Held, x25.Wishes, x25.Lead, ((IntKind.i64.wrap (r22.2 + 1)).tmod 3) == 0, x25.Ballot, x25.Yes, x25.Best, x25.Acks, x25.Heard⟩ : VRecorder))).set x0_2.toNat ((⟨x26.Number, x26.Of, x26.Up, x26.Safe_Promise, x26.Safe_Known, x26.Safe_Slots, x26.Disk_Promise, x26.Disk_Known, x26.Disk_Slots, x26.Held, x26.Wishes, x26.Lead, x26.Trying, IntKind.i64.wrap ((IntKind.i64.wrap (r22.2 + 1)) + 1), x26.Yes, x26.Best, x26.Acks, x26.Heard⟩ : VRecorder))).set x0_2.toNat (⟨x30.Number, x30.Of, x30.Up, x30.Safe_Promise, x30.Safe_Known, x30.Safe_Slots, x30.Disk_Promise, x30.Disk_Known, x30.Disk_Slots, x30.Held, x30.Wishes, x30.Lead, x30.Trying, x30.Ballot, r29.1, x30.Best, x30.Acks, x30.Heard⟩ : VRecorder)).set x0_2.toNat (⟨x34.Number, x34.Of, x34.Up, x34.Safe_Promise, x34.Safe_Known, x34.Safe_Slots, x34.Disk_Promise, x34.Disk_Known, x34.Disk_Slots, x34.Held, x34.Wishes, x34.Lead, x34.Trying, x34.Ballot, x34.Yes, r33.1, x34.Acks, x34.Heard⟩ : VRecorder)).length : Int))) (Option.bind ((((((((((((((((x0_0.set x0_2.toNat (⟨x0_1, x1.Of, x1.Up, x1.Safe_Promise, x1.Safe_Known, x1.Safe_Slots, x1.Disk_Promise, x1.Disk_Known, x1.Disk_Slots, x1.Held, x1.Wishes, x1.Lead, x1.Trying, x1.Ballot, x1.Yes, x1.Best, x1.Acks, x1.Heard⟩ : VRecorder)).set x0_2.toNat ((⟨x2.Number, IntKind.i64.wrap (x0_1 + 1), x2.Up, x2.Safe_Promise, x2.Safe_Known, x2.Safe_Slots, x2.Disk_Promise, x2.Disk_Known, x2.Disk_Slots, x2.Held, x2.Wishes, x2.Lead, x2.Trying, x2.Ballot, x2.Yes, x2.Best, x2.Acks, x2.Heard⟩ : VRecorder))).set x0_2.toNat ((⟨x3.Number, x3.Of, ((IntKind.i64.wrap ((IntKind.i64.wrap (x0_1 + 1)) + 1)).tmod 3) == 0, x3.Safe_Promise, x3.Safe_Known, x3.Safe_Slots, x3.Disk_Promise, x3.Disk_Known, x3.Disk_Slots, x3.Held, x3.Wishes, x3.Lead, x3.Trying, x3.Ballot, x3.Yes, x3.Best, x3.Acks, x3.Heard⟩ : VRecorder))).set x0_2.toNat ((⟨x4.Number, x4.Of, x4.Up, IntKind.i64.wrap ((IntKind.i64.wrap ((IntKind.i64.wrap (x0_1 + 1)) + 1)) + 1), x4.Safe_Known, x4.Safe_Slots, x4.Disk_Promise, x4.Disk_Known, x4.Disk_Slots, x4.Held, x4.Wishes, x4.Lead, x4.Trying, x4.Ballot, x4.Yes, x4.Best, x4.Acks, x4.Heard⟩ : VRecorder))).set x0_2.toNat ((⟨x5.Number, x5.Of, x5.Up, x5.Safe_Promise, IntKind.i64.wrap ((IntKind.i64.wrap ((IntKind.i64.wrap ((IntKind.i64.wrap (x0_1 + 1)) + 1)) + 1)) + 1), x5.Safe_Slots, x5.Disk_Promise, x5.Disk_Known, x5.Disk_Slots, x5.Held, x5.Wishes, x5.Lead, x5.Trying, x5.Ballot, x5.Yes, x5.Best, x5.Acks, x5.Heard⟩ : VRecorder))).set x0_2.toNat (⟨x9.Number, x9.Of, x9.Up, x9.Safe_Promise, x9.Safe_Known, r8.1, x9.Disk_Promise, x9.Disk_Known, x9.Disk_Slots, x9.Held, x9.Wishes, x9.Lead, x9.Trying, x9.Ballot, x9.Yes, x9.Best, x9.Acks, x9.Heard⟩ : VRecorder)).set x0_2.toNat (⟨x10.Number, x10.Of, x10.Up, x10.Safe_Promise, x10.Safe_Known, x10.Safe_Slots, r8.2, x10.Disk_Known, x10.Disk_Slots, x10.Held, x10.Wishes, x10.Lead, x10.Trying, x10.Ballot, x10.Yes, x10.Best, x10.Acks, x10.Heard⟩ : VRecorder)).set x0_2.toNat ((⟨x11.Number, x11.Of, x11.Up, x11.Safe_Promise, x11.Safe_Known, x11.Safe_Slots, x11.Disk_Promise, IntKind.i64.wrap (r8.2 + 1), x11.Disk_Slots, x11.Held, x11.Wishes, x11.Lead, x11.Trying, x11.Ballot, x11.Yes, x11.Best, x11.Acks, x11.Heard⟩ : VRecorder))).set x0_2.toNat (⟨x15.Number, x15.Of, x15.Up, x15.Safe_Promise, x15.Safe_Known, x15.Safe_Slots, x15.Disk_Promise, x15.Disk_Known, r14.1, x15.Held, x15.Wishes, x15.Lead, x15.Trying, x15.Ballot, x15.Yes, x15.Best, x15.Acks, x15.Heard⟩ : VRecorder)).set x0_2.toNat (⟨x19.Number, x19.Of, x19.Up, x19.Safe_Promise, x19.Safe_Known, x19.Safe_Slots, x19.Disk_Promise, x19.Disk_Known, x19.Disk_Slots, r18.1, x19.Wishes, x19.Lead, x19.Trying, x19.Ballot, x19.Yes, x19.Best, x19.Acks, x19.Heard⟩ : VRecorder)).set x0_2.toNat (⟨x23.Number, x23.Of, x23.Up, x23.Safe_Promise, x23.Safe_Known, x23.Safe_Slots, x23.Disk_Promise, x23.Disk_Known, x23.Disk_Slots, x23.Held, r22.1, x23.Lead, x23.Trying, x23.Ballot, x23.Yes, x23.Best, x23.Acks, x23.Heard⟩ : VRecorder)).set x0_2.toNat ((⟨x24.Number, x24.Of, x24.Up, x24.Safe_Promise, x24.Safe_Known, x24.Safe_Slots, x24.Disk_Promise, x24.Disk_Known, x24.Disk_Slots, x24.Held, x24.Wishes, (r22.2.tmod 3) == 0, x24.Trying, x24.Ballot, x24.Yes, x24.Best, x24.Acks, x24.Heard⟩ : VRecorder))).set x0_2.toNat ((⟨x25.Number, x25.Of, x25.Up, x25.Safe_Promise, x25.Safe_Known, x25.Safe_Slots, x25.Disk_Promise, x25.Disk_Known, x25.Disk_Slots, x25.Held, x25.Wishes, x25.Lead, ((IntKind.i64.wrap (r22.2 + 1)).tmod 3) == 0, x25.Ballot, x25.Yes, x25.Best, x25.Acks, x25.Heard⟩ : VRecorder))).set x0_2.toNat ((⟨x26.Number, x26.Of, x26.Up, x26.Safe_Promise, x26.Safe_Known, x26.Safe_Slots, x26.Disk_Promise, x26.Disk_Known, x26.Disk_Slots, x26.Held, x26.Wishes, x26.Lead, x26.Trying, IntKind.i64.wrap ((IntKind.i64.wrap (r22.2 + 1)) + 1), x26.Yes, x26.Best, x26.Acks, x26.Heard⟩ : VRecorder))).set x0_2.toNat (⟨x30.Number, x30.Of, x30.Up, x30.Safe_Promise, x30.Safe_Known, x30.Safe_Slots, x30.Disk_Promise, x30.Disk_Known, x30.Disk_Slots, x30.Held, x30.Wishes, x30.Lead, x30.Trying, x30.Ballot, r29.1, x30.Best, x30.Acks, x30.Heard⟩ : VRecorder)).set x0_2.toNat (⟨x34.Number, x34.Of, x34.Up, x34.Safe_Promise, x34.Safe_Known, x34.Safe_Slots, x34.Disk_Promise, x34.Disk_Known, x34.Disk_Slots, x34.Held, x34.Wishes, x34.Lead, x34.Trying, x34.Ballot, x34.Yes, r33.1, x34.Acks, x34.Heard⟩ : VRecorder))[x0_2.toNat]? fun x35 => Option.bind ((((((((((((((((x0_0.set x0_2.toNat (⟨x0_1, x1.Of, x1.Up, x1.Safe_Promise, x1.Safe_Known, x1.Safe_Slots, x1.Disk_Promise, x1.Disk_Known, x1.Disk_Slots, x1.Held, x1.Wishes, x1.Lead, x1.Trying, x1.Ballot, x1.Yes, x1.Best, x1.Acks, x1.Heard⟩ : VRecorder)).set x0_2.toNat ((⟨x2.Number, IntKind.i64.wrap (x0_1 + 1), x2.Up, x2.Safe_Promise, x2.Safe_Known, x2.Safe_Slots, x2.Disk_Promise, x2.Disk_Known, x2.Disk_Slots, x2.Held, x2.Wishes, x2.Lead, x2.Trying, x2.Ballot, x2.Yes, x2.Best, x2.Acks, x2.Heard⟩ : VRecorder))).set x0_2.toNat ((⟨x3.Number, x3.Of, ((IntKind.i64.wrap ((IntKind.i64.wrap (x0_1 + 1)) + 1)).tmod 3) == 0, x3.Safe_Promise, x3.Safe_Known, x3.Safe_Slots, x3.Disk_Promise, x3.Disk_Known, x3.Disk_Slots, x3.Held, x3.Wishes, x3.Lead, x3.Trying, x3.Ballot, x3.Yes, x3.Best, x3.Acks, x3.Heard⟩ : VRecorder))).set x0_2.toNat ((⟨x4.Number, x4.Of, x4.Up, IntKind.i64.wrap ((IntKind.i64.wrap ((IntKind.i64.wrap (x0_1 + 1)) + 1)) + 1), x4.Safe_Known, x4.Safe_Slots, x4.Disk_Promise, x4.Disk_Known, x4.Disk_Slots, x4.Held, x4.Wishes, x4.Lead, x4.Trying, x4.Ballot, x4.Yes, x4.Best, x4.Acks, x4.Heard⟩ : VRecorder))).set x0_2.toNat ((⟨x5.Number, x5.Of, x5.Up, x5.Safe_Promise, IntKind.i64.wrap ((IntKind.i64.wrap ((IntKind.i64.wrap ((IntKind.i64.wrap (x0_1 + 1)) + 1)) + 1)) + 1), x5.Safe_Slots, x5.Disk_Promise, x5.Disk_Known, x5.Disk_Slots, x5.Held, x5.Wishes, x5.Lead, x5.Trying, x5.Ballot, x5.Yes, x5.Best, x5.Acks, x5.Heard⟩ : VRecorder))).set x0_2.toNat (⟨x9.Number, x9.Of, x9.Up, x9.Safe_Promise, x9.Safe_Known, r8.1, x9.Disk_Promise, x9.Disk_Known, x9.Disk_Slots, x9.Held, x9.Wishes, x9.Lead, x9.Trying, x9.Ballot, x9.Yes, x9.Best, x9.Acks, x9.Heard⟩ : VRecorder)).set x0_2.toNat (⟨x10.Number, x10.Of, x10.Up, x10.Safe_Promise, x10.Safe_Known, x10.Safe_Slots, r8.2, x10.Disk_Known, x10.Disk_Slots, x10.Held, x10.Wishes, x10.Lead, x10.Trying, x10.Ballot, x10.Yes, x10.Best, x10.Acks, x10.Heard⟩ : VRecorder)).set x0_2.toNat ((⟨x11.Number, x11.Of, x11.Up, x11.Safe_Promise, x11.Safe_Known, x11.Safe_Slots, x11.Disk_Promise, IntKind.i64.wrap (r8.2 + 1), x11.Disk_Slots, x11.Held, x11.Wishes, x11.Lead, x11.Trying, x11.Ballot, x11.Yes, x11.Best, x11.Acks, x11.Heard⟩ : VRecorder))).set x0_2.toNat (⟨x15.Number, x15.Of, x15.Up, x15.Safe_Promise, x15.Safe_Known, x15.Safe_Slots, x15.Disk_Promise, x15.Disk_Known, r14.1, x15.Held, x15.Wishes, x15.Lead, x15.Trying, x15.Ballot, x15.Yes, x15.Best, x15.Acks, x15.Heard⟩ : VRecorder)).set x0_2.toNat (⟨x19.Number, x19.Of, x19.Up, x19.Safe_Promise, x19.Safe_Known, x19.Safe_Slots, x19.Disk_Promise, x19.Disk_Known, x19.Disk_Slots, r18.1, x19.Wishes, x19.Lead, x19.Trying, x19.Ballot, x19.Yes, x19.Best, x19.Acks, x19.Heard⟩ : VRecorder)).set x0_2.toNat (⟨x23.Number, x23.Of, x23.Up, x23.Safe_Promise, x23.Safe_Known, x23.Safe_Slots, x23.Disk_Promise, x23.Disk_Known, x23.Disk_Slots, x23.Held, r22.1, x23.Lead, x23.Trying, x23.Ballot, x23.Yes, x23.Best, x23.Acks, x23.Heard⟩ : VRecorder)).set x0_2.toNat ((⟨x24.Number, x24.Of, x24.Up, x24.Safe_Promise, x24.Safe_Known, x24.Safe_Slots, x24.Disk_Promise, x24.Disk_Known, x24.Disk_Slots, x24.Held, x24.Wishes, (r22.2.tmod 3) == 0, x24.Trying, x24.Ballot, x24.Yes, x24.Best, x24.Acks, x24.Heard⟩ : VRecorder))).set x0_2.toNat ((⟨x25.Number, x25.Of, x25.Up, x25.Safe_Promise, x25.Safe_Known, x25.Safe_Slots, x25.Disk_Promise, x25.Disk_Known, x25.Disk_Slots, x25.Held, x25.Wishes, x25.Lead, ((IntKind.i64.wrap (r22.2 + 1)).tmod 3) == 0, x25.Ballot, x25.Yes, x25.Best, x25.Acks, x25.Heard⟩ : VRecorder))).set x0_2.toNat ((⟨x26.Number, x26.Of, x26.Up, x26.Safe_Promise, x26.Safe_Known, x26.Safe_Slots, x26.Disk_Promise, x26.Disk_Known, x26.Disk_Slots, x26.Held, x26.Wishes, x26.Lead, x26.Trying, IntKind.i64.wrap ((IntKind.i64.wrap (r22.2 + 1)) + 1), x26.Yes, x26.Best, x26.Acks, x26.Heard⟩ : VRecorder))).set x0_2.toNat (⟨x30.Number, x30.Of, x30.Up, x30.Safe_Promise, x30.Safe_Known, x30.Safe_Slots, x30.Disk_Promise, x30.Disk_Known, x30.Disk_Slots, x30.Held, x30.Wishes, x30.Lead, x30.Trying, x30.Ballot, r29.1, x30.Best, x30.Acks, x30.Heard⟩ : VRecorder)).set x0_2.toNat (⟨x34.Number, x34.Of, x34.Up, x34.Safe_Promise, x34.Safe_Known, x34.Safe_Slots, x34.Disk_Promise, x34.Disk_Known, x34.Disk_Slots, x34.Held, x34.Wishes, x34.Lead, x34.Trying, x34.Ballot, x34.Yes, r33.1, x34.Acks, x34.Heard⟩ : VRecorder))[x0_2.toNat]? fun x36 => Option.bind (G85 x36.Acks r33.2) fun r37 =>
      Option.bind ((((((((((((((((x0_0.set x0_2.toNat (⟨x0_1, x1.Of, x1.Up, x1.Safe_Promise, x1.Safe_Known, x1.Safe_Slots, x1.Disk_Promise, x1.Disk_Known, x1.Disk_Slots, x1.Held, x1.Wishes, x1.Lead, x1.Trying, x1.Ballot, x1.Yes, x1.Best, x1.Acks, x1.Heard⟩ : VRecorder)).set x0_2.toNat ((⟨x2.Number, IntKind.i64.wrap (x0_1 + 1), x2.Up, x2.Safe_Promise, x2.Safe_Known, x2.Safe_Slots, x2.Disk_Promise, x2.Disk_Known, x2.Disk_Slots, x2.Held, x2.Wishes, x2.Lead, x2.Trying, x2.Ballot, x2.Yes, x2.Best, x2.Acks, x2.Heard⟩ : VRecorder))).set x0_2.toNat ((⟨x3.Number, x3.Of, ((IntKind.i64.wrap ((IntKind.i64.wrap (x0_1 + 1)) + 1)).tmod 3) == 0, x3.Safe_Promise, x3.Safe_Known, x3.Safe_Slots, x3.Disk_Promise, x3.Disk_Known, x3.Disk_Slots, x3.Held, x3.Wishes, x3.Lead, x3.Trying, x3.Ballot, x3.Yes, x3.Best, x3.Acks, x3.Heard⟩ : VRecorder))).set x0_2.toNat ((⟨x4.Number, x4.Of, x4.Up, IntKind.i64.wrap ((IntKind.i64.wrap ((IntKind.i64.wrap (x0_1 + 1)) + 1)) + 1), x4.Safe_Known, x4.Safe_Slots, x4.Disk_Promise, x4.Disk_Known, x4.Disk_Slots, x4.Held, x4.Wishes, x4.Lead, x4.Trying, x4.Ballot, x4.Yes, x4.Best, x4.Acks, x4.Heard⟩ : VRecorder))).set x0_2.toNat ((⟨x5.Number, x5.Of, x5.Up, x5.Safe_Promise, IntKind.i64.wrap ((IntKind.i64.wrap ((IntKind.i64.wrap ((IntKind.i64.wrap (x0_1 + 1)) + 1)) + 1)) + 1), x5.Safe_Slots, x5.Disk_Promise, x5.Disk_Known, x5.Disk_Slots, x5.Held, x5.Wishes, x5.Lead, x5.Trying, x5.Ballot, x5.Yes, x5.Best, x5.Acks, x5.Heard⟩ : VRecorder))).set x0_2.toNat (⟨x9.Number, x9.Of, x9.Up, x9.Safe_Promise, x9.Safe_Known, r8.1, x9.Disk_Promise, x9.Disk_Known, x9.Disk_Slots, x9.Held, x9.Wishes, x9.Lead, x9.Trying, x9.Ballot, x9.Yes, x9.Best, x9.Acks, x9.Heard⟩ : VRecorder)).set x0_2.toNat (⟨x10.Number, x10.Of, x10.Up, x10.Safe_Promise, x10.Safe_Known, x10.Safe_Slots, r8.2, x10.Disk_Known, x10.Disk_Slots, x10.Held, x10.Wishes, x10.Lead, x10.Trying, x10.Ballot, x10.Yes, x10.Best, x10.Acks, x10.Heard⟩ : VRecorder)).set x0_2.toNat ((⟨x11.Number, x11.Of, x11.Up, x11.Safe_Promise, x11.Safe_Known, x11.Safe_Slots, x11.Disk_Promise, IntKind.i64.wrap (r8.2 + 1), x11.Disk_Slots, x11.Held, x11.Wishes, x11.Lead, x11.Trying, x11.Ballot, x11.Yes, x11.Best, x11.Acks, x11.Heard⟩ : VRecorder))).set x0_2.toNat (⟨x15.Number, x15.Of, x15.Up, x15.Safe_Promise, x15.Safe_Known, x15.Safe_Slots, x15.Disk_Promise, x15.Disk_Known, r14.1, x15.Held, x15.Wishes, x15.Lead, x15.Trying, x15.Ballot, x15.Yes, x15.Best, x15.Acks, x15.Heard⟩ : VRecorder)).set x0_2.toNat (⟨x19.Number, x19.Of, x19.Up, x19.Safe_Promise, x19.Safe_Known, x19.Safe_Slots, x19.Disk_Promise, x19.Disk_Known, x19.Disk_Slots, r18.1, x19.Wishes, x19.Lead, x19.Trying, x19.Ballot, x19.Yes, x19.Best, x19.Acks, x19.Heard⟩ : VRecorder)).set x0_2.toNat (⟨x23.Number, x23.Of, x23.Up, x23.Safe_Promise, x23.Safe_Known, x23.Safe_Slots, x23.Disk_Promise, x23.Disk_Known, x23.Disk_Slots, x23.Held, r22.1, x23.Lead, x23.Trying, x23.Ballot, x23.Yes, x23.Best, x23.Acks, x23.Heard⟩ : VRecorder)).set x0_2.toNat ((⟨x24.Number, x24.Of, x24.Up, x24.Safe_Promise, x24.Safe_Known, x24.Safe_Slots, x24.Disk_Promise, x24.Disk_Known, x24.Disk_Slots, x24.Held, x24.Wishes, (r22.2.tmod 3) == 0, x24.Trying, x24.Ballot, x24.Yes, x24.Best, x24.Acks, x24.Heard⟩ : VRecorder))).set x0_2.toNat ((⟨x25.Number, x25.Of, x25.Up, x25.Safe_Promise, x25.Safe_Known, x25.Safe_Slots, x25.Disk_Promise, x25.Disk_Known, x25.Disk_Slots, x25.Held, x25.Wishes, x25.Lead, ((IntKind.i64.wrap (r22.2 + 1)).tmod 3) == 0, x25.Ballot, x25.Yes, x25.Best, x25.Acks, x25.Heard⟩ : VRecorder))).set x0_2.toNat ((⟨x26.Number, x26.Of, x26.Up, x26.Safe_Promise, x26.Safe_Known, x26.Safe_Slots, x26.Disk_Promise, x26.Disk_Known, x26.Disk_Slots, x26.Held, x26.Wishes, x26.Lead, x26.Trying, IntKind.i64.wrap ((IntKind.i64.wrap (r22.2 + 1)) + 1), x26.Yes, x26.Best, x26.Acks, x26.Heard⟩ : VRecorder))).set x0_2.toNat (⟨x30.Number, x30.Of, x30.Up, x30.Safe_Promise, x30.Safe_Known, x30.Safe_Slots, x30.Disk_Promise, x30.Disk_Known, x30.Disk_Slots, x30.Held, x30.Wishes, x30.Lead, x30.Trying, x30.Ballot, r29.1, x30.Best, x30.Acks, x30.Heard⟩ : VRecorder)).set x0_2.toNat (⟨x34.Number, x34.Of, x34.Up, x34.Safe_Promise, x34.Safe_Known, x34.Safe_Slots, x34.Disk_Promise, x34.Disk_Known, x34.Disk_Slots, x34.Held, x34.Wishes, x34.Lead, x34.Trying, x34.Ballot, x34.Yes, r33.1, x34.Acks, x34.Heard⟩ : VRecorder))[x0_2.toNat]? fun x38 => cond (decide (0 ≤ x0_2)) (cond (decide (x0_2 < ((((((((((((((((((x0_0.set x0_2.toNat (⟨x0_1, x1.Of, x1.Up, x1.Safe_Promise, x1.Safe_Known, x1.Safe_Slots, x1.Disk_Promise, x1.Disk_Known, x1.Disk_Slots, x1.Held, x1.Wishes, x1.Lead, x1.Trying, x1.Ballot, x1.Yes, x1.Best, x1.Acks, x1.Heard⟩ : VRecorder)).set x0_2.toNat ((⟨x2.Number, IntKind.i64.wrap (x0_1 + 1), x2.Up, x2.Safe_Promise, x2.Safe_Known, x2.Safe_Slots, x2.Disk_Promise, x2.Disk_Known, x2.Disk_Slots, x2.Held, x2.Wishes, x2.Lead, x2.Trying, x2.Ballot, x2.Yes, x2.Best, x2.Acks, x2.Heard⟩ : VRecorder))).set x0_2.toNat ((⟨x3.Number, x3.Of, ((IntKind.i64.wrap ((IntKind.i64.wrap (x0_1 + 1)) + 1)).tmod 3) == 0, x3.Safe_Promise, x3.Safe_Known, x3.Safe_Slots, x3.Disk_Promise, x3.Disk_Known, x3.Disk_Slots, x3.Held, x3.Wishes, x3.Lead, x3.Trying, x3.Ballot, x3.Yes, x3.Best, x3.Acks, x3.Heard⟩ : VRecorder))).set x0_2.toNat ((⟨x4.Number, x4.Of, x4.Up, IntKind.i64.wrap ((IntKind.i64.wrap ((IntKind.i64.wrap (x0_1 + 1)) + 1)) + 1), x4.Safe_Known, x4.Safe_Slots, x4.Disk_Promise, x4.Disk_Known, x4.Disk_Slots, x4.Held, x4.Wishes, x4.Lead, x4.Trying, x4.Ballot, x4.Yes, x4.Best, x4.Acks, x4.Heard⟩ : VRecorder))).set x0_2.toNat ((⟨x5.Number, x5.Of, x5.Up, x5.Safe_Promise, IntKind.i64.wrap ((IntKind.i64.wrap ((IntKind.i64.wrap ((IntKind.i64.wrap (x0_1 + 1)) + 1)) + 1)) + 1), x5.Safe_Slots, x5.Disk_Promise, x5.Disk_Known, x5.Disk_Slots, x5.Held, x5.Wishes, x5.Lead, x5.Trying, x5.Ballot, x5.Yes, x5.Best, x5.Acks, x5.Heard⟩ : VRecorder))).set x0_2.toNat (⟨x9.Number, x9.Of, x9.Up, x9.Safe_Promise, x9.Safe_Known, r8.1, x9.Disk_Promise, x9.Disk_Known, x9.Disk_Slots, x9.Held, x9.Wishes, x9.Lead, x9.Trying, x9.Ballot, x9.Yes, x9.Best, x9.Acks, x9.Heard⟩ : VRecorder)).set x0_2.toNat (⟨x10.Number, x10.Of, x10.Up, x10.Safe_Promise, x10.Safe_Known, x10.Safe_Slots, r8.2, x10.Disk_Known, x10.Disk_Slots, x10.Held, x10.Wishes, x10.Lead, x10.Trying, x10.Ballot, x10.Yes, x10.Best, x10.Acks, x10.Heard⟩ : VRecorder)).set x0_2.toNat ((⟨x11.Number, x11.Of, x11.Up, x11.Safe_Promise, x11.Safe_Known, x11.Safe_Slots, x11.Disk_Promise, IntKind.i64.wrap (r8.2 + 1), x11.Disk_Slots, x11.Held, x11.Wishes, x11.Lead, x11.Trying, x11.Ballot, x11.Yes, x11.Best, x11.Acks, x11.Heard⟩ : VRecorder))).set x0_2.toNat (⟨x15.Number, x15.Of, x15.Up, x15.Safe_Promise, x15.Safe_Known, x15.Safe_Slots, x15.Disk_Promise, x15.Disk_Known, r14.1, x15.Held, x15.Wishes, x15.Lead, x15.Trying, x15.Ballot, x15.Yes, x15.Best, x15.Acks, x15.Heard⟩ : VRecorder)).set x0_2.toNat (⟨x19.Number, x19.Of, x19.Up, x19.Safe_Promise, x19.Safe_Known, x19.Safe_Slots, x19.Disk_Promise, x19.Disk_Known, x19.Disk_Slots, r18.1, x19.Wishes, x19.Lead, x19.Trying, x19.Ballot, x19.Yes, x19.Best, x19.Acks, x19.Heard⟩ : VRecorder)).set x0_2.toNat (⟨x23.Number, x23.Of, x23.Up, x23.Safe_Promise, x23.Safe_Known, x23.Safe_Slots, x23.Disk_Promise, x23.Disk_Known, x23.Disk_Slots, x23.Held, r22.1, x23.Lead, x23.Trying, x23.Ballot, x23.Yes, x23.Best, x23.Acks, x23.Heard⟩ : VRecorder)).set x0_2.toNat ((⟨x24.Number, x24.Of, x24.Up, x24.Safe_Promise, x24.Safe_Known, x24.Safe_Slots, x24.Disk_Promise, x24.Disk_Known, x24.Disk_Slots, x24.Held, x24.Wishes, (r22.2.tmod 3) == 0, x24.Trying, x24.Ballot, x24.Yes, x24.Best, x24.Acks, x24.Heard⟩ : VRecorder))).set x0_2.toNat ((⟨x25.Number, x25.Of, x25.Up, x25.Safe_Promise, x25.Safe_Known, x25.Safe_Slots, x25.Disk_Promise, x25.Disk_Known, x25.Disk_Slots, x25.Held, x25.Wishes, x25.Lead, ((IntKind.i64.wrap (r22.2 + 1)).tmod 3) == 0, x25.Ballot, x25.Yes, x25.Best, x25.Acks, x25.Heard⟩ : VRecorder))).set x0_2.toNat ((⟨x26.Number, x26.Of, x26.Up, x26.Safe_Promise, x26.Safe_Known, x26.Safe_Slots, x26.Disk_Promise, x26.Disk_Known, x26.Disk_Slots, x26.Held, x26.Wishes, x26.Lead, x26.Trying, IntKind.i64.wrap ((IntKind.i64.wrap (r22.2 + 1)) + 1), x26.Yes, x26.Best, x26.Acks, x26.Heard⟩ : VRecorder))).set x0_2.toNat (⟨x30.Number, x30.Of, x30.Up, x30.Safe_Promise, x30.Safe_Known, x30.Safe_Slots, x30.Disk_Promise, x30.Disk_Known, x30.Disk_Slots, x30.Held, x30.Wishes, x30.Lead, x30.Trying, x30.Ballot, r29.1, x30.Best, x30.Acks, x30.Heard⟩ : VRecorder)).set x0_2.toNat (⟨x34.Number, x34.Of, x34.Up, x34.Safe_Promise, x34.Safe_Known, x34.Safe_Slots, x34.Disk_Promise, x34.Disk_Known, x34.Disk_Slots, x34.Held, x34.Wishes, x34.Lead, x34.Trying, x34.Ballot, x34.Yes, r33.1, x34.Acks, x34.Heard⟩ : VRecorder)).set x0_2.toNat (⟨x38.Number, x38.Of, x38.Up, x38.Safe_Promise, x38.Safe_Known, x38.Safe_Slots, x38.Disk_Promise, x38.Disk_Known, x38.Disk_Slots, x38.Held, x38.Wishes, x38.Lead, x38.Trying, x38.Ballot, x38.Yes, x38.Best, r37.1, x38.Heard⟩ : VRecorder)).length : Int))) (Option.bind (((((((((((((((((x0_0.set x0_2.toNat (⟨x0_1, x1.Of, x1.Up, x1.Safe_Promise, x1.Safe_Known, x1.Safe_Slots, x1.Disk_Promise, x1.Disk_Known, x1.Disk_Slots, x1.Held, x1.Wishes, x1.Lead, x1.Trying, x1.Ballot, x1.Yes, x1.Best, x1.Acks, x1.Heard⟩ : VRecorder)).set x0_2.toNat ((⟨x2.Number, IntKind.i64.wrap (x0_1 + 1), x2.Up, x2.Safe_Promise, x2.Safe_Known, x2.Safe_Slots, x2.Disk_Promise, x2.Disk_Known, x2.Disk_Slots, x2.Held, x2.Wishes, x2.Lead, x2.Trying, x2.Ballot, x2.Yes, x2.Best, x2.Acks, x2.Heard⟩ : VRecorder))).set x0_2.toNat ((⟨x3.Number, x3.Of, ((IntKind.i64.wrap ((IntKind.i64.wrap (x0_1 + 1)) + 1)).tmod 3) == 0, x3.Safe_Promise, x3.Safe_Known, x3.Safe_Slots, x3.Disk_Promise, x3.Disk_Known, x3.Disk_Slots, x3.Held, x3.Wishes, x3.Lead, x3.Trying, x3.Ballot, x3.Yes, x3.Best, x3.Acks, x3.Heard⟩ : VRecorder))).set x0_2.toNat ((⟨x4.Number, x4.Of, x4.Up, IntKind.i64.wrap ((IntKind.i64.wrap ((IntKind.i64.wrap (x0_1 + 1)) + 1)) + 1), x4.Safe_Known, x4.Safe_Slots, x4.Disk_Promise, x4.Disk_Known, x4.Disk_Slots, x4.Held, x4.Wishes, x4.Lead, x4.Trying, x4.Ballot, x4.Yes, x4.Best, x4.Acks, x4.Heard⟩ : VRecorder))).set x0_2.toNat ((⟨x5.Number, x5.Of, x5.Up, x5.Safe_Promise, IntKind.i64.wrap ((IntKind.i64.wrap ((IntKind.i64.wrap ((IntKind.i64.wrap (x0_1 + 1)) + 1)) + 1)) + 1), x5.Safe_Slots, x5.Disk_Promise, x5.Disk_Known, x5.Disk_Slots, x5.Held, x5.Wishes, x5.Lead, x5.Trying, x5.Ballot, x5.Yes, x5.Best, x5.Acks, x5.Heard⟩ : VRecorder))).set x0_2.toNat (⟨x9.Number, x9.Of, x9.Up, x9.Safe_Promise, x9.Safe_Known, r8.1, x9.Disk_Promise, x9.Disk_Known, x9.Disk_Slots, x9.Held, x9.Wishes, x9.Lead, x9.Trying, x9.Ballot, x9.Yes, x9.Best, x9.Acks, x9.Heard⟩ : VRecorder)).set x0_2.toNat (⟨x10.Number, x10.Of, x10.Up, x10.Safe_Promise, x10.Safe_Known, x10.Safe_Slots, r8.2, x10.Disk_Known, x10.Disk_Slots, x10.Held, x10.Wishes, x10.Lead, x10.Trying, x10.Ballot, x10.Yes, x10.Best, x10.Acks, x10.Heard⟩ : VRecorder)).set x0_2.toNat ((⟨x11.Number, x11.Of, x11.Up, x11.Safe_Promise, x11.Safe_Known, x11.Safe_Slots, x11.Disk_Promise, IntKind.i64.wrap (r8.2 + 1), x11.Disk_Slots, x11.Held, x11.Wishes, x11.Lead, x11.Trying, x11.Ballot, x11.Yes, x11.Best, x11.Acks, x11.Heard⟩ : VRecorder))).set x0_2.toNat (⟨x15.Number, x15.Of, x15.Up, x15.Safe_Promise, x15.Safe_Known, x15.Safe_Slots, x15.Disk_Promise, x15.Disk_Known, r14.1, x15.Held, x15.Wishes, x15.Lead, x15.Trying, x15.Ballot, x15.Yes, x15.Best, x15.Acks, x15.Heard⟩ : VRecorder)).set x0_2.toNat (⟨x19.Number, x19.Of, x19.Up, x19.Safe_Promise, x19.Safe_Known, x19.Safe_Slots, x19.Disk_Promise, x19.Disk_Known, x19.Disk_Slots, r18.1, x19.Wishes, x19.Lead, x19.Trying, x19.Ballot, x19.Yes, x19.Best, x19.Acks, x19.Heard⟩ : VRecorder)).set x0_2.toNat (⟨x23.Number, x23.Of, x23.Up, x23.Safe_Promise, x23.Safe_Known, x23.Safe_Slots, x23.Disk_Promise, x23.Disk_Known, x23.Disk_Slots, x23.Held, r22.1, x23.Lead, x23.Trying, x23.Ballot, x23.Yes, x23.Best, x23.Acks, x23.Heard⟩ : VRecorder)).set x0_2.toNat ((⟨x24.Number, x24.Of, x24.Up, x24.Safe_Promise, x24.Safe_Known, x24.Safe_Slots, x24.Disk_Promise, x24.Disk_Known, x24.Disk_Slots, x24.Held, x24.Wishes, (r22.2.tmod 3) == 0, x24.Trying, x24.Ballot, x24.Yes, x24.Best, x24.Acks, x24.Heard⟩ : VRecorder))).set x0_2.toNat ((⟨x25.Number, x25.Of, x25.Up, x25.Safe_Promise, x25.Safe_Known, x25.Safe_Slots, x25.Disk_Promise, x25.Disk_Known, x25.Disk_Slots, x25.Held, x25.Wishes, x25.Lead, ((IntKind.i64.wrap (r22.2 + 1)).tmod 3) == 0, x25.Ballot, x25.Yes, x25.Best, x25.Acks, x25.Heard⟩ : VRecorder))).set x0_2.toNat ((⟨x26.Number, x26.Of, x26.Up, x26.Safe_Promise, x26.Safe_Known, x26.Safe_Slots, x26.Disk_Promise, x26.Disk_Known, x26.Disk_Slots, x26.Held, x26.Wishes, x26.Lead, x26.Trying, IntKind.i64.wrap ((IntKind.i64.wrap (r22.2 + 1)) + 1), x26.Yes, x26.Best, x26.Acks, x26.Heard⟩ : VRecorder))).set x0_2.toNat (⟨x30.Number, x30.Of, x30.Up, x30.Safe_Promise, x30.Safe_Known, x30.Safe_Slots, x30.Disk_Promise, x30.Disk_Known, x30.Disk_Slots, x30.Held, x30.Wishes, x30.Lead, x30.Trying, x30.Ballot, r29.1, x30.Best, x30.Acks, x30.Heard⟩ : VRecorder)).set x0_2.toNat (⟨x34.Number, x34.Of, x34.Up, x34.Safe_Promise, x34.Safe_Known, x34.Safe_Slots, x34.Disk_Promise, x34.Disk_Known, x34.Disk_Slots, x34.Held, x34.Wishes, x34.Lead, x34.Trying, x34.Ballot, x34.Yes, r33.1, x34.Acks, x34.Heard⟩ : VRecorder)).set x0_2.toNat (⟨x38.Number, x38.Of, x38.Up, x38.Safe_Promise, x38.Safe_Known, x38.Safe_Slots, x38.Disk_Promise, x38.Disk_Known, x38.Disk_Slots, x38.Held, x38.Wishes, x38.Lead, x38.Trying, x38.Ballot, x38.Yes, x38.Best, r37.1, x38.Heard⟩ : VRecorder))[x0_2.toNat]? fun x39 => rec0 ((((((((((((((((((x0_0.set x0_2.toNat (⟨x0_1, x1.Of, x1.Up, x1.Safe_Promise, x1.Safe_Known, x1.Safe_Slots, x1.Disk_Promise, x1.Disk_Known, x1.Disk_Slots, x1.Held, x1.Wishes, x1.Lead, x1.Trying, x1.Ballot, x1.Yes, x1.Best, x1.Acks, x1.Heard⟩ : VRecorder)).set x0_2.toNat ((⟨x2.Number, IntKind.i64.wrap (x0_1 + 1), x2.Up, x2.Safe_Promise, x2.Safe_Known, x2.Safe_Slots, x2.Disk_Promise, x2.Disk_Known, x2.Disk_Slots, x2.Held, x2.Wishes, x2.Lead, x2.Trying, x2.Ballot, x2.Yes, x2.Best, x2.Acks, x2.Heard⟩ : VRecorder))).set x0_2.toNat ((⟨x3.Number, x3.Of, ((IntKind.i64.wrap ((IntKind.i64.wrap (x0_1 + 1)) + 1)).tmod 3) == 0, x3.Safe_Promise, x3.Safe_Known, x3.Safe_Slots, x3.Disk_Promise, x3.Disk_Known, x3.Disk_Slots, x3.Held, x3.Wishes, x3.Lead, x3.Trying, x3.Ballot, x3.Yes, x3.Best, x3.Acks, x3.Heard⟩ : VRecorder))).set x0_2.toNat ((⟨x4.Number, x4.Of, x4.Up, IntKind.i64.wrap ((IntKind.i64.wrap ((IntKind.i64.wrap (x0_1 + 1)) + 1)) + 1), x4.Safe_Known, x4.Safe_Slots, x4.Disk_Promise, x4.Disk_Known, x4.Disk_Slots, x4.Held, x4.Wishes, x4.Lead, x4.Trying, x4.Ballot, x4.Yes, x4.Best, x4.Acks, x4.Heard⟩ : VRecorder))).set x0_2.toNat ((⟨x5.Number, x5.Of, x5.Up, x5.Safe_Promise, IntKind.i64.wrap ((IntKind.i64.wrap ((IntKind.i64.wrap ((IntKind.i64.wrap (x0_1 + 1)) + 1)) + 1)) + 1), x5.Safe_Slots, x5.Disk_Promise, x5.Disk_Known, x5.Disk_Slots, x5.Held, x5.Wishes, x5.Lead, x5.Trying, x5.Ballot, x5.Yes, x5.Best, x5.Acks, x5.Heard⟩ : VRecorder))).set x0_2.toNat (⟨x9.Number, x9.Of, x9.Up, x9.Safe_Promise, x9.Safe_Known, r8.1, x9.Disk_Promise, x9.Disk_Known, x9.Disk_Slots, x9.Held, x9.Wishes, x9.Lead, x9.Trying, x9.Ballot, x9.Yes, x9.Best, x9.Acks, x9.Heard⟩ : VRecorder)).set x0_2.toNat (⟨x10.Number, x10.Of, x10.Up, x10.Safe_Promise, x10.Safe_Known, x10.Safe_Slots, r8.2, x10.Disk_Known, x10.Disk_Slots, x10.Held, x10.Wishes, x10.Lead, x10.Trying, x10.Ballot, x10.Yes, x10.Best, x10.Acks, x10.Heard⟩ : VRecorder)).set x0_2.toNat ((⟨x11.Number, x11.Of, x11.Up, x11.Safe_Promise, x11.Safe_Known, x11.Safe_Slots, x11.Disk_Promise, IntKind.i64.wrap (r8.2 + 1), x11.Disk_Slots, x11.Held, x11.Wishes, x11.Lead, x11.Trying, x11.Ballot, x11.Yes, x11.Best, x11.Acks, x11.Heard⟩ : VRecorder))).set x0_2.toNat (⟨x15.Number, x15.Of, x15.Up, x15.Safe_Promise, x15.Safe_Known, x15.Safe_Slots, x15.Disk_Promise, x15.Disk_Known, r14.1, x15.Held, x15.Wishes, x15.Lead, x15.Trying, x15.Ballot, x15.Yes, x15.Best, x15.Acks, x15.Heard⟩ : VRecorder)).set x0_2.toNat (⟨x19.Number, x19.Of, x19.Up, x19.Safe_Promise, x19.Safe_Known, x19.Safe_Slots, x19.Disk_Promise, x19.Disk_Known, x19.Disk_Slots, r18.1, x19.Wishes, x19.Lead, x19.Trying, x19.Ballot, x19.Yes, x19.Best, x19.Acks, x19.Heard⟩ : VRecorder)).set x0_2.toNat (⟨x23.Number, x23.Of, x23.Up, x23.Safe_Promise, x23.Safe_Known, x23.Safe_Slots, x23.Disk_Promise, x23.Disk_Known, x23.Disk_Slots, x23.Held, r22.1, x23.Lead, x23.Trying, x23.Ballot, x23.Yes, x23.Best, x23.Acks, x23.Heard⟩ : VRecorder)).set x0_2.toNat ((⟨x24.Number, x24.Of, x24.Up, x24.Safe_Promise, x24.Safe_Known, x24.Safe_Slots, x24.Disk_Promise, x24.Disk_Known, x24.Disk_Slots, x24.Held, x24.Wishes, (r22.2.tmod 3) == 0, x24.Trying, x24.Ballot, x24.Yes, x24.Best, x24.Acks, x24.Heard⟩ : VRecorder))).set x0_2.toNat ((⟨x25.Number, x25.Of, x25.Up, x25.Safe_Promise, x25.Safe_Known, x25.Safe_Slots, x25.Disk_Promise, x25.Disk_Known, x25.Disk_Slots, x25.Held, x25.Wishes, x25.Lead, ((IntKind.i64.wrap (r22.2 + 1)).tmod 3) == 0, x25.Ballot, x25.Yes, x25.Best, x25.Acks, x25.Heard⟩ : VRecorder))).set x0_2.toNat ((⟨x26.Number, x26.Of, x26.Up, x26.Safe_Promise, x26.Safe_Known, x26.Safe_Slots, x26.Disk_Promise, x26.Disk_Known, x26.Disk_Slots, x26.Held, x26.Wishes, x26.Lead, x26.Trying, IntKind.i64.wrap ((IntKind.i64.wrap (r22.2 + 1)) + 1), x26.Yes, x26.Best, x26.Acks, x26.Heard⟩ : VRecorder))).set x0_2.toNat (⟨x30.Number, x30.Of, x30.Up, x30.Safe_Promise, x30.Safe_Known, x30.Safe_Slots, x30.Disk_Promise, x30.Disk_Known, x30.Disk_Slots, x30.Held, x30.Wishes, x30.Lead, x30.Trying, x30.Ballot, r29.1, x30.Best, x30.Acks, x30.Heard⟩ : VRecorder)).set x0_2.toNat (⟨x34.Number, x34.Of, x34.Up, x34.Safe_Promise, x34.Safe_Known, x34.Safe_Slots, x34.Disk_Promise, x34.Disk_Known, x34.Disk_Slots, x34.Held, x34.Wishes, x34.Lead, x34.Trying, x34.Ballot, x34.Yes, r33.1, x34.Acks, x34.Heard⟩ : VRecorder)).set x0_2.toNat (⟨x38.Number, x38.Of, x38.Up, x38.Safe_Promise, x38.Safe_Known, x38.Safe_Slots, x38.Disk_Promise, x38.Disk_Known, x38.Disk_Slots, x38.Held, x38.Wishes, x38.Lead, x38.Trying, x38.Ballot, x38.Yes, x38.Best, r37.1, x38.Heard⟩ : VRecorder)).set x0_2.toNat (⟨x39.Number, x39.Of, x39.Up, x39.Safe_Promise, x39.Safe_Known, x39.Safe_Slots, x39.Disk_Promise, x39.Disk_Known, x39.Disk_Slots, x39.Held, x39.Wishes, x39.Lead, x39.Trying, x39.Ballot, x39.Yes, x39.Best, x39.Acks, r37.2⟩ : VRecorder), IntKind.i64.wrap (r37.2 + 1), IntKind.i64.wrap (x0_2 + 1))) none) none) none) none) none) none) none) none) none) none) none) none)) none) none)) none) none) none) none) none) none) none) none) none) none) none) none) none) none) none) none) none) none)) none) none) none) none)
      (some (x0_0, x0_1))
noncomputable def LP60_0 (n : Nat)  (x : A60_0) : Option (List (C .e84) × Int) := lpN (r60_0 n ) n x
noncomputable def MP60_0 (kp : Nat → Prop) (kh : Nat → Option Obj) (hd : Nat → Value) (n : Nat)  (x : A60_0) : Option (List (C .e84) × Int) := iter (fun rec S => run (X60.gh kp kh hd) (F60 n) (codeAt (bodyOf Go.Proofs.Try.f60) [1, 0, 1, 0, 0]) 0 S (lopK rec (blkK 0 (seqK (run (X60.gh kp kh hd) (F60 n) (codeAt (bodyOf Go.Proofs.Try.f60) [1, 1]) 0) (kTopW (X60.gh kp kh hd) Go.Proofs.Try.f60 [true, false] dec60))))) [0, 1, 5, 90000, 90001] n (s60_0 x)
theorem m60_0 (kp : Nat → Prop) (kh : Nat → Option Obj) (hd : Nat → Value) (n : Nat)  (x : A60_0) : MP60_0 kp kh hd n  x = LP60_0 n  x := by
  refine iter_eq s60_0 (r60_0 n ) (fun rec0 x => ?_) n x
  obtain ⟨x0_0, x0_1, x0_2⟩ := x
  kernel_rfl
noncomputable def G60n (n : Nat) (a0 : List (C .e84)) (a1 : Int) : Option (List (C .e84) × Int) :=
      LP60_0 n  (a0, a1, 0)
theorem t60 (kp : Nat → Prop) (kh : Nat → Option Obj) (hd : Nat → Value) (n : Nat) (a0 : List (C .e84)) (a1 : Int) : runFnW (X60.gh kp kh hd) (F60 n) Go.Proofs.Try.f60 [(false, [.row .e84 a0]), (false, [.int .i64 a1])] dec60 = G60n n a0 a1 := by
  have h : runFnW (X60.gh kp kh hd) (F60 n) Go.Proofs.Try.f60 [(false, [.row .e84 a0]), (false, [.int .i64 a1])] dec60 =
      MP60_0 kp kh hd n  (a0, a1, 0) := by kernel_rfl
  simp only [h, G60n, m60_0]
noncomputable def G60 (a0 : List (C .e84)) (a1 : Int) : Option (List (C .e84) × Int) := G60n fuel a0 a1
noncomputable def con60 : ConW C := { R0 := List (C .e84) × Int, out := fun r => [.row .e84 r.1], ret := fun r => [(false, [.int .i64 r.2])], g := fun rs => match rs with
  | [(false, [.row .e84 y0]), (false, [.int .i64 y1])] => G60 y0 y1
  | _ => none }
theorem x60 : XOk Go.Proofs.Try.prog X60 := ⟨tks_ok, els_ok⟩
theorem q60 : Cons Go.Proofs.Try.prog X60 := ⟨lkR_ok (l := []) trivial, lkW_ok (l := [(59, con59), (61, con61), (83, con83), (84, con84), (85, con85)]) ⟨c59, c61, c83, c84, c85, trivial⟩⟩
theorem c60 : ConWOk Go.Proofs.Try.prog KK 60 con60 := by
  refine conw_of x60 q60 (by kernel_rfl) (f := 60) (fn := Go.Proofs.Try.f60) (c := bodyOf Go.Proofs.Try.f60) (by kernel_rfl) (by kernel_rfl) (by kernel_rfl) (nameB (by kernel_rfl)) con60 dec60 (fun os rs r0 h => ?_) (fun rs r0 h => ?_)
  · unfold dec60 at h
    split at h
    · cases h; exact ⟨rfl, rfl⟩
    · cases h
  · simp only [con60] at h
    split at h
    · rename_i y0 y1
      exact ⟨Nat.le_of_ble_eq_true (by kernel_rfl), F60 fuel, fun kp kh hd => (t60 kp kh hd fuel y0 y1).trans h⟩
    · cases h
/-! ### f62 loop.example/wharfdesk/laws.markRecFixS -/
noncomputable def X62 : Cx C := { K := KK, tk := lk tks, con := lkC [(58, con58)], conw := lkC [] }
def F62 (n : Nat) : Cf := { N := n, keep := [0, 1, 4, 5, 9, 90000, 90001], live := lk [(0, [0, 1, 5, 90000, 90001])] }
def dec62 (os : List (Lf C)) (rs : List (Bool × List (Lf C))) : Option (List (C .e119) × Int) := match os, rs with
  | [.row .e119 o0], [(false, [.int .i64 z0])] => some (o0, z0)
  | _, _ => none
abbrev A62_0 : Type := List (C .e119) × Int × Int
def s62_0 : A62_0 → St C := fun (x0_0, x0_1, x0_2) => { env := [(0, .one (.ref 100000 [])), (1, .one (.int .i64 x0_1)), (5, .one (.int .i64 x0_2)), (90000, .frame), (90001, .hdr 100000 0)], objs := [(100000, .row .e119 x0_0 false)], base := 0 }
noncomputable def r62_0 (n : Nat)  (rec0 : A62_0 → Option (List (C .e119) × Int)) : A62_0 → Option (List (C .e119) × Int) := fun (x0_0, x0_1, x0_2) =>
      cond (decide (x0_2 < (x0_0.length : Int)))
      (cond (decide (0 ≤ x0_2)) (cond (decide (x0_2 < (x0_0.length : Int))) (Option.bind x0_0[x0_2.toNat]? fun x1 => Option.bind (G58 (IntKind.i64.wrap (x0_1 + 1))) fun r2 =>
      cond (decide (0 ≤ x0_2)) (cond (decide (x0_2 < ((x0_0.set x0_2.toNat (⟨x0_1, x1.Text⟩ : VRecFix)).length : Int))) (Option.bind (x0_0.set x0_2.toNat (⟨x0_1, x1.Text⟩ : VRecFix))[x0_2.toNat]? fun x3 => rec0 ((x0_0.set x0_2.toNat (⟨x0_1, x1.Text⟩ : VRecFix)).set x0_2.toNat (⟨x3.Index, r2⟩ : VRecFix), IntKind.i64.wrap ((IntKind.i64.wrap (x0_1 + 1)) + 1), IntKind.i64.wrap (x0_2 + 1))) none) none) none) none)
      (some (x0_0, x0_1))
noncomputable def LP62_0 (n : Nat)  (x : A62_0) : Option (List (C .e119) × Int) := lpN (r62_0 n ) n x
noncomputable def MP62_0 (kp : Nat → Prop) (kh : Nat → Option Obj) (hd : Nat → Value) (n : Nat)  (x : A62_0) : Option (List (C .e119) × Int) := iter (fun rec S => run (X62.gh kp kh hd) (F62 n) (codeAt (bodyOf Go.Proofs.Try.f62) [1, 0, 1, 0, 0]) 0 S (lopK rec (blkK 0 (seqK (run (X62.gh kp kh hd) (F62 n) (codeAt (bodyOf Go.Proofs.Try.f62) [1, 1]) 0) (kTopW (X62.gh kp kh hd) Go.Proofs.Try.f62 [true, false] dec62))))) [0, 1, 5, 90000, 90001] n (s62_0 x)
theorem m62_0 (kp : Nat → Prop) (kh : Nat → Option Obj) (hd : Nat → Value) (n : Nat)  (x : A62_0) : MP62_0 kp kh hd n  x = LP62_0 n  x := by
  refine iter_eq s62_0 (r62_0 n ) (fun rec0 x => ?_) n x
  obtain ⟨x0_0, x0_1, x0_2⟩ := x
  kernel_rfl
noncomputable def G62n (n : Nat) (a0 : List (C .e119)) (a1 : Int) : Option (List (C .e119) × Int) :=
      LP62_0 n  (a0, a1, 0)
theorem t62 (kp : Nat → Prop) (kh : Nat → Option Obj) (hd : Nat → Value) (n : Nat) (a0 : List (C .e119)) (a1 : Int) : runFnW (X62.gh kp kh hd) (F62 n) Go.Proofs.Try.f62 [(false, [.row .e119 a0]), (false, [.int .i64 a1])] dec62 = G62n n a0 a1 := by
  have h : runFnW (X62.gh kp kh hd) (F62 n) Go.Proofs.Try.f62 [(false, [.row .e119 a0]), (false, [.int .i64 a1])] dec62 =
      MP62_0 kp kh hd n  (a0, a1, 0) := by kernel_rfl
  simp only [h, G62n, m62_0]
noncomputable def G62 (a0 : List (C .e119)) (a1 : Int) : Option (List (C .e119) × Int) := G62n fuel a0 a1
noncomputable def con62 : ConW C := { R0 := List (C .e119) × Int, out := fun r => [.row .e119 r.1], ret := fun r => [(false, [.int .i64 r.2])], g := fun rs => match rs with
  | [(false, [.row .e119 y0]), (false, [.int .i64 y1])] => G62 y0 y1
  | _ => none }
theorem x62 : XOk Go.Proofs.Try.prog X62 := ⟨tks_ok, els_ok⟩
theorem q62 : Cons Go.Proofs.Try.prog X62 := ⟨lkR_ok (l := [(58, con58)]) ⟨c58, trivial⟩, lkW_ok (l := []) trivial⟩
theorem c62 : ConWOk Go.Proofs.Try.prog KK 62 con62 := by
  refine conw_of x62 q62 (by kernel_rfl) (f := 62) (fn := Go.Proofs.Try.f62) (c := bodyOf Go.Proofs.Try.f62) (by kernel_rfl) (by kernel_rfl) (by kernel_rfl) (nameB (by kernel_rfl)) con62 dec62 (fun os rs r0 h => ?_) (fun rs r0 h => ?_)
  · unfold dec62 at h
    split at h
    · cases h; exact ⟨rfl, rfl⟩
    · cases h
  · simp only [con62] at h
    split at h
    · rename_i y0 y1
      exact ⟨Nat.le_of_ble_eq_true (by kernel_rfl), F62 fuel, fun kp kh hd => (t62 kp kh hd fuel y0 y1).trans h⟩
    · cases h

end Go.Proofs.Ytgpopgfidphheaa.Ab
