/- The functions that the law calls, written plainly, and their contracts: each call answers what its plain function answers. No conditions. -/
import Derived.Test.YtgpopgfidphheaaGb
set_option linter.unusedVariables false
set_option linter.unusedSimpArgs false
set_option maxRecDepth 100000
namespace Go.Proofs.Ytgpopgfidphheaa.Ab
open Go Go.RowKit
/-! ### f30 loop.example/wharfdesk/laws.markRecWorld -/
noncomputable def X30 : Cx C := { K := KK, tk := lk tks, con := lkC [], conw := lkC [(60, con60), (61, con61), (62, con62)] }
def F30 (n : Nat) : Cf := { N := n, keep := [0, 1, 2, 4, 90000, 90001, 90002, 90003], live := lk [] }
def dec30 (os : List (Lf C)) (rs : List (Bool × List (Lf C))) : Option (List (C .e84) × List (C .e116) × List (C .e119) × Int) := match os, rs with
  | [.row .e84 o0, .row .e116 o1, .row .e119 o2], [(false, [.int .i64 z0])] => some (o0, o1, o2, z0)
  | _, _ => none
noncomputable def G30n (n : Nat) (a0 : VRecWorld) (a1 : Int) : Option (List (C .e84) × List (C .e116) × List (C .e119) × Int) :=
      Option.bind (G60 a0.Recorders a1) fun r1 =>
      Option.bind (G61 a0.Flight r1.2) fun r2 =>
      Option.bind (G62 a0.Fixed r2.2) fun r3 =>
      some (r1.1, r2.1, r3.1, r3.2)
theorem t30 (kp : Nat → Prop) (kh : Nat → Option Obj) (hd : Nat → Value) (n : Nat) (a0 : VRecWorld) (a1 : Int) : runFnW (X30.gh kp kh hd) (F30 n) Go.Proofs.Try.f30 [(true, [.row .e84 a0.Recorders, .row .e116 a0.Flight, .row .e119 a0.Fixed]), (false, [.int .i64 a1])] dec30 = G30n n a0 a1 := by
  kernel_rfl
noncomputable def G30 (a0 : VRecWorld) (a1 : Int) : Option (List (C .e84) × List (C .e116) × List (C .e119) × Int) := G30n fuel a0 a1
noncomputable def con30 : ConW C := { R0 := List (C .e84) × List (C .e116) × List (C .e119) × Int, out := fun r => [.row .e84 r.1, .row .e116 r.2.1, .row .e119 r.2.2.1], ret := fun r => [(false, [.int .i64 r.2.2.2])], g := fun rs => match rs with
  | [(true, [.row .e84 y0_0, .row .e116 y0_1, .row .e119 y0_2]), (false, [.int .i64 y1])] => G30 ⟨y0_0, y0_1, y0_2⟩ y1
  | _ => none }
theorem x30 : XOk Go.Proofs.Try.prog X30 := ⟨tks_ok, els_ok⟩
theorem q30 : Cons Go.Proofs.Try.prog X30 := ⟨lkR_ok (l := []) trivial, lkW_ok (l := [(60, con60), (61, con61), (62, con62)]) ⟨c60, c61, c62, trivial⟩⟩
theorem c30 : ConWOk Go.Proofs.Try.prog KK 30 con30 := by
  refine conw_of x30 q30 (by kernel_rfl) (f := 30) (fn := Go.Proofs.Try.f30) (c := bodyOf Go.Proofs.Try.f30) (by kernel_rfl) (by kernel_rfl) (by kernel_rfl) (nameB (by kernel_rfl)) con30 dec30 (fun os rs r0 h => ?_) (fun rs r0 h => ?_)
  · unfold dec30 at h
    split at h
    · cases h; exact ⟨rfl, rfl⟩
    · cases h
  · simp only [con30] at h
    split at h
    · rename_i y0_0 y0_1 y0_2 y1
      exact ⟨Nat.le_of_ble_eq_true (by kernel_rfl), F30 fuel, fun kp kh hd => (t30 kp kh hd fuel ⟨y0_0, y0_1, y0_2⟩ y1).trans h⟩
    · cases h
/-! ### f31 loop.example/wharfdesk/laws.markHallAskedS -/
noncomputable def X31 : Cx C := { K := KK, tk := lk tks, con := lkC [(58, con58)], conw := lkC [] }
def F31 (n : Nat) : Cf := { N := n, keep := [0, 1, 4, 5, 9, 90000, 90001], live := lk [(0, [0, 1, 5, 90000, 90001])] }
def dec31 (os : List (Lf C)) (rs : List (Bool × List (Lf C))) : Option (List (C .e98) × Int) := match os, rs with
  | [.row .e98 o0], [(false, [.int .i64 z0])] => some (o0, z0)
  | _, _ => none
abbrev A31_0 : Type := List (C .e98) × Int × Int
def s31_0 : A31_0 → St C := fun (x0_0, x0_1, x0_2) => { env := [(0, .one (.ref 100000 [])), (1, .one (.int .i64 x0_1)), (5, .one (.int .i64 x0_2)), (90000, .frame), (90001, .hdr 100000 0)], objs := [(100000, .row .e98 x0_0 false)], base := 0 }
noncomputable def r31_0 (n : Nat)  (rec0 : A31_0 → Option (List (C .e98) × Int)) : A31_0 → Option (List (C .e98) × Int) := fun (x0_0, x0_1, x0_2) =>
      cond (decide (x0_2 < (x0_0.length : Int)))
      (Option.bind (G58 x0_1) fun r1 =>
      cond (decide (0 ≤ x0_2)) (cond (decide (x0_2 < (x0_0.length : Int))) (Option.bind x0_0[x0_2.toNat]? fun x2 => cond (decide (0 ≤ x0_2)) (cond (decide (x0_2 < ((x0_0.set x0_2.toNat (⟨r1, x2.From, x2.To, x2.Said_Code, x2.Said_Place, x2.Said_Version⟩ : VHallAsked)).length : Int))) (Option.bind (x0_0.set x0_2.toNat (⟨r1, x2.From, x2.To, x2.Said_Code, x2.Said_Place, x2.Said_Version⟩ : VHallAsked))[x0_2.toNat]? fun x3 => cond (decide (0 ≤ x0_2)) (cond (decide (x0_2 < (((x0_0.set x0_2.toNat (⟨r1, x2.From, x2.To, x2.Said_Code, x2.Said_Place, x2.Said_Version⟩ : VHallAsked)).set x0_2.toNat ((⟨x3.Text, IntKind.i64.wrap (x0_1 + 1), x3.To, x3.Said_Code, x3.Said_Place, x3.Said_Version⟩ : VHallAsked))).length : Int))) (Option.bind ((x0_0.set x0_2.toNat (⟨r1, x2.From, x2.To, x2.Said_Code, x2.Said_Place, x2.Said_Version⟩ : VHallAsked)).set x0_2.toNat ((⟨x3.Text, IntKind.i64.wrap (x0_1 + 1), x3.To, x3.Said_Code, x3.Said_Place, x3.Said_Version⟩ : VHallAsked)))[x0_2.toNat]? fun x4 => cond (decide (0 ≤ x0_2)) (cond (decide (x0_2 < ((((x0_0.set x0_2.toNat (⟨r1, x2.From, x2.To, x2.Said_Code, x2.Said_Place, x2.Said_Version⟩ : VHallAsked)).set x0_2.toNat ((⟨x3.Text, IntKind.i64.wrap (x0_1 + 1), x3.To, x3.Said_Code, x3.Said_Place, x3.Said_Version⟩ : VHallAsked))).set x0_2.toNat ((⟨x4.Text, x4.From, IntKind.i64.wrap ((IntKind.i64.wrap (x0_1 + 1)) + 1), x4.Said_Code, x4.Said_Place, x4.Said_Version⟩ : VHallAsked))).length : Int))) (Option.bind (((x0_0.set x0_2.toNat (⟨r1, x2.From, x2.To, x2.Said_Code, x2.Said_Place, x2.Said_Version⟩ : VHallAsked)).set x0_2.toNat ((⟨x3.Text, IntKind.i64.wrap (x0_1 + 1), x3.To, x3.Said_Code, x3.Said_Place, x3.Said_Version⟩ : VHallAsked))).set x0_2.toNat ((⟨x4.Text, x4.From, IntKind.i64.wrap ((IntKind.i64.wrap (x0_1 + 1)) + 1), x4.Said_Code, x4.Said_Place, x4.Said_Version⟩ : VHallAsked)))[x0_2.toNat]? fun x5 => cond (decide (0 ≤ x0_2)) (cond (decide (x0_2 < (((((x0_0.set x0_2.toNat (⟨r1, x2.From, x2.To, x2.Said_Code, x2.Said_Place, x2.Said_Version⟩ : VHallAsked)).set x0_2.toNat ((⟨x3.Text, IntKind.i64.wrap (x0_1 + 1), x3.To, x3.Said_Code, x3.Said_Place, x3.Said_Version⟩ : VHallAsked))).set x0_2.toNat ((⟨x4.Text, x4.From, IntKind.i64.wrap ((IntKind.i64.wrap (x0_1 + 1)) + 1), x4.Said_Code, x4.Said_Place, x4.Said_Version⟩ : VHallAsked))).set x0_2.toNat ((⟨x5.Text, x5.From, x5.To, IntKind.i64.wrap ((IntKind.i64.wrap ((IntKind.i64.wrap (x0_1 + 1)) + 1)) + 1), x5.Said_Place, x5.Said_Version⟩ : VHallAsked))).length : Int))) (Option.bind ((((x0_0.set x0_2.toNat (⟨r1, x2.From, x2.To, x2.Said_Code, x2.Said_Place, x2.Said_Version⟩ : VHallAsked)).set x0_2.toNat ((⟨x3.Text, IntKind.i64.wrap (x0_1 + 1), x3.To, x3.Said_Code, x3.Said_Place, x3.Said_Version⟩ : VHallAsked))).set x0_2.toNat ((⟨x4.Text, x4.From, IntKind.i64.wrap ((IntKind.i64.wrap (x0_1 + 1)) + 1), x4.Said_Code, x4.Said_Place, x4.Said_Version⟩ : VHallAsked))).set x0_2.toNat ((⟨x5.Text, x5.From, x5.To, IntKind.i64.wrap ((IntKind.i64.wrap ((IntKind.i64.wrap (x0_1 + 1)) + 1)) + 1), x5.Said_Place, x5.Said_Version⟩ : VHallAsked)))[x0_2.toNat]? fun x6 => cond (decide (0 ≤ x0_2)) (cond (decide (x0_2 < ((((((x0_0.set x0_2.toNat (⟨r1, x2.From, x2.To, x2.Said_Code, x2.Said_Place, x2.Said_Version⟩ : VHallAsked)).set x0_2.toNat ((⟨x3.Text, IntKind.i64.wrap (x0_1 + 1), x3.To, x3.Said_Code, x3.Said_Place, x3.Said_Version⟩ : VHallAsked))).set x0_2.toNat ((⟨x4.Text, x4.From, IntKind.i64.wrap ((IntKind.i64.wrap (x0_1 + 1)) + 1), x4.Said_Code, x4.Said_Place, x4.Said_Version⟩ : VHallAsked))).set x0_2.toNat ((⟨x5.Text, x5.From, x5.To, IntKind.i64.wrap ((IntKind.i64.wrap ((IntKind.i64.wrap (x0_1 + 1)) + 1)) + 1), x5.Said_Place, x5.Said_Version⟩ : VHallAsked))).set x0_2.toNat ((⟨x6.Text, x6.From, x6.To, x6.Said_Code, IntKind.i64.wrap ((IntKind.i64.wrap ((IntKind.i64.wrap ((IntKind.i64.wrap (x0_1 + 1)) + 1)) + 1)) + 1), x6.Said_Version⟩ : VHallAsked))).length : Int))) (Option.bind (((((x0_0.set x0_2.toNat (⟨r1, x2.From, x2.To, x2.Said_Code, x2.Said_Place, x2.Said_Version⟩ : VHallAsked)).set x0_2.toNat ((⟨x3.Text, IntKind.i64.wrap (x0_1 + 1), x3.To, x3.Said_Code, x3.Said_Place, x3.Said_Version⟩ : VHallAsked))).set x0_2.toNat ((⟨x4.Text, x4.From, IntKind.i64.wrap ((IntKind.i64.wrap (x0_1 + 1)) + 1), x4.Said_Code, x4.Said_Place, x4.Said_Version⟩ : VHallAsked))).set x0_2.toNat ((⟨x5.Text, x5.From, x5.To, IntKind.i64.wrap ((IntKind.i64.wrap ((IntKind.i64.wrap (x0_1 + 1)) + 1)) + 1), x5.Said_Place, x5.Said_Version⟩ : VHallAsked))).set x0_2.toNat ((⟨x6.Text, x6.From, x6.To, x6.Said_Code, IntKind.i64.wrap ((IntKind.i64.wrap ((IntKind.i64.wrap ((IntKind.i64.wrap (x0_1 + 1)) + 1)) + 1)) + 1), x6.Said_Version⟩ : VHallAsked)))[x0_2.toNat]? fun x7 => rec0 ((((((x0_0.set x0_2.toNat (⟨r1, x2.From, x2.To, x2.Said_Code, x2.Said_Place, x2.Said_Version⟩ : VHallAsked)).set x0_2.toNat ((⟨x3.Text, IntKind.i64.wrap (x0_1 + 1), x3.To, x3.Said_Code, x3.Said_Place, x3.Said_Version⟩ : VHallAsked))).set x0_2.toNat ((⟨x4.Text, x4.From, IntKind.i64.wrap ((IntKind.i64.wrap (x0_1 + 1)) + 1), x4.Said_Code, x4.Said_Place, x4.Said_Version⟩ : VHallAsked))).set x0_2.toNat ((⟨x5.Text, x5.From, x5.To, IntKind.i64.wrap ((IntKind.i64.wrap ((IntKind.i64.wrap (x0_1 + 1)) + 1)) + 1), x5.Said_Place, x5.Said_Version⟩ : VHallAsked))).set x0_2.toNat ((⟨x6.Text, x6.From, x6.To, x6.Said_Code, IntKind.i64.wrap ((IntKind.i64.wrap ((IntKind.i64.wrap ((IntKind.i64.wrap (x0_1 + 1)) + 1)) + 1)) + 1), x6.Said_Version⟩ : VHallAsked))).set x0_2.toNat ((⟨x7.Text, x7.From, x7.To, x7.Said_Code, x7.Said_Place, IntKind.i64.wrap ((IntKind.i64.wrap ((IntKind.i64.wrap ((IntKind.i64.wrap ((IntKind.i64.wrap (x0_1 + 1)) + 1)) + 1)) + 1)) + 1)⟩ : VHallAsked)), IntKind.i64.wrap ((IntKind.i64.wrap ((IntKind.i64.wrap ((IntKind.i64.wrap ((IntKind.i64.wrap ((IntKind.i64.wrap (x0_1 + 1)) + 1)) + 1)) + 1)) + 1)) + 1), IntKind.i64.wrap (x0_2 + 1))) none) none) none) none) none) none) none) none) none) none) none) none)
      (some (x0_0, x0_1))
noncomputable def LP31_0 (n : Nat)  (x : A31_0) : Option (List (C .e98) × Int) := lpN (r31_0 n ) n x
noncomputable def MP31_0 (kp : Nat → Prop) (kh : Nat → Option Obj) (hd : Nat → Value) (n : Nat)  (x : A31_0) : Option (List (C .e98) × Int) := iter (fun rec S => run (X31.gh kp kh hd) (F31 n) (codeAt (bodyOf Go.Proofs.Try.f31) [1, 0, 1, 0, 0]) 0 S (lopK rec (blkK 0 (seqK (run (X31.gh kp kh hd) (F31 n) (codeAt (bodyOf Go.Proofs.Try.f31) [1, 1]) 0) (kTopW (X31.gh kp kh hd) Go.Proofs.Try.f31 [true, false] dec31))))) [0, 1, 5, 90000, 90001] n (s31_0 x)
theorem m31_0 (kp : Nat → Prop) (kh : Nat → Option Obj) (hd : Nat → Value) (n : Nat)  (x : A31_0) : MP31_0 kp kh hd n  x = LP31_0 n  x := by
  refine iter_eq s31_0 (r31_0 n ) (fun rec0 x => ?_) n x
  obtain ⟨x0_0, x0_1, x0_2⟩ := x
  kernel_rfl
noncomputable def G31n (n : Nat) (a0 : List (C .e98)) (a1 : Int) : Option (List (C .e98) × Int) :=
      LP31_0 n  (a0, a1, 0)
theorem t31 (kp : Nat → Prop) (kh : Nat → Option Obj) (hd : Nat → Value) (n : Nat) (a0 : List (C .e98)) (a1 : Int) : runFnW (X31.gh kp kh hd) (F31 n) Go.Proofs.Try.f31 [(false, [.row .e98 a0]), (false, [.int .i64 a1])] dec31 = G31n n a0 a1 := by
  have h : runFnW (X31.gh kp kh hd) (F31 n) Go.Proofs.Try.f31 [(false, [.row .e98 a0]), (false, [.int .i64 a1])] dec31 =
      MP31_0 kp kh hd n  (a0, a1, 0) := by kernel_rfl
  simp only [h, G31n, m31_0]
noncomputable def G31 (a0 : List (C .e98)) (a1 : Int) : Option (List (C .e98) × Int) := G31n fuel a0 a1
noncomputable def con31 : ConW C := { R0 := List (C .e98) × Int, out := fun r => [.row .e98 r.1], ret := fun r => [(false, [.int .i64 r.2])], g := fun rs => match rs with
  | [(false, [.row .e98 y0]), (false, [.int .i64 y1])] => G31 y0 y1
  | _ => none }
theorem x31 : XOk Go.Proofs.Try.prog X31 := ⟨tks_ok, els_ok⟩
theorem q31 : Cons Go.Proofs.Try.prog X31 := ⟨lkR_ok (l := [(58, con58)]) ⟨c58, trivial⟩, lkW_ok (l := []) trivial⟩
theorem c31 : ConWOk Go.Proofs.Try.prog KK 31 con31 := by
  refine conw_of x31 q31 (by kernel_rfl) (f := 31) (fn := Go.Proofs.Try.f31) (c := bodyOf Go.Proofs.Try.f31) (by kernel_rfl) (by kernel_rfl) (by kernel_rfl) (nameB (by kernel_rfl)) con31 dec31 (fun os rs r0 h => ?_) (fun rs r0 h => ?_)
  · unfold dec31 at h
    split at h
    · cases h; exact ⟨rfl, rfl⟩
    · cases h
  · simp only [con31] at h
    split at h
    · rename_i y0 y1
      exact ⟨Nat.le_of_ble_eq_true (by kernel_rfl), F31 fuel, fun kp kh hd => (t31 kp kh hd fuel y0 y1).trans h⟩
    · cases h
/-! ### f11 loop.example/wharfdesk/laws.markHallWorld -/
noncomputable def X11 : Cx C := { K := KK, tk := lk tks, con := lkC [], conw := lkC [(10, con10), (30, con30), (31, con31)] }
def F11 (n : Nat) : Cf := { N := n, keep := [0, 1, 2, 4, 90000, 90001, 90002, 90003, 90004, 90005, 90007], live := lk [] }
def dec11 (os : List (Lf C)) (rs : List (Bool × List (Lf C))) : Option (List (C .e86) × List (C .e74) × List (C .e84) × List (C .e116) × List (C .e119) × List (C .e98) × Int) := match os, rs with
  | [.row .e86 o0, .row .e74 o1, .row .e84 o2, .row .e116 o3, .row .e119 o4, .row .e98 o5], [(false, [.int .i64 z0])] => some (o0, o1, o2, o3, o4, o5, z0)
  | _, _ => none
noncomputable def G11n (n : Nat) (a0 : VHallWorld) (a1 : Int) : Option (List (C .e86) × List (C .e74) × List (C .e84) × List (C .e116) × List (C .e119) × List (C .e98) × Int) :=
      Option.bind (G10 (⟨a0.House_Teams, a0.House_Grants⟩ : VHallHouse) a1) fun r1 =>
      Option.bind (G30 (⟨a0.Rec_Recorders, a0.Rec_Flight, a0.Rec_Fixed⟩ : VRecWorld) r1.2.2) fun r2 =>
      Option.bind (G31 a0.Asked r2.2.2.2) fun r3 =>
      some (r1.1, r1.2.1, r2.1, r2.2.1, r2.2.2.1, r3.1, r3.2)
theorem t11 (kp : Nat → Prop) (kh : Nat → Option Obj) (hd : Nat → Value) (n : Nat) (a0 : VHallWorld) (a1 : Int) : runFnW (X11.gh kp kh hd) (F11 n) Go.Proofs.Try.f11 [(true, [.row .e86 a0.House_Teams, .row .e74 a0.House_Grants, .row .e84 a0.Rec_Recorders, .row .e116 a0.Rec_Flight, .row .e119 a0.Rec_Fixed, .int .i64 a0.Now, .row .e98 a0.Asked]), (false, [.int .i64 a1])] dec11 = G11n n a0 a1 := by
  kernel_rfl
noncomputable def G11 (a0 : VHallWorld) (a1 : Int) : Option (List (C .e86) × List (C .e74) × List (C .e84) × List (C .e116) × List (C .e119) × List (C .e98) × Int) := G11n fuel a0 a1
noncomputable def con11 : ConW C := { R0 := List (C .e86) × List (C .e74) × List (C .e84) × List (C .e116) × List (C .e119) × List (C .e98) × Int, out := fun r => [.row .e86 r.1, .row .e74 r.2.1, .row .e84 r.2.2.1, .row .e116 r.2.2.2.1, .row .e119 r.2.2.2.2.1, .row .e98 r.2.2.2.2.2.1], ret := fun r => [(false, [.int .i64 r.2.2.2.2.2.2])], g := fun rs => match rs with
  | [(true, [.row .e86 y0_0, .row .e74 y0_1, .row .e84 y0_2, .row .e116 y0_3, .row .e119 y0_4, .int .i64 y0_5, .row .e98 y0_6]), (false, [.int .i64 y1])] => G11 ⟨y0_0, y0_1, y0_2, y0_3, y0_4, y0_5, y0_6⟩ y1
  | _ => none }
theorem x11 : XOk Go.Proofs.Try.prog X11 := ⟨tks_ok, els_ok⟩
theorem q11 : Cons Go.Proofs.Try.prog X11 := ⟨lkR_ok (l := []) trivial, lkW_ok (l := [(10, con10), (30, con30), (31, con31)]) ⟨c10, c30, c31, trivial⟩⟩
theorem c11 : ConWOk Go.Proofs.Try.prog KK 11 con11 := by
  refine conw_of x11 q11 (by kernel_rfl) (f := 11) (fn := Go.Proofs.Try.f11) (c := bodyOf Go.Proofs.Try.f11) (by kernel_rfl) (by kernel_rfl) (by kernel_rfl) (nameB (by kernel_rfl)) con11 dec11 (fun os rs r0 h => ?_) (fun rs r0 h => ?_)
  · unfold dec11 at h
    split at h
    · cases h; exact ⟨rfl, rfl⟩
    · cases h
  · simp only [con11] at h
    split at h
    · rename_i y0_0 y0_1 y0_2 y0_3 y0_4 y0_5 y0_6 y1
      exact ⟨Nat.le_of_ble_eq_true (by kernel_rfl), F11 fuel, fun kp kh hd => (t11 kp kh hd fuel ⟨y0_0, y0_1, y0_2, y0_3, y0_4, y0_5, y0_6⟩ y1).trans h⟩
    · cases h
/-! ### f63 loop.example/wharfdesk/laws.heldGateTeamS -/
noncomputable def X63 : Cx C := { K := KK, tk := lk tks, con := lkC [(58, con58)], conw := lkC [] }
def F63 (n : Nat) : Cf := { N := n, keep := [0, 1, 4, 5, 9, 19, 29], live := lk [(0, [0, 1, 5])] }
def dec63 (rs : List (Bool × List (Lf C))) : Option (Int) := match rs with
  | [(false, [.int .i64 z0])] => some z0
  | _ => none
abbrev A63_0 : Type := List (C .e86) × Int × Int
def s63_0 : A63_0 → St C := fun (x0_0, x0_1, x0_2) => { env := [(0, .one (.row .e86 x0_0)), (1, .one (.int .i64 x0_1)), (5, .one (.int .i64 x0_2))], objs := [], base := 0 }
noncomputable def r63_0 (n : Nat)  (rec0 : A63_0 → Option (Int)) : A63_0 → Option (Int) := fun (x0_0, x0_1, x0_2) =>
      cond (decide (x0_2 < (x0_0.length : Int)))
      (cond (decide (0 ≤ x0_2)) (Option.bind x0_0[x0_2.toNat]? fun x1 => Option.bind (G58 x0_1) fun r2 =>
      cond (!decide (x1.Name = r2))
      (some ((-1)))
      (cond (decide (0 ≤ x0_2)) (Option.bind x0_0[x0_2.toNat]? fun x3 => Option.bind (G58 (IntKind.i64.wrap (x0_1 + 1))) fun r4 =>
      cond (!decide (x3.Over = r4))
      (some ((-1)))
      (rec0 (x0_0, IntKind.i64.wrap ((IntKind.i64.wrap (x0_1 + 1)) + 1), IntKind.i64.wrap (x0_2 + 1)))) none)) none)
      (some (x0_1))
noncomputable def LP63_0 (n : Nat)  (x : A63_0) : Option (Int) := lpN (r63_0 n ) n x
noncomputable def MP63_0 (n : Nat)  (x : A63_0) : Option (Int) := iter (fun rec S => run X63 (F63 n) (codeAt (bodyOf Go.Proofs.Try.f63) [1, 0, 1, 0, 0]) 0 S (lopK rec (blkK 0 (seqK (run X63 (F63 n) (codeAt (bodyOf Go.Proofs.Try.f63) [1, 1]) 0) (kTop X63 Go.Proofs.Try.f63 dec63))))) [0, 1, 5] n (s63_0 x)
theorem m63_0 (n : Nat)  (x : A63_0) : MP63_0 n  x = LP63_0 n  x := by
  refine iter_eq s63_0 (r63_0 n ) (fun rec0 x => ?_) n x
  obtain ⟨x0_0, x0_1, x0_2⟩ := x
  kernel_rfl
noncomputable def G63n (n : Nat) (a0 : List (C .e86)) (a1 : Int) : Option (Int) :=
      LP63_0 n  (a0, a1, 0)
theorem t63 (n : Nat) (a0 : List (C .e86)) (a1 : Int) : runFn X63 (F63 n) Go.Proofs.Try.f63 [.one (.row .e86 a0), .one (.int .i64 a1)] dec63 = G63n n a0 a1 := by
  have h : runFn X63 (F63 n) Go.Proofs.Try.f63 [.one (.row .e86 a0), .one (.int .i64 a1)] dec63 =
      MP63_0 n  (a0, a1, 0) := by kernel_rfl
  simp only [h, G63n, m63_0]
noncomputable def G63 (a0 : List (C .e86)) (a1 : Int) : Option (Int) := G63n fuel a0 a1
noncomputable def con63 : Con C := { R0 := Int, ret := fun r => [(false, [.int .i64 r])], g := fun vs => match vs with
  | [.one (.row .e86 y0), .one (.int .i64 y1)] => G63 y0 y1
  | _ => none }
theorem x63 : XOk Go.Proofs.Try.prog X63 := ⟨tks_ok, els_ok⟩
theorem q63 : Cons Go.Proofs.Try.prog X63 := ⟨lkR_ok (l := [(58, con58)]) ⟨c58, trivial⟩, lkW_ok (l := []) trivial⟩
theorem c63 : ConOk Go.Proofs.Try.prog KK 63 con63 := by
  refine con_dec x63 q63 (by kernel_rfl) (f := 63) (fn := Go.Proofs.Try.f63) (c := bodyOf Go.Proofs.Try.f63) (by kernel_rfl) (by kernel_rfl) (by kernel_rfl) (nameB (by kernel_rfl)) con63 dec63 (fun rs r0 h => ?_) (fun vs r0 h => ?_)
  · unfold dec63 at h
    split at h
    · cases h; rfl
    · cases h
  · simp only [con63] at h
    split at h
    · rename_i y0 y1
      exact ⟨Nat.le_of_ble_eq_true (by kernel_rfl), F63 fuel, (t63 fuel y0 y1).trans h⟩
    · cases h
/-! ### f86 loop.example/wharfdesk/laws.heldIntS -/
noncomputable def X86 : Cx C := { K := KK, tk := lk tks, con := lkC [], conw := lkC [] }
def F86 (n : Nat) : Cf := { N := n, keep := [0, 1, 4, 5, 9, 17], live := lk [(0, [0, 1, 5])] }
def dec86 (rs : List (Bool × List (Lf C))) : Option (Int) := match rs with
  | [(false, [.int .i64 z0])] => some z0
  | _ => none
abbrev A86_0 : Type := List (C .e3) × Int × Int
def s86_0 : A86_0 → St C := fun (x0_0, x0_1, x0_2) => { env := [(0, .one (.row .e3 x0_0)), (1, .one (.int .i64 x0_1)), (5, .one (.int .i64 x0_2))], objs := [], base := 0 }
noncomputable def r86_0 (n : Nat)  (rec0 : A86_0 → Option (Int)) : A86_0 → Option (Int) := fun (x0_0, x0_1, x0_2) =>
      cond (decide (x0_2 < (x0_0.length : Int)))
      (cond (decide (0 ≤ x0_2)) (Option.bind x0_0[x0_2.toNat]? fun x1 => cond (x1 != x0_1)
      (some ((-1)))
      (rec0 (x0_0, IntKind.i64.wrap (x0_1 + 1), IntKind.i64.wrap (x0_2 + 1)))) none)
      (some (x0_1))
noncomputable def LP86_0 (n : Nat)  (x : A86_0) : Option (Int) := lpN (r86_0 n ) n x
noncomputable def MP86_0 (n : Nat)  (x : A86_0) : Option (Int) := iter (fun rec S => run X86 (F86 n) (codeAt (bodyOf Go.Proofs.Try.f86) [1, 0, 1, 0, 0]) 0 S (lopK rec (blkK 0 (seqK (run X86 (F86 n) (codeAt (bodyOf Go.Proofs.Try.f86) [1, 1]) 0) (kTop X86 Go.Proofs.Try.f86 dec86))))) [0, 1, 5] n (s86_0 x)
theorem m86_0 (n : Nat)  (x : A86_0) : MP86_0 n  x = LP86_0 n  x := by
  refine iter_eq s86_0 (r86_0 n ) (fun rec0 x => ?_) n x
  obtain ⟨x0_0, x0_1, x0_2⟩ := x
  kernel_rfl
noncomputable def G86n (n : Nat) (a0 : List (C .e3)) (a1 : Int) : Option (Int) :=
      LP86_0 n  (a0, a1, 0)
theorem t86 (n : Nat) (a0 : List (C .e3)) (a1 : Int) : runFn X86 (F86 n) Go.Proofs.Try.f86 [.one (.row .e3 a0), .one (.int .i64 a1)] dec86 = G86n n a0 a1 := by
  have h : runFn X86 (F86 n) Go.Proofs.Try.f86 [.one (.row .e3 a0), .one (.int .i64 a1)] dec86 =
      MP86_0 n  (a0, a1, 0) := by kernel_rfl
  simp only [h, G86n, m86_0]
noncomputable def G86 (a0 : List (C .e3)) (a1 : Int) : Option (Int) := G86n fuel a0 a1
noncomputable def con86 : Con C := { R0 := Int, ret := fun r => [(false, [.int .i64 r])], g := fun vs => match vs with
  | [.one (.row .e3 y0), .one (.int .i64 y1)] => G86 y0 y1
  | _ => none }
theorem x86 : XOk Go.Proofs.Try.prog X86 := ⟨tks_ok, els_ok⟩
theorem q86 : Cons Go.Proofs.Try.prog X86 := ⟨lkR_ok (l := []) trivial, lkW_ok (l := []) trivial⟩
theorem c86 : ConOk Go.Proofs.Try.prog KK 86 con86 := by
  refine con_dec x86 q86 (by kernel_rfl) (f := 86) (fn := Go.Proofs.Try.f86) (c := bodyOf Go.Proofs.Try.f86) (by kernel_rfl) (by kernel_rfl) (by kernel_rfl) (nameB (by kernel_rfl)) con86 dec86 (fun rs r0 h => ?_) (fun vs r0 h => ?_)
  · unfold dec86 at h
    split at h
    · cases h; rfl
    · cases h
  · simp only [con86] at h
    split at h
    · rename_i y0 y1
      exact ⟨Nat.le_of_ble_eq_true (by kernel_rfl), F86 fuel, (t86 fuel y0 y1).trans h⟩
    · cases h
/-! ### f64 loop.example/wharfdesk/laws.heldGateGrantS -/
noncomputable def X64 : Cx C := { K := KK, tk := lk tks, con := lkC [(58, con58), (86, con86)], conw := lkC [] }
def F64 (n : Nat) : Cf := { N := n, keep := [0, 1, 4, 5, 9, 18, 28, 38, 50, 59, 70, 81], live := lk [(0, [0, 1, 5])] }
def dec64 (rs : List (Bool × List (Lf C))) : Option (Int) := match rs with
  | [(false, [.int .i64 z0])] => some z0
  | _ => none
abbrev A64_0 : Type := List (C .e74) × Int × Int
def s64_0 : A64_0 → St C := fun (x0_0, x0_1, x0_2) => { env := [(0, .one (.row .e74 x0_0)), (1, .one (.int .i64 x0_1)), (5, .one (.int .i64 x0_2))], objs := [], base := 0 }
noncomputable def r64_0 (n : Nat)  (rec0 : A64_0 → Option (Int)) : A64_0 → Option (Int) := fun (x0_0, x0_1, x0_2) =>
      cond (decide (x0_2 < (x0_0.length : Int)))
      (cond (decide (0 ≤ x0_2)) (Option.bind x0_0[x0_2.toNat]? fun x1 => cond (x1.Number != x0_1)
      (some ((-1)))
      (cond (decide (0 ≤ x0_2)) (Option.bind x0_0[x0_2.toNat]? fun x2 => Option.bind (G58 (IntKind.i64.wrap (x0_1 + 1))) fun r3 =>
      cond (!decide (x2.To = r3))
      (some ((-1)))
      (cond (decide (0 ≤ x0_2)) (Option.bind x0_0[x0_2.toNat]? fun x4 => Option.bind (G58 (IntKind.i64.wrap ((IntKind.i64.wrap (x0_1 + 1)) + 1))) fun r5 =>
      cond (!decide (x4.By = r5))
      (some ((-1)))
      (cond (decide (0 ≤ x0_2)) (Option.bind x0_0[x0_2.toNat]? fun x6 => Option.bind (G86 x6.Rule_Verbs (IntKind.i64.wrap ((IntKind.i64.wrap ((IntKind.i64.wrap (x0_1 + 1)) + 1)) + 1))) fun r7 =>
      cond (decide (r7 < 0))
      (some ((-1)))
      (cond (decide (0 ≤ x0_2)) (Option.bind x0_0[x0_2.toNat]? fun x8 => Option.bind (G58 r7) fun r9 =>
      cond (!decide (x8.Rule_Kind = r9))
      (some ((-1)))
      (cond (decide (0 ≤ x0_2)) (Option.bind x0_0[x0_2.toNat]? fun x10 => Option.bind (G58 (IntKind.i64.wrap (r7 + 1))) fun r11 =>
      cond (!decide (x10.Rule_Team = r11))
      (some ((-1)))
      (cond (decide (0 ≤ x0_2)) (Option.bind x0_0[x0_2.toNat]? fun x12 => Option.bind (G58 (IntKind.i64.wrap ((IntKind.i64.wrap (r7 + 1)) + 1))) fun r13 =>
      cond (!decide (x12.Rule_Prefix = r13))
      (some ((-1)))
      (rec0 (x0_0, IntKind.i64.wrap ((IntKind.i64.wrap ((IntKind.i64.wrap (r7 + 1)) + 1)) + 1), IntKind.i64.wrap (x0_2 + 1)))) none)) none)) none)) none)) none)) none)) none)
      (some (x0_1))
noncomputable def LP64_0 (n : Nat)  (x : A64_0) : Option (Int) := lpN (r64_0 n ) n x
noncomputable def MP64_0 (n : Nat)  (x : A64_0) : Option (Int) := iter (fun rec S => run X64 (F64 n) (codeAt (bodyOf Go.Proofs.Try.f64) [1, 0, 1, 0, 0]) 0 S (lopK rec (blkK 0 (seqK (run X64 (F64 n) (codeAt (bodyOf Go.Proofs.Try.f64) [1, 1]) 0) (kTop X64 Go.Proofs.Try.f64 dec64))))) [0, 1, 5] n (s64_0 x)
theorem m64_0 (n : Nat)  (x : A64_0) : MP64_0 n  x = LP64_0 n  x := by
  refine iter_eq s64_0 (r64_0 n ) (fun rec0 x => ?_) n x
  obtain ⟨x0_0, x0_1, x0_2⟩ := x
  kernel_rfl
noncomputable def G64n (n : Nat) (a0 : List (C .e74)) (a1 : Int) : Option (Int) :=
      LP64_0 n  (a0, a1, 0)
theorem t64 (n : Nat) (a0 : List (C .e74)) (a1 : Int) : runFn X64 (F64 n) Go.Proofs.Try.f64 [.one (.row .e74 a0), .one (.int .i64 a1)] dec64 = G64n n a0 a1 := by
  have h : runFn X64 (F64 n) Go.Proofs.Try.f64 [.one (.row .e74 a0), .one (.int .i64 a1)] dec64 =
      MP64_0 n  (a0, a1, 0) := by kernel_rfl
  simp only [h, G64n, m64_0]
noncomputable def G64 (a0 : List (C .e74)) (a1 : Int) : Option (Int) := G64n fuel a0 a1
noncomputable def con64 : Con C := { R0 := Int, ret := fun r => [(false, [.int .i64 r])], g := fun vs => match vs with
  | [.one (.row .e74 y0), .one (.int .i64 y1)] => G64 y0 y1
  | _ => none }
theorem x64 : XOk Go.Proofs.Try.prog X64 := ⟨tks_ok, els_ok⟩
theorem q64 : Cons Go.Proofs.Try.prog X64 := ⟨lkR_ok (l := [(58, con58), (86, con86)]) ⟨c58, c86, trivial⟩, lkW_ok (l := []) trivial⟩
theorem c64 : ConOk Go.Proofs.Try.prog KK 64 con64 := by
  refine con_dec x64 q64 (by kernel_rfl) (f := 64) (fn := Go.Proofs.Try.f64) (c := bodyOf Go.Proofs.Try.f64) (by kernel_rfl) (by kernel_rfl) (by kernel_rfl) (nameB (by kernel_rfl)) con64 dec64 (fun rs r0 h => ?_) (fun vs r0 h => ?_)
  · unfold dec64 at h
    split at h
    · cases h; rfl
    · cases h
  · simp only [con64] at h
    split at h
    · rename_i y0 y1
      exact ⟨Nat.le_of_ble_eq_true (by kernel_rfl), F64 fuel, (t64 fuel y0 y1).trans h⟩
    · cases h
/-! ### f32 loop.example/wharfdesk/laws.heldHallHouse -/
noncomputable def X32 : Cx C := { K := KK, tk := lk tks, con := lkC [(63, con63), (64, con64)], conw := lkC [] }
def F32 (n : Nat) : Cf := { N := n, keep := [0, 1, 2, 4, 10, 16], live := lk [] }
def dec32 (rs : List (Bool × List (Lf C))) : Option (Int) := match rs with
  | [(false, [.int .i64 z0])] => some z0
  | _ => none
noncomputable def G32n (n : Nat) (a0 : VHallHouse) (a1 : Int) : Option (Int) :=
      Option.bind (G63 a0.Teams a1) fun r1 =>
      cond (decide (r1 < 0))
      (some ((-1)))
      (Option.bind (G64 a0.Grants r1) fun r2 =>
      cond (decide (r2 < 0))
      (some ((-1)))
      (some (r2)))
theorem t32 (n : Nat) (a0 : VHallHouse) (a1 : Int) : runFn X32 (F32 n) Go.Proofs.Try.f32 [.agg [.row .e86 a0.Teams, .row .e74 a0.Grants], .one (.int .i64 a1)] dec32 = G32n n a0 a1 := by
  kernel_rfl
noncomputable def G32 (a0 : VHallHouse) (a1 : Int) : Option (Int) := G32n fuel a0 a1
noncomputable def con32 : Con C := { R0 := Int, ret := fun r => [(false, [.int .i64 r])], g := fun vs => match vs with
  | [.agg [.row .e86 y0_0, .row .e74 y0_1], .one (.int .i64 y1)] => G32 ⟨y0_0, y0_1⟩ y1
  | _ => none }
theorem x32 : XOk Go.Proofs.Try.prog X32 := ⟨tks_ok, els_ok⟩
theorem q32 : Cons Go.Proofs.Try.prog X32 := ⟨lkR_ok (l := [(63, con63), (64, con64)]) ⟨c63, c64, trivial⟩, lkW_ok (l := []) trivial⟩
theorem c32 : ConOk Go.Proofs.Try.prog KK 32 con32 := by
  refine con_dec x32 q32 (by kernel_rfl) (f := 32) (fn := Go.Proofs.Try.f32) (c := bodyOf Go.Proofs.Try.f32) (by kernel_rfl) (by kernel_rfl) (by kernel_rfl) (nameB (by kernel_rfl)) con32 dec32 (fun rs r0 h => ?_) (fun vs r0 h => ?_)
  · unfold dec32 at h
    split at h
    · cases h; rfl
    · cases h
  · simp only [con32] at h
    split at h
    · rename_i y0_0 y0_1 y1
      exact ⟨Nat.le_of_ble_eq_true (by kernel_rfl), F32 fuel, (t32 fuel ⟨y0_0, y0_1⟩ y1).trans h⟩
    · cases h
/-! ### f87 loop.example/wharfdesk/laws.heldRecSlotS -/
noncomputable def X87 : Cx C := { K := KK, tk := lk tks, con := lkC [(58, con58)], conw := lkC [] }
def F87 (n : Nat) : Cf := { N := n, keep := [0, 1, 4, 5, 9, 18, 28], live := lk [(0, [0, 1, 5])] }
def dec87 (rs : List (Bool × List (Lf C))) : Option (Int) := match rs with
  | [(false, [.int .i64 z0])] => some z0
  | _ => none
abbrev A87_0 : Type := List (C .e132) × Int × Int
def s87_0 : A87_0 → St C := fun (x0_0, x0_1, x0_2) => { env := [(0, .one (.row .e132 x0_0)), (1, .one (.int .i64 x0_1)), (5, .one (.int .i64 x0_2))], objs := [], base := 0 }
noncomputable def r87_0 (n : Nat)  (rec0 : A87_0 → Option (Int)) : A87_0 → Option (Int) := fun (x0_0, x0_1, x0_2) =>
      cond (decide (x0_2 < (x0_0.length : Int)))
      (cond (decide (0 ≤ x0_2)) (Option.bind x0_0[x0_2.toNat]? fun x1 => cond (x1.Ballot != x0_1)
      (some ((-1)))
      (cond (decide (0 ≤ x0_2)) (Option.bind x0_0[x0_2.toNat]? fun x2 => Option.bind (G58 (IntKind.i64.wrap (x0_1 + 1))) fun r3 =>
      cond (!decide (x2.Text = r3))
      (some ((-1)))
      (rec0 (x0_0, IntKind.i64.wrap ((IntKind.i64.wrap (x0_1 + 1)) + 1), IntKind.i64.wrap (x0_2 + 1)))) none)) none)
      (some (x0_1))
noncomputable def LP87_0 (n : Nat)  (x : A87_0) : Option (Int) := lpN (r87_0 n ) n x
noncomputable def MP87_0 (n : Nat)  (x : A87_0) : Option (Int) := iter (fun rec S => run X87 (F87 n) (codeAt (bodyOf Go.Proofs.Try.f87) [1, 0, 1, 0, 0]) 0 S (lopK rec (blkK 0 (seqK (run X87 (F87 n) (codeAt (bodyOf Go.Proofs.Try.f87) [1, 1]) 0) (kTop X87 Go.Proofs.Try.f87 dec87))))) [0, 1, 5] n (s87_0 x)
theorem m87_0 (n : Nat)  (x : A87_0) : MP87_0 n  x = LP87_0 n  x := by
  refine iter_eq s87_0 (r87_0 n ) (fun rec0 x => ?_) n x
  obtain ⟨x0_0, x0_1, x0_2⟩ := x
  kernel_rfl
noncomputable def G87n (n : Nat) (a0 : List (C .e132)) (a1 : Int) : Option (Int) :=
      LP87_0 n  (a0, a1, 0)
theorem t87 (n : Nat) (a0 : List (C .e132)) (a1 : Int) : runFn X87 (F87 n) Go.Proofs.Try.f87 [.one (.row .e132 a0), .one (.int .i64 a1)] dec87 = G87n n a0 a1 := by
  have h : runFn X87 (F87 n) Go.Proofs.Try.f87 [.one (.row .e132 a0), .one (.int .i64 a1)] dec87 =
      MP87_0 n  (a0, a1, 0) := by kernel_rfl
  simp only [h, G87n, m87_0]
noncomputable def G87 (a0 : List (C .e132)) (a1 : Int) : Option (Int) := G87n fuel a0 a1
noncomputable def con87 : Con C := { R0 := Int, ret := fun r => [(false, [.int .i64 r])], g := fun vs => match vs with
  | [.one (.row .e132 y0), .one (.int .i64 y1)] => G87 y0 y1
  | _ => none }
theorem x87 : XOk Go.Proofs.Try.prog X87 := ⟨tks_ok, els_ok⟩
theorem q87 : Cons Go.Proofs.Try.prog X87 := ⟨lkR_ok (l := [(58, con58)]) ⟨c58, trivial⟩, lkW_ok (l := []) trivial⟩
theorem c87 : ConOk Go.Proofs.Try.prog KK 87 con87 := by
  refine con_dec x87 q87 (by kernel_rfl) (f := 87) (fn := Go.Proofs.Try.f87) (c := bodyOf Go.Proofs.Try.f87) (by kernel_rfl) (by kernel_rfl) (by kernel_rfl) (nameB (by kernel_rfl)) con87 dec87 (fun rs r0 h => ?_) (fun vs r0 h => ?_)
  · unfold dec87 at h
    split at h
    · cases h; rfl
    · cases h
  · simp only [con87] at h
    split at h
    · rename_i y0 y1
      exact ⟨Nat.le_of_ble_eq_true (by kernel_rfl), F87 fuel, (t87 fuel y0 y1).trans h⟩
    · cases h
/-! ### f66 loop.example/wharfdesk/laws.heldRecMessageS -/
noncomputable def X66 : Cx C := { K := KK, tk := lk tks, con := lkC [(58, con58), (87, con87)], conw := lkC [] }
def F66 (n : Nat) : Cf := { N := n, keep := [0, 1, 4, 5, 9, 18, 27, 36, 45, 54, 63, 73, 84], live := lk [(0, [0, 1, 5])] }
def dec66 (rs : List (Bool × List (Lf C))) : Option (Int) := match rs with
  | [(false, [.int .i64 z0])] => some z0
  | _ => none
abbrev A66_0 : Type := List (C .e116) × Int × Int
def s66_0 : A66_0 → St C := fun (x0_0, x0_1, x0_2) => { env := [(0, .one (.row .e116 x0_0)), (1, .one (.int .i64 x0_1)), (5, .one (.int .i64 x0_2))], objs := [], base := 0 }
noncomputable def r66_0 (n : Nat)  (rec0 : A66_0 → Option (Int)) : A66_0 → Option (Int) := fun (x0_0, x0_1, x0_2) =>
      cond (decide (x0_2 < (x0_0.length : Int)))
      (cond (decide (0 ≤ x0_2)) (Option.bind x0_0[x0_2.toNat]? fun x1 => cond (x1.Kind != x0_1)
      (some ((-1)))
      (cond (decide (0 ≤ x0_2)) (Option.bind x0_0[x0_2.toNat]? fun x2 => cond (x2.From != (IntKind.i64.wrap (x0_1 + 1)))
      (some ((-1)))
      (cond (decide (0 ≤ x0_2)) (Option.bind x0_0[x0_2.toNat]? fun x3 => cond (x3.To != (IntKind.i64.wrap ((IntKind.i64.wrap (x0_1 + 1)) + 1)))
      (some ((-1)))
      (cond (decide (0 ≤ x0_2)) (Option.bind x0_0[x0_2.toNat]? fun x4 => cond (x4.Ballot != (IntKind.i64.wrap ((IntKind.i64.wrap ((IntKind.i64.wrap (x0_1 + 1)) + 1)) + 1)))
      (some ((-1)))
      (cond (decide (0 ≤ x0_2)) (Option.bind x0_0[x0_2.toNat]? fun x5 => cond (x5.Index != (IntKind.i64.wrap ((IntKind.i64.wrap ((IntKind.i64.wrap ((IntKind.i64.wrap (x0_1 + 1)) + 1)) + 1)) + 1)))
      (some ((-1)))
      (cond (decide (0 ≤ x0_2)) (Option.bind x0_0[x0_2.toNat]? fun x6 => cond (x6.Known != (IntKind.i64.wrap ((IntKind.i64.wrap ((IntKind.i64.wrap ((IntKind.i64.wrap ((IntKind.i64.wrap (x0_1 + 1)) + 1)) + 1)) + 1)) + 1)))
      (some ((-1)))
      (cond (decide (0 ≤ x0_2)) (Option.bind x0_0[x0_2.toNat]? fun x7 => Option.bind (G58 (IntKind.i64.wrap ((IntKind.i64.wrap ((IntKind.i64.wrap ((IntKind.i64.wrap ((IntKind.i64.wrap ((IntKind.i64.wrap (x0_1 + 1)) + 1)) + 1)) + 1)) + 1)) + 1))) fun r8 =>
      cond (!decide (x7.Text = r8))
      (some ((-1)))
      (cond (decide (0 ≤ x0_2)) (Option.bind x0_0[x0_2.toNat]? fun x9 => Option.bind (G87 x9.Slots (IntKind.i64.wrap ((IntKind.i64.wrap ((IntKind.i64.wrap ((IntKind.i64.wrap ((IntKind.i64.wrap ((IntKind.i64.wrap ((IntKind.i64.wrap (x0_1 + 1)) + 1)) + 1)) + 1)) + 1)) + 1)) + 1))) fun r10 =>
      cond (decide (r10 < 0))
      (some ((-1)))
      (rec0 (x0_0, r10, IntKind.i64.wrap (x0_2 + 1)))) none)) none)) none)) none)) none)) none)) none)) none)
      (some (x0_1))
noncomputable def LP66_0 (n : Nat)  (x : A66_0) : Option (Int) := lpN (r66_0 n ) n x
noncomputable def MP66_0 (n : Nat)  (x : A66_0) : Option (Int) := iter (fun rec S => run X66 (F66 n) (codeAt (bodyOf Go.Proofs.Try.f66) [1, 0, 1, 0, 0]) 0 S (lopK rec (blkK 0 (seqK (run X66 (F66 n) (codeAt (bodyOf Go.Proofs.Try.f66) [1, 1]) 0) (kTop X66 Go.Proofs.Try.f66 dec66))))) [0, 1, 5] n (s66_0 x)
theorem m66_0 (n : Nat)  (x : A66_0) : MP66_0 n  x = LP66_0 n  x := by
  refine iter_eq s66_0 (r66_0 n ) (fun rec0 x => ?_) n x
  obtain ⟨x0_0, x0_1, x0_2⟩ := x
  kernel_rfl
noncomputable def G66n (n : Nat) (a0 : List (C .e116)) (a1 : Int) : Option (Int) :=
      LP66_0 n  (a0, a1, 0)
theorem t66 (n : Nat) (a0 : List (C .e116)) (a1 : Int) : runFn X66 (F66 n) Go.Proofs.Try.f66 [.one (.row .e116 a0), .one (.int .i64 a1)] dec66 = G66n n a0 a1 := by
  have h : runFn X66 (F66 n) Go.Proofs.Try.f66 [.one (.row .e116 a0), .one (.int .i64 a1)] dec66 =
      MP66_0 n  (a0, a1, 0) := by kernel_rfl
  simp only [h, G66n, m66_0]
noncomputable def G66 (a0 : List (C .e116)) (a1 : Int) : Option (Int) := G66n fuel a0 a1
noncomputable def con66 : Con C := { R0 := Int, ret := fun r => [(false, [.int .i64 r])], g := fun vs => match vs with
  | [.one (.row .e116 y0), .one (.int .i64 y1)] => G66 y0 y1
  | _ => none }
theorem x66 : XOk Go.Proofs.Try.prog X66 := ⟨tks_ok, els_ok⟩
theorem q66 : Cons Go.Proofs.Try.prog X66 := ⟨lkR_ok (l := [(58, con58), (87, con87)]) ⟨c58, c87, trivial⟩, lkW_ok (l := []) trivial⟩
theorem c66 : ConOk Go.Proofs.Try.prog KK 66 con66 := by
  refine con_dec x66 q66 (by kernel_rfl) (f := 66) (fn := Go.Proofs.Try.f66) (c := bodyOf Go.Proofs.Try.f66) (by kernel_rfl) (by kernel_rfl) (by kernel_rfl) (nameB (by kernel_rfl)) con66 dec66 (fun rs r0 h => ?_) (fun vs r0 h => ?_)
  · unfold dec66 at h
    split at h
    · cases h; rfl
    · cases h
  · simp only [con66] at h
    split at h
    · rename_i y0 y1
      exact ⟨Nat.le_of_ble_eq_true (by kernel_rfl), F66 fuel, (t66 fuel y0 y1).trans h⟩
    · cases h
/-! ### f88 loop.example/wharfdesk/laws.heldStringS -/
noncomputable def X88 : Cx C := { K := KK, tk := lk tks, con := lkC [(58, con58)], conw := lkC [] }
def F88 (n : Nat) : Cf := { N := n, keep := [0, 1, 4, 5, 9, 18], live := lk [(0, [0, 1, 5])] }
def dec88 (rs : List (Bool × List (Lf C))) : Option (Int) := match rs with
  | [(false, [.int .i64 z0])] => some z0
  | _ => none
abbrev A88_0 : Type := List (C .e9) × Int × Int
def s88_0 : A88_0 → St C := fun (x0_0, x0_1, x0_2) => { env := [(0, .one (.row .e9 x0_0)), (1, .one (.int .i64 x0_1)), (5, .one (.int .i64 x0_2))], objs := [], base := 0 }
noncomputable def r88_0 (n : Nat)  (rec0 : A88_0 → Option (Int)) : A88_0 → Option (Int) := fun (x0_0, x0_1, x0_2) =>
      cond (decide (x0_2 < (x0_0.length : Int)))
      (cond (decide (0 ≤ x0_2)) (Option.bind x0_0[x0_2.toNat]? fun x1 => Option.bind (G58 x0_1) fun r2 =>
      cond (!decide (x1 = r2))
      (some ((-1)))
      (rec0 (x0_0, IntKind.i64.wrap (x0_1 + 1), IntKind.i64.wrap (x0_2 + 1)))) none)
      (some (x0_1))
noncomputable def LP88_0 (n : Nat)  (x : A88_0) : Option (Int) := lpN (r88_0 n ) n x
noncomputable def MP88_0 (n : Nat)  (x : A88_0) : Option (Int) := iter (fun rec S => run X88 (F88 n) (codeAt (bodyOf Go.Proofs.Try.f88) [1, 0, 1, 0, 0]) 0 S (lopK rec (blkK 0 (seqK (run X88 (F88 n) (codeAt (bodyOf Go.Proofs.Try.f88) [1, 1]) 0) (kTop X88 Go.Proofs.Try.f88 dec88))))) [0, 1, 5] n (s88_0 x)
theorem m88_0 (n : Nat)  (x : A88_0) : MP88_0 n  x = LP88_0 n  x := by
  refine iter_eq s88_0 (r88_0 n ) (fun rec0 x => ?_) n x
  obtain ⟨x0_0, x0_1, x0_2⟩ := x
  kernel_rfl
noncomputable def G88n (n : Nat) (a0 : List (C .e9)) (a1 : Int) : Option (Int) :=
      LP88_0 n  (a0, a1, 0)
theorem t88 (n : Nat) (a0 : List (C .e9)) (a1 : Int) : runFn X88 (F88 n) Go.Proofs.Try.f88 [.one (.row .e9 a0), .one (.int .i64 a1)] dec88 = G88n n a0 a1 := by
  have h : runFn X88 (F88 n) Go.Proofs.Try.f88 [.one (.row .e9 a0), .one (.int .i64 a1)] dec88 =
      MP88_0 n  (a0, a1, 0) := by kernel_rfl
  simp only [h, G88n, m88_0]
noncomputable def G88 (a0 : List (C .e9)) (a1 : Int) : Option (Int) := G88n fuel a0 a1
noncomputable def con88 : Con C := { R0 := Int, ret := fun r => [(false, [.int .i64 r])], g := fun vs => match vs with
  | [.one (.row .e9 y0), .one (.int .i64 y1)] => G88 y0 y1
  | _ => none }
theorem x88 : XOk Go.Proofs.Try.prog X88 := ⟨tks_ok, els_ok⟩
theorem q88 : Cons Go.Proofs.Try.prog X88 := ⟨lkR_ok (l := [(58, con58)]) ⟨c58, trivial⟩, lkW_ok (l := []) trivial⟩
theorem c88 : ConOk Go.Proofs.Try.prog KK 88 con88 := by
  refine con_dec x88 q88 (by kernel_rfl) (f := 88) (fn := Go.Proofs.Try.f88) (c := bodyOf Go.Proofs.Try.f88) (by kernel_rfl) (by kernel_rfl) (by kernel_rfl) (nameB (by kernel_rfl)) con88 dec88 (fun rs r0 h => ?_) (fun vs r0 h => ?_)
  · unfold dec88 at h
    split at h
    · cases h; rfl
    · cases h
  · simp only [con88] at h
    split at h
    · rename_i y0 y1
      exact ⟨Nat.le_of_ble_eq_true (by kernel_rfl), F88 fuel, (t88 fuel y0 y1).trans h⟩
    · cases h
/-! ### f89 loop.example/wharfdesk/laws.heldRecAckS -/
noncomputable def X89 : Cx C := { K := KK, tk := lk tks, con := lkC [(86, con86)], conw := lkC [] }
def F89 (n : Nat) : Cf := { N := n, keep := [0, 1, 4, 5, 9, 18, 29], live := lk [(0, [0, 1, 5])] }
def dec89 (rs : List (Bool × List (Lf C))) : Option (Int) := match rs with
  | [(false, [.int .i64 z0])] => some z0
  | _ => none
abbrev A89_0 : Type := List (C .e134) × Int × Int
def s89_0 : A89_0 → St C := fun (x0_0, x0_1, x0_2) => { env := [(0, .one (.row .e134 x0_0)), (1, .one (.int .i64 x0_1)), (5, .one (.int .i64 x0_2))], objs := [], base := 0 }
noncomputable def r89_0 (n : Nat)  (rec0 : A89_0 → Option (Int)) : A89_0 → Option (Int) := fun (x0_0, x0_1, x0_2) =>
      cond (decide (x0_2 < (x0_0.length : Int)))
      (cond (decide (0 ≤ x0_2)) (Option.bind x0_0[x0_2.toNat]? fun x1 => cond (x1.Index != x0_1)
      (some ((-1)))
      (cond (decide (0 ≤ x0_2)) (Option.bind x0_0[x0_2.toNat]? fun x2 => Option.bind (G86 x2.From (IntKind.i64.wrap (x0_1 + 1))) fun r3 =>
      cond (decide (r3 < 0))
      (some ((-1)))
      (rec0 (x0_0, r3, IntKind.i64.wrap (x0_2 + 1)))) none)) none)
      (some (x0_1))
noncomputable def LP89_0 (n : Nat)  (x : A89_0) : Option (Int) := lpN (r89_0 n ) n x
noncomputable def MP89_0 (n : Nat)  (x : A89_0) : Option (Int) := iter (fun rec S => run X89 (F89 n) (codeAt (bodyOf Go.Proofs.Try.f89) [1, 0, 1, 0, 0]) 0 S (lopK rec (blkK 0 (seqK (run X89 (F89 n) (codeAt (bodyOf Go.Proofs.Try.f89) [1, 1]) 0) (kTop X89 Go.Proofs.Try.f89 dec89))))) [0, 1, 5] n (s89_0 x)
theorem m89_0 (n : Nat)  (x : A89_0) : MP89_0 n  x = LP89_0 n  x := by
  refine iter_eq s89_0 (r89_0 n ) (fun rec0 x => ?_) n x
  obtain ⟨x0_0, x0_1, x0_2⟩ := x
  kernel_rfl
noncomputable def G89n (n : Nat) (a0 : List (C .e134)) (a1 : Int) : Option (Int) :=
      LP89_0 n  (a0, a1, 0)
theorem t89 (n : Nat) (a0 : List (C .e134)) (a1 : Int) : runFn X89 (F89 n) Go.Proofs.Try.f89 [.one (.row .e134 a0), .one (.int .i64 a1)] dec89 = G89n n a0 a1 := by
  have h : runFn X89 (F89 n) Go.Proofs.Try.f89 [.one (.row .e134 a0), .one (.int .i64 a1)] dec89 =
      MP89_0 n  (a0, a1, 0) := by kernel_rfl
  simp only [h, G89n, m89_0]
noncomputable def G89 (a0 : List (C .e134)) (a1 : Int) : Option (Int) := G89n fuel a0 a1
noncomputable def con89 : Con C := { R0 := Int, ret := fun r => [(false, [.int .i64 r])], g := fun vs => match vs with
  | [.one (.row .e134 y0), .one (.int .i64 y1)] => G89 y0 y1
  | _ => none }
theorem x89 : XOk Go.Proofs.Try.prog X89 := ⟨tks_ok, els_ok⟩
theorem q89 : Cons Go.Proofs.Try.prog X89 := ⟨lkR_ok (l := [(86, con86)]) ⟨c86, trivial⟩, lkW_ok (l := []) trivial⟩
theorem c89 : ConOk Go.Proofs.Try.prog KK 89 con89 := by
  refine con_dec x89 q89 (by kernel_rfl) (f := 89) (fn := Go.Proofs.Try.f89) (c := bodyOf Go.Proofs.Try.f89) (by kernel_rfl) (by kernel_rfl) (by kernel_rfl) (nameB (by kernel_rfl)) con89 dec89 (fun rs r0 h => ?_) (fun vs r0 h => ?_)
  · unfold dec89 at h
    split at h
    · cases h; rfl
    · cases h
  · simp only [con89] at h
    split at h
    · rename_i y0 y1
      exact ⟨Nat.le_of_ble_eq_true (by kernel_rfl), F89 fuel, (t89 fuel y0 y1).trans h⟩
    · cases h
/-! ### f65 loop.example/wharfdesk/laws.heldRecorderS -/
noncomputable def X65 : Cx C := { K := KK, tk := lk tks, con := lkC [(66, con66), (86, con86), (87, con87), (88, con88), (89, con89)], conw := lkC [] }
def F65 (n : Nat) : Cf := { N := n, keep := [0, 1, 4, 5, 9, 18, 27, 38, 48, 58, 70, 78, 88, 100, 109, 118, 127, 138, 147, 158, 167, 176, 183], live := lk [(0, [0, 1, 5])] }
def dec65 (rs : List (Bool × List (Lf C))) : Option (Int) := match rs with
  | [(false, [.int .i64 z0])] => some z0
  | _ => none
abbrev A65_0 : Type := List (C .e84) × Int × Int
def s65_0 : A65_0 → St C := fun (x0_0, x0_1, x0_2) => { env := [(0, .one (.row .e84 x0_0)), (1, .one (.int .i64 x0_1)), (5, .one (.int .i64 x0_2))], objs := [], base := 0 }
noncomputable def r65_0 (n : Nat)  (rec0 : A65_0 → Option (Int)) : A65_0 → Option (Int) := fun (x0_0, x0_1, x0_2) =>
      cond (decide (x0_2 < (x0_0.length : Int)))
      (cond (decide (0 ≤ x0_2)) (Option.bind x0_0[x0_2.toNat]? fun x1 => cond (x1.Number != x0_1)
      (some ((-1)))
      (cond (decide (0 ≤ x0_2)) (Option.bind x0_0[x0_2.toNat]? fun x2 => cond (x2.Of != (IntKind.i64.wrap (x0_1 + 1)))
      (some ((-1)))
      (cond (decide (0 ≤ x0_2)) (Option.bind x0_0[x0_2.toNat]? fun x3 => cond (decide (3 = 0)) none (cond (!(x3.Up == (((IntKind.i64.wrap ((IntKind.i64.wrap (x0_1 + 1)) + 1)).tmod 3) == 0)))
      (some ((-1)))
      (cond (decide (0 ≤ x0_2)) (Option.bind x0_0[x0_2.toNat]? fun x4 => cond (x4.Safe_Promise != (IntKind.i64.wrap ((IntKind.i64.wrap ((IntKind.i64.wrap (x0_1 + 1)) + 1)) + 1)))
      (some ((-1)))
      (cond (decide (0 ≤ x0_2)) (Option.bind x0_0[x0_2.toNat]? fun x5 => cond (x5.Safe_Known != (IntKind.i64.wrap ((IntKind.i64.wrap ((IntKind.i64.wrap ((IntKind.i64.wrap (x0_1 + 1)) + 1)) + 1)) + 1)))
      (some ((-1)))
      (cond (decide (0 ≤ x0_2)) (Option.bind x0_0[x0_2.toNat]? fun x6 => Option.bind (G87 x6.Safe_Slots (IntKind.i64.wrap ((IntKind.i64.wrap ((IntKind.i64.wrap ((IntKind.i64.wrap ((IntKind.i64.wrap (x0_1 + 1)) + 1)) + 1)) + 1)) + 1))) fun r7 =>
      cond (decide (r7 < 0))
      (some ((-1)))
      (cond (decide (0 ≤ x0_2)) (Option.bind x0_0[x0_2.toNat]? fun x8 => cond (x8.Disk_Promise != r7)
      (some ((-1)))
      (cond (decide (0 ≤ x0_2)) (Option.bind x0_0[x0_2.toNat]? fun x9 => cond (x9.Disk_Known != (IntKind.i64.wrap (r7 + 1)))
      (some ((-1)))
      (cond (decide (0 ≤ x0_2)) (Option.bind x0_0[x0_2.toNat]? fun x10 => Option.bind (G87 x10.Disk_Slots (IntKind.i64.wrap ((IntKind.i64.wrap (r7 + 1)) + 1))) fun r11 =>
      cond (decide (r11 < 0))
      (some ((-1)))
      (cond (decide (0 ≤ x0_2)) (Option.bind x0_0[x0_2.toNat]? fun x12 => Option.bind (G66 x12.Held r11) fun r13 =>
      cond (decide (r13 < 0))
      (some ((-1)))
      (cond (decide (0 ≤ x0_2)) (Option.bind x0_0[x0_2.toNat]? fun x14 => Option.bind (G88 x14.Wishes r13) fun r15 =>
      cond (decide (r15 < 0))
      (some ((-1)))
      (cond (decide (0 ≤ x0_2)) (Option.bind x0_0[x0_2.toNat]? fun x16 => cond (decide (3 = 0)) none (cond (!(x16.Lead == ((r15.tmod 3) == 0)))
      (some ((-1)))
      (cond (decide (0 ≤ x0_2)) (Option.bind x0_0[x0_2.toNat]? fun x17 => cond (decide (3 = 0)) none (cond (!(x17.Trying == (((IntKind.i64.wrap (r15 + 1)).tmod 3) == 0)))
      (some ((-1)))
      (cond (decide (0 ≤ x0_2)) (Option.bind x0_0[x0_2.toNat]? fun x18 => cond (x18.Ballot != (IntKind.i64.wrap ((IntKind.i64.wrap (r15 + 1)) + 1)))
      (some ((-1)))
      (cond (decide (0 ≤ x0_2)) (Option.bind x0_0[x0_2.toNat]? fun x19 => Option.bind (G86 x19.Yes (IntKind.i64.wrap ((IntKind.i64.wrap ((IntKind.i64.wrap (r15 + 1)) + 1)) + 1))) fun r20 =>
      cond (decide (r20 < 0))
      (some ((-1)))
      (cond (decide (0 ≤ x0_2)) (Option.bind x0_0[x0_2.toNat]? fun x21 => Option.bind (G87 x21.Best r20) fun r22 =>
      cond (decide (r22 < 0))
      (some ((-1)))
      (cond (decide (0 ≤ x0_2)) (Option.bind x0_0[x0_2.toNat]? fun x23 => Option.bind (G89 x23.Acks r22) fun r24 =>
      cond (decide (r24 < 0))
      (some ((-1)))
      (cond (decide (0 ≤ x0_2)) (Option.bind x0_0[x0_2.toNat]? fun x25 => cond (x25.Heard != r24)
      (some ((-1)))
      (rec0 (x0_0, IntKind.i64.wrap (r24 + 1), IntKind.i64.wrap (x0_2 + 1)))) none)) none)) none)) none)) none))) none))) none)) none)) none)) none)) none)) none)) none)) none)) none))) none)) none)) none)
      (some (x0_1))
noncomputable def LP65_0 (n : Nat)  (x : A65_0) : Option (Int) := lpN (r65_0 n ) n x
noncomputable def MP65_0 (n : Nat)  (x : A65_0) : Option (Int) := iter (fun rec S => run X65 (F65 n) (codeAt (bodyOf Go.Proofs.Try.f65) [1, 0, 1, 0, 0]) 0 S (lopK rec (blkK 0 (seqK (run X65 (F65 n) (codeAt (bodyOf Go.Proofs.Try.f65) [1, 1]) 0) (kTop X65 Go.Proofs.Try.f65 dec65))))) [0, 1, 5] n (s65_0 x)
theorem m65_0 (n : Nat)  (x : A65_0) : MP65_0 n  x = LP65_0 n  x := by
  refine iter_eq s65_0 (r65_0 n ) (fun rec0 x => ?_) n x
  obtain ⟨x0_0, x0_1, x0_2⟩ := x
  kernel_rfl
noncomputable def G65n (n : Nat) (a0 : List (C .e84)) (a1 : Int) : Option (Int) :=
      LP65_0 n  (a0, a1, 0)
theorem t65 (n : Nat) (a0 : List (C .e84)) (a1 : Int) : runFn X65 (F65 n) Go.Proofs.Try.f65 [.one (.row .e84 a0), .one (.int .i64 a1)] dec65 = G65n n a0 a1 := by
  have h : runFn X65 (F65 n) Go.Proofs.Try.f65 [.one (.row .e84 a0), .one (.int .i64 a1)] dec65 =
      MP65_0 n  (a0, a1, 0) := by kernel_rfl
  simp only [h, G65n, m65_0]
noncomputable def G65 (a0 : List (C .e84)) (a1 : Int) : Option (Int) := G65n fuel a0 a1
noncomputable def con65 : Con C := { R0 := Int, ret := fun r => [(false, [.int .i64 r])], g := fun vs => match vs with
  | [.one (.row .e84 y0), .one (.int .i64 y1)] => G65 y0 y1
  | _ => none }
theorem x65 : XOk Go.Proofs.Try.prog X65 := ⟨tks_ok, els_ok⟩
theorem q65 : Cons Go.Proofs.Try.prog X65 := ⟨lkR_ok (l := [(66, con66), (86, con86), (87, con87), (88, con88), (89, con89)]) ⟨c66, c86, c87, c88, c89, trivial⟩, lkW_ok (l := []) trivial⟩
theorem c65 : ConOk Go.Proofs.Try.prog KK 65 con65 := by
  refine con_dec x65 q65 (by kernel_rfl) (f := 65) (fn := Go.Proofs.Try.f65) (c := bodyOf Go.Proofs.Try.f65) (by kernel_rfl) (by kernel_rfl) (by kernel_rfl) (nameB (by kernel_rfl)) con65 dec65 (fun rs r0 h => ?_) (fun vs r0 h => ?_)
  · unfold dec65 at h
    split at h
    · cases h; rfl
    · cases h
  · simp only [con65] at h
    split at h
    · rename_i y0 y1
      exact ⟨Nat.le_of_ble_eq_true (by kernel_rfl), F65 fuel, (t65 fuel y0 y1).trans h⟩
    · cases h
/-! ### f67 loop.example/wharfdesk/laws.heldRecFixS -/
noncomputable def X67 : Cx C := { K := KK, tk := lk tks, con := lkC [(58, con58)], conw := lkC [] }
def F67 (n : Nat) : Cf := { N := n, keep := [0, 1, 4, 5, 9, 18, 28], live := lk [(0, [0, 1, 5])] }
def dec67 (rs : List (Bool × List (Lf C))) : Option (Int) := match rs with
  | [(false, [.int .i64 z0])] => some z0
  | _ => none
abbrev A67_0 : Type := List (C .e119) × Int × Int
def s67_0 : A67_0 → St C := fun (x0_0, x0_1, x0_2) => { env := [(0, .one (.row .e119 x0_0)), (1, .one (.int .i64 x0_1)), (5, .one (.int .i64 x0_2))], objs := [], base := 0 }
noncomputable def r67_0 (n : Nat)  (rec0 : A67_0 → Option (Int)) : A67_0 → Option (Int) := fun (x0_0, x0_1, x0_2) =>
      cond (decide (x0_2 < (x0_0.length : Int)))
      (cond (decide (0 ≤ x0_2)) (Option.bind x0_0[x0_2.toNat]? fun x1 => cond (x1.Index != x0_1)
      (some ((-1)))
      (cond (decide (0 ≤ x0_2)) (Option.bind x0_0[x0_2.toNat]? fun x2 => Option.bind (G58 (IntKind.i64.wrap (x0_1 + 1))) fun r3 =>
      cond (!decide (x2.Text = r3))
      (some ((-1)))
      (rec0 (x0_0, IntKind.i64.wrap ((IntKind.i64.wrap (x0_1 + 1)) + 1), IntKind.i64.wrap (x0_2 + 1)))) none)) none)
      (some (x0_1))
noncomputable def LP67_0 (n : Nat)  (x : A67_0) : Option (Int) := lpN (r67_0 n ) n x
noncomputable def MP67_0 (n : Nat)  (x : A67_0) : Option (Int) := iter (fun rec S => run X67 (F67 n) (codeAt (bodyOf Go.Proofs.Try.f67) [1, 0, 1, 0, 0]) 0 S (lopK rec (blkK 0 (seqK (run X67 (F67 n) (codeAt (bodyOf Go.Proofs.Try.f67) [1, 1]) 0) (kTop X67 Go.Proofs.Try.f67 dec67))))) [0, 1, 5] n (s67_0 x)
theorem m67_0 (n : Nat)  (x : A67_0) : MP67_0 n  x = LP67_0 n  x := by
  refine iter_eq s67_0 (r67_0 n ) (fun rec0 x => ?_) n x
  obtain ⟨x0_0, x0_1, x0_2⟩ := x
  kernel_rfl
noncomputable def G67n (n : Nat) (a0 : List (C .e119)) (a1 : Int) : Option (Int) :=
      LP67_0 n  (a0, a1, 0)
theorem t67 (n : Nat) (a0 : List (C .e119)) (a1 : Int) : runFn X67 (F67 n) Go.Proofs.Try.f67 [.one (.row .e119 a0), .one (.int .i64 a1)] dec67 = G67n n a0 a1 := by
  have h : runFn X67 (F67 n) Go.Proofs.Try.f67 [.one (.row .e119 a0), .one (.int .i64 a1)] dec67 =
      MP67_0 n  (a0, a1, 0) := by kernel_rfl
  simp only [h, G67n, m67_0]
noncomputable def G67 (a0 : List (C .e119)) (a1 : Int) : Option (Int) := G67n fuel a0 a1
noncomputable def con67 : Con C := { R0 := Int, ret := fun r => [(false, [.int .i64 r])], g := fun vs => match vs with
  | [.one (.row .e119 y0), .one (.int .i64 y1)] => G67 y0 y1
  | _ => none }
theorem x67 : XOk Go.Proofs.Try.prog X67 := ⟨tks_ok, els_ok⟩
theorem q67 : Cons Go.Proofs.Try.prog X67 := ⟨lkR_ok (l := [(58, con58)]) ⟨c58, trivial⟩, lkW_ok (l := []) trivial⟩
theorem c67 : ConOk Go.Proofs.Try.prog KK 67 con67 := by
  refine con_dec x67 q67 (by kernel_rfl) (f := 67) (fn := Go.Proofs.Try.f67) (c := bodyOf Go.Proofs.Try.f67) (by kernel_rfl) (by kernel_rfl) (by kernel_rfl) (nameB (by kernel_rfl)) con67 dec67 (fun rs r0 h => ?_) (fun vs r0 h => ?_)
  · unfold dec67 at h
    split at h
    · cases h; rfl
    · cases h
  · simp only [con67] at h
    split at h
    · rename_i y0 y1
      exact ⟨Nat.le_of_ble_eq_true (by kernel_rfl), F67 fuel, (t67 fuel y0 y1).trans h⟩
    · cases h
/-! ### f33 loop.example/wharfdesk/laws.heldRecWorld -/
noncomputable def X33 : Cx C := { K := KK, tk := lk tks, con := lkC [(65, con65), (66, con66), (67, con67)], conw := lkC [] }
def F33 (n : Nat) : Cf := { N := n, keep := [0, 1, 2, 4, 10, 16, 22], live := lk [] }
def dec33 (rs : List (Bool × List (Lf C))) : Option (Int) := match rs with
  | [(false, [.int .i64 z0])] => some z0
  | _ => none
noncomputable def G33n (n : Nat) (a0 : VRecWorld) (a1 : Int) : Option (Int) :=
      Option.bind (G65 a0.Recorders a1) fun r1 =>
      cond (decide (r1 < 0))
      (some ((-1)))
      (Option.bind (G66 a0.Flight r1) fun r2 =>
      cond (decide (r2 < 0))
      (some ((-1)))
      (Option.bind (G67 a0.Fixed r2) fun r3 =>
      cond (decide (r3 < 0))
      (some ((-1)))
      (some (r3))))
theorem t33 (n : Nat) (a0 : VRecWorld) (a1 : Int) : runFn X33 (F33 n) Go.Proofs.Try.f33 [.agg [.row .e84 a0.Recorders, .row .e116 a0.Flight, .row .e119 a0.Fixed], .one (.int .i64 a1)] dec33 = G33n n a0 a1 := by
  kernel_rfl
noncomputable def G33 (a0 : VRecWorld) (a1 : Int) : Option (Int) := G33n fuel a0 a1
noncomputable def con33 : Con C := { R0 := Int, ret := fun r => [(false, [.int .i64 r])], g := fun vs => match vs with
  | [.agg [.row .e84 y0_0, .row .e116 y0_1, .row .e119 y0_2], .one (.int .i64 y1)] => G33 ⟨y0_0, y0_1, y0_2⟩ y1
  | _ => none }
theorem x33 : XOk Go.Proofs.Try.prog X33 := ⟨tks_ok, els_ok⟩
theorem q33 : Cons Go.Proofs.Try.prog X33 := ⟨lkR_ok (l := [(65, con65), (66, con66), (67, con67)]) ⟨c65, c66, c67, trivial⟩, lkW_ok (l := []) trivial⟩
theorem c33 : ConOk Go.Proofs.Try.prog KK 33 con33 := by
  refine con_dec x33 q33 (by kernel_rfl) (f := 33) (fn := Go.Proofs.Try.f33) (c := bodyOf Go.Proofs.Try.f33) (by kernel_rfl) (by kernel_rfl) (by kernel_rfl) (nameB (by kernel_rfl)) con33 dec33 (fun rs r0 h => ?_) (fun vs r0 h => ?_)
  · unfold dec33 at h
    split at h
    · cases h; rfl
    · cases h
  · simp only [con33] at h
    split at h
    · rename_i y0_0 y0_1 y0_2 y1
      exact ⟨Nat.le_of_ble_eq_true (by kernel_rfl), F33 fuel, (t33 fuel ⟨y0_0, y0_1, y0_2⟩ y1).trans h⟩
    · cases h
/-! ### f34 loop.example/wharfdesk/laws.heldHallAskedS -/
noncomputable def X34 : Cx C := { K := KK, tk := lk tks, con := lkC [(58, con58)], conw := lkC [] }
def F34 (n : Nat) : Cf := { N := n, keep := [0, 1, 4, 5, 9, 19, 28, 37, 47, 57, 67], live := lk [(0, [0, 1, 5])] }
def dec34 (rs : List (Bool × List (Lf C))) : Option (Int) := match rs with
  | [(false, [.int .i64 z0])] => some z0
  | _ => none
abbrev A34_0 : Type := List (C .e98) × Int × Int
def s34_0 : A34_0 → St C := fun (x0_0, x0_1, x0_2) => { env := [(0, .one (.row .e98 x0_0)), (1, .one (.int .i64 x0_1)), (5, .one (.int .i64 x0_2))], objs := [], base := 0 }
noncomputable def r34_0 (n : Nat)  (rec0 : A34_0 → Option (Int)) : A34_0 → Option (Int) := fun (x0_0, x0_1, x0_2) =>
      cond (decide (x0_2 < (x0_0.length : Int)))
      (cond (decide (0 ≤ x0_2)) (Option.bind x0_0[x0_2.toNat]? fun x1 => Option.bind (G58 x0_1) fun r2 =>
      cond (!decide (x1.Text = r2))
      (some ((-1)))
      (cond (decide (0 ≤ x0_2)) (Option.bind x0_0[x0_2.toNat]? fun x3 => cond (x3.From != (IntKind.i64.wrap (x0_1 + 1)))
      (some ((-1)))
      (cond (decide (0 ≤ x0_2)) (Option.bind x0_0[x0_2.toNat]? fun x4 => cond (x4.To != (IntKind.i64.wrap ((IntKind.i64.wrap (x0_1 + 1)) + 1)))
      (some ((-1)))
      (cond (decide (0 ≤ x0_2)) (Option.bind x0_0[x0_2.toNat]? fun x5 => cond (x5.Said_Code != (IntKind.i64.wrap ((IntKind.i64.wrap ((IntKind.i64.wrap (x0_1 + 1)) + 1)) + 1)))
      (some ((-1)))
      (cond (decide (0 ≤ x0_2)) (Option.bind x0_0[x0_2.toNat]? fun x6 => cond (x6.Said_Place != (IntKind.i64.wrap ((IntKind.i64.wrap ((IntKind.i64.wrap ((IntKind.i64.wrap (x0_1 + 1)) + 1)) + 1)) + 1)))
      (some ((-1)))
      (cond (decide (0 ≤ x0_2)) (Option.bind x0_0[x0_2.toNat]? fun x7 => cond (x7.Said_Version != (IntKind.i64.wrap ((IntKind.i64.wrap ((IntKind.i64.wrap ((IntKind.i64.wrap ((IntKind.i64.wrap (x0_1 + 1)) + 1)) + 1)) + 1)) + 1)))
      (some ((-1)))
      (rec0 (x0_0, IntKind.i64.wrap ((IntKind.i64.wrap ((IntKind.i64.wrap ((IntKind.i64.wrap ((IntKind.i64.wrap ((IntKind.i64.wrap (x0_1 + 1)) + 1)) + 1)) + 1)) + 1)) + 1), IntKind.i64.wrap (x0_2 + 1)))) none)) none)) none)) none)) none)) none)
      (some (x0_1))
noncomputable def LP34_0 (n : Nat)  (x : A34_0) : Option (Int) := lpN (r34_0 n ) n x
noncomputable def MP34_0 (n : Nat)  (x : A34_0) : Option (Int) := iter (fun rec S => run X34 (F34 n) (codeAt (bodyOf Go.Proofs.Try.f34) [1, 0, 1, 0, 0]) 0 S (lopK rec (blkK 0 (seqK (run X34 (F34 n) (codeAt (bodyOf Go.Proofs.Try.f34) [1, 1]) 0) (kTop X34 Go.Proofs.Try.f34 dec34))))) [0, 1, 5] n (s34_0 x)
theorem m34_0 (n : Nat)  (x : A34_0) : MP34_0 n  x = LP34_0 n  x := by
  refine iter_eq s34_0 (r34_0 n ) (fun rec0 x => ?_) n x
  obtain ⟨x0_0, x0_1, x0_2⟩ := x
  kernel_rfl
noncomputable def G34n (n : Nat) (a0 : List (C .e98)) (a1 : Int) : Option (Int) :=
      LP34_0 n  (a0, a1, 0)
theorem t34 (n : Nat) (a0 : List (C .e98)) (a1 : Int) : runFn X34 (F34 n) Go.Proofs.Try.f34 [.one (.row .e98 a0), .one (.int .i64 a1)] dec34 = G34n n a0 a1 := by
  have h : runFn X34 (F34 n) Go.Proofs.Try.f34 [.one (.row .e98 a0), .one (.int .i64 a1)] dec34 =
      MP34_0 n  (a0, a1, 0) := by kernel_rfl
  simp only [h, G34n, m34_0]
noncomputable def G34 (a0 : List (C .e98)) (a1 : Int) : Option (Int) := G34n fuel a0 a1
noncomputable def con34 : Con C := { R0 := Int, ret := fun r => [(false, [.int .i64 r])], g := fun vs => match vs with
  | [.one (.row .e98 y0), .one (.int .i64 y1)] => G34 y0 y1
  | _ => none }
theorem x34 : XOk Go.Proofs.Try.prog X34 := ⟨tks_ok, els_ok⟩
theorem q34 : Cons Go.Proofs.Try.prog X34 := ⟨lkR_ok (l := [(58, con58)]) ⟨c58, trivial⟩, lkW_ok (l := []) trivial⟩
theorem c34 : ConOk Go.Proofs.Try.prog KK 34 con34 := by
  refine con_dec x34 q34 (by kernel_rfl) (f := 34) (fn := Go.Proofs.Try.f34) (c := bodyOf Go.Proofs.Try.f34) (by kernel_rfl) (by kernel_rfl) (by kernel_rfl) (nameB (by kernel_rfl)) con34 dec34 (fun rs r0 h => ?_) (fun vs r0 h => ?_)
  · unfold dec34 at h
    split at h
    · cases h; rfl
    · cases h
  · simp only [con34] at h
    split at h
    · rename_i y0 y1
      exact ⟨Nat.le_of_ble_eq_true (by kernel_rfl), F34 fuel, (t34 fuel y0 y1).trans h⟩
    · cases h
/-! ### f12 loop.example/wharfdesk/laws.heldHallWorld -/
noncomputable def X12 : Cx C := { K := KK, tk := lk tks, con := lkC [(32, con32), (33, con33), (34, con34)], conw := lkC [] }
def F12 (n : Nat) : Cf := { N := n, keep := [0, 1, 2, 4, 10, 16, 22], live := lk [] }
def dec12 (rs : List (Bool × List (Lf C))) : Option (Int) := match rs with
  | [(false, [.int .i64 z0])] => some z0
  | _ => none
noncomputable def G12n (n : Nat) (a0 : VHallWorld) (a1 : Int) : Option (Int) :=
      Option.bind (G32 (⟨a0.House_Teams, a0.House_Grants⟩ : VHallHouse) a1) fun r1 =>
      cond (decide (r1 < 0))
      (some ((-1)))
      (Option.bind (G33 (⟨a0.Rec_Recorders, a0.Rec_Flight, a0.Rec_Fixed⟩ : VRecWorld) r1) fun r2 =>
      cond (decide (r2 < 0))
      (some ((-1)))
      (Option.bind (G34 a0.Asked r2) fun r3 =>
      cond (decide (r3 < 0))
      (some ((-1)))
      (some (r3))))
theorem t12 (n : Nat) (a0 : VHallWorld) (a1 : Int) : runFn X12 (F12 n) Go.Proofs.Try.f12 [.agg [.row .e86 a0.House_Teams, .row .e74 a0.House_Grants, .row .e84 a0.Rec_Recorders, .row .e116 a0.Rec_Flight, .row .e119 a0.Rec_Fixed, .int .i64 a0.Now, .row .e98 a0.Asked], .one (.int .i64 a1)] dec12 = G12n n a0 a1 := by
  kernel_rfl
noncomputable def G12 (a0 : VHallWorld) (a1 : Int) : Option (Int) := G12n fuel a0 a1
noncomputable def con12 : Con C := { R0 := Int, ret := fun r => [(false, [.int .i64 r])], g := fun vs => match vs with
  | [.agg [.row .e86 y0_0, .row .e74 y0_1, .row .e84 y0_2, .row .e116 y0_3, .row .e119 y0_4, .int .i64 y0_5, .row .e98 y0_6], .one (.int .i64 y1)] => G12 ⟨y0_0, y0_1, y0_2, y0_3, y0_4, y0_5, y0_6⟩ y1
  | _ => none }
theorem x12 : XOk Go.Proofs.Try.prog X12 := ⟨tks_ok, els_ok⟩
theorem q12 : Cons Go.Proofs.Try.prog X12 := ⟨lkR_ok (l := [(32, con32), (33, con33), (34, con34)]) ⟨c32, c33, c34, trivial⟩, lkW_ok (l := []) trivial⟩
theorem c12 : ConOk Go.Proofs.Try.prog KK 12 con12 := by
  refine con_dec x12 q12 (by kernel_rfl) (f := 12) (fn := Go.Proofs.Try.f12) (c := bodyOf Go.Proofs.Try.f12) (by kernel_rfl) (by kernel_rfl) (by kernel_rfl) (nameB (by kernel_rfl)) con12 dec12 (fun rs r0 h => ?_) (fun vs r0 h => ?_)
  · unfold dec12 at h
    split at h
    · cases h; rfl
    · cases h
  · simp only [con12] at h
    split at h
    · rename_i y0_0 y0_1 y0_2 y0_3 y0_4 y0_5 y0_6 y1
      exact ⟨Nat.le_of_ble_eq_true (by kernel_rfl), F12 fuel, (t12 fuel ⟨y0_0, y0_1, y0_2, y0_3, y0_4, y0_5, y0_6⟩ y1).trans h⟩
    · cases h
/-! ### f3 loop.example/wharfdesk/laws.FnExactHallNew -/
noncomputable def X3 : Cx C := { K := KK, tk := lk tks, con := lkC [(4, con4), (5, con5), (6, con6), (7, con7), (8, con8), (9, con9), (12, con12)], conw := lkC [(10, con10), (11, con11)] }
def F3 (n : Nat) : Cf := { N := n, keep := [0, 1, 2, 4, 5, 6, 7, 8, 9, 10, 11, 12, 17, 30, 35, 46, 54, 57, 65, 70, 73], live := lk [] }
def dec3 (rs : List (Bool × List (Lf C))) : Option (Bool) := match rs with
  | [(false, [.bool z0])] => some z0
  | _ => none
noncomputable def G3n (n : Nat) (a0 : VHallHouse) (a1 : Int) : Option (Bool) :=
      Option.bind (G4 a0 1048576) fun r1 =>
      cond (decide (r1 < 0))
      (some (true))
      (Option.bind (G6 a0) fun r2 =>
      Option.bind (G5 r2 a1) fun r3 =>
      Option.bind (G6 a0) fun r4 =>
      Option.bind (G7 r4 a1) fun r5 =>
      Option.bind (G8 r5 r3) fun r6 =>
      cond (!r6)
      (some (false))
      (Option.bind (G6 a0) fun r7 =>
      Option.bind (G9 r4 r7) fun r8 =>
      cond (!r8)
      (some (false))
      (Option.bind (G10 r4 1) fun r9 =>
      cond (decide (r9.2.2 < 0))
      (some (false))
      (Option.bind (G8 r5 r3) fun r10 =>
      cond (!r10)
      (some (false))
      (Option.bind (G11 r5 1) fun r11 =>
      Option.bind (G12 (⟨r11.1, r11.2.1, r11.2.2.1, r11.2.2.2.1, r11.2.2.2.2.1, r5.Now, r11.2.2.2.2.2.1⟩ : VHallWorld) 1) fun r12 =>
      cond (decide (r12 < 0))
      (some (false))
      (cond (r12 != r11.2.2.2.2.2.2)
      (some (false))
      (Option.bind (G6 a0) fun r13 =>
      Option.bind (G7 r13 a1) fun r14 =>
      Option.bind (G8 r14 r3) fun r15 =>
      cond (!r15)
      (some (false))
      (Option.bind (G12 (⟨r11.1, r11.2.1, r11.2.2.1, r11.2.2.2.1, r11.2.2.2.2.1, r5.Now, r11.2.2.2.2.2.1⟩ : VHallWorld) 1) fun r16 =>
      cond (decide (r16 < 0))
      (some (false))
      (cond (r16 != r11.2.2.2.2.2.2)
      (some (false))
      (some (true)))))))))))
theorem t3 (n : Nat) (a0 : VHallHouse) (a1 : Int) : runFn X3 (F3 n) Go.Proofs.Try.f3 [.agg [.row .e64 a0.Teams, .row .e70 a0.Grants], .one (.int .i64 a1)] dec3 = G3n n a0 a1 := by
  kernel_rfl
noncomputable def G3 (a0 : VHallHouse) (a1 : Int) : Option (Bool) := G3n fuel a0 a1
noncomputable def con3 : Con C := { R0 := Bool, ret := fun r => [(false, [.bool r])], g := fun vs => match vs with
  | [.agg [.row .e64 y0_0, .row .e70 y0_1], .one (.int .i64 y1)] => G3 ⟨y0_0, y0_1⟩ y1
  | _ => none }
theorem x3 : XOk Go.Proofs.Try.prog X3 := ⟨tks_ok, els_ok⟩
theorem q3 : Cons Go.Proofs.Try.prog X3 := ⟨lkR_ok (l := [(4, con4), (5, con5), (6, con6), (7, con7), (8, con8), (9, con9), (12, con12)]) ⟨c4, c5, c6, c7, c8, c9, c12, trivial⟩, lkW_ok (l := [(10, con10), (11, con11)]) ⟨c10, c11, trivial⟩⟩
theorem c3 : ConOk Go.Proofs.Try.prog KK 3 con3 := by
  refine con_dec x3 q3 (by kernel_rfl) (f := 3) (fn := Go.Proofs.Try.f3) (c := bodyOf Go.Proofs.Try.f3) (by kernel_rfl) (by kernel_rfl) (by kernel_rfl) (nameB (by kernel_rfl)) con3 dec3 (fun rs r0 h => ?_) (fun vs r0 h => ?_)
  · unfold dec3 at h
    split at h
    · cases h; rfl
    · cases h
  · simp only [con3] at h
    split at h
    · rename_i y0_0 y0_1 y1
      exact ⟨Nat.le_of_ble_eq_true (by kernel_rfl), F3 fuel, (t3 fuel ⟨y0_0, y0_1⟩ y1).trans h⟩
    · cases h

end Go.Proofs.Ytgpopgfidphheaa.Ab
