/- The functions that the law calls, written plainly, and their contracts: each call answers what its plain function answers. No conditions. -/
import Derived.Test.YtkiognopoigbhaaGa
set_option linter.unusedVariables false
set_option linter.unusedSimpArgs false
set_option maxRecDepth 100000
namespace Go.Proofs.Ytkiognopoigbhaa.Ab
open Go Go.RowKit
/-! ### f51 loop.example/wharfdesk/laws.toStringS -/
noncomputable def X51 : Cx C := { K := KK, tk := lk tks, con := lkC [], conw := lkC [], inl := lkA [], hold := [], mp := lk mps, meth := lkS meths, off := 3342336 }
def F51 (n : Nat) : Cf := { N := n, keep := [0, 2, 3, 4, 11], live := lk [(0, [0, 3, 4])] }
def dec51 (rs : List (Bool × List (Lf C))) : Option (List (C .e9)) := match rs with
  | [(false, [.row .e9 z0])] => some z0
  | _ => none
abbrev A51_0 : Type := List (C .e9) × List (C .e9) × Int
def s51_0 : A51_0 → St C := fun (x0_0, x0_1, x0_2) => { env := [(0, .one (.row .e9 x0_0)), (3, .one (.ref 100003 [])), (4, .one (.int .i64 x0_2))], objs := [(100003, .row .e9 x0_1 false)], base := 0 }
noncomputable def r51_0 (n : Nat)  (rec0 : A51_0 → Option (List (C .e9))) : A51_0 → Option (List (C .e9)) := fun (x0_0, x0_1, x0_2) =>
      cond (decide (x0_2 < (x0_0.length : Int)))
      (cond (decide (0 ≤ x0_2)) (Option.bind x0_0[x0_2.toNat]? fun x1 => cond (decide (0 ≤ x0_2)) (cond (decide (x0_2 < (x0_1.length : Int))) (Option.bind x0_1[x0_2.toNat]? fun x2 => rec0 (x0_0, x0_1.set x0_2.toNat x1, IntKind.i64.wrap (x0_2 + 1))) none) none) none)
      (some (x0_1))
noncomputable def LP51_0 (n : Nat)  (x : A51_0) : Option (List (C .e9)) := lpN (r51_0 n ) n x
noncomputable def MP51_0 (n : Nat)  (x : A51_0) : Option (List (C .e9)) := iter (fun rec S => run X51 (F51 n) (codeAt (bodyOf Go.Proofs.Try.f51) [1, 1, 0, 1, 0, 0]) 0 S (lopK rec (blkK 0 (seqK (run X51 (F51 n) (codeAt (bodyOf Go.Proofs.Try.f51) [1, 1, 1]) 0) (kTop X51 Go.Proofs.Try.f51 dec51))))) [0, 3, 4] n (s51_0 x)
theorem m51_0 (n : Nat)  (x : A51_0) : MP51_0 n  x = LP51_0 n  x := by
  refine iter_eq s51_0 (r51_0 n ) (fun rec0 x => ?_) n x
  obtain ⟨x0_0, x0_1, x0_2⟩ := x
  kernel_rfl
noncomputable def G51n (n : Nat) (a0 : List (C .e9)) : Option (List (C .e9)) :=
      cond (decide ((a0.length : Int) = (a0.length : Int))) (cond (decide (0 ≤ (a0.length : Int))) (cond (decide ((a0.length : Int) * 16 ≤ 140737488355328)) (LP51_0 n  (a0, List.replicate (a0.length : Int).toNat (⟨#[]⟩ : C .e9), 0)) none) none) none
theorem t51 (n : Nat) (a0 : List (C .e9)) : runFn X51 (F51 n) Go.Proofs.Try.f51 [.one (.row .e9 a0)] dec51 = G51n n a0 := by
  have h : runFn X51 (F51 n) Go.Proofs.Try.f51 [.one (.row .e9 a0)] dec51 =
      cond (decide ((a0.length : Int) = (a0.length : Int))) (cond (decide (0 ≤ (a0.length : Int))) (cond (decide ((a0.length : Int) * 16 ≤ 140737488355328)) (MP51_0 n  (a0, List.replicate (a0.length : Int).toNat (⟨#[]⟩ : C .e9), 0)) none) none) none := by kernel_rfl
  simp only [h, G51n, m51_0]
noncomputable def G51 (a0 : List (C .e9)) : Option (List (C .e9)) := G51n fuel a0
noncomputable def con51 : Con C := { R0 := List (C .e9), ret := fun r => [(false, [.row .e9 r])], g := fun vs => match vs with
  | [.one (.row .e9 y0)] => G51 y0
  | _ => none }
theorem x51 : XOk Go.Proofs.Try.prog X51 := ⟨tks_ok, els_ok, mps_ok, meths_ok⟩
theorem q51 : Cons Go.Proofs.Try.prog X51 := ⟨lkR_ok (l := []) trivial, lkW_ok (l := []) trivial, lkI_ok (l := []) trivial⟩
theorem c51 : ConOk Go.Proofs.Try.prog KK 51 con51 := by
  refine con_dec x51 q51 (by kernel_rfl) (f := 51) (fn := Go.Proofs.Try.f51) (c := bodyOf Go.Proofs.Try.f51) (by kernel_rfl) (by kernel_rfl) (by kernel_rfl) (nameB (by kernel_rfl)) con51 dec51 (fun rs r0 h => ?_) (fun vs r0 h => ?_)
  · unfold dec51 at h
    split at h
    · cases h; rfl
    · cases h
  · simp only [con51] at h
    split at h
    · rename_i y0
      exact ⟨Nat.le_of_ble_eq_true (by kernel_rfl), F51 fuel, (t51 fuel y0).trans h⟩
    · cases h
/-! ### f108 loop.example/wharfdesk/laws.toGateField -/
noncomputable def X108 : Cx C := { K := KK, tk := lk tks, con := lkC [(51, con51)], conw := lkC [], inl := lkA [], hold := [], mp := lk mps, meth := lkS meths, off := 7077888 }
def F108 (n : Nat) : Cf := { N := n, keep := [0, 1, 2, 3], live := lk [] }
def dec108 (rs : List (Bool × List (Lf C))) : Option (VGateField) := match rs with
  | [(true, [.str z0, .int .i64 z1, .int .i64 z2, .int .i64 z3, .row .e9 z4, .str z5, .int .i64 z6, .bool z7, .bool z8, .str z9, .str z10])] => some ⟨z0, z1, z2, z3, z4, z5, z6, z7, z8, z9, z10⟩
  | _ => none
noncomputable def G108n (n : Nat) (a0 : VGateField) : Option (VGateField) :=
      Option.bind (G51 a0.Words) fun r1 =>
      some ((⟨a0.Name, a0.Kind, a0.Least, a0.Most, r1, a0.To, a0.Role, a0.Must, a0.Fixed, a0.Default, a0.Weighs⟩ : VGateField))
theorem t108 (n : Nat) (a0 : VGateField) : runFn X108 (F108 n) Go.Proofs.Try.f108 [.agg [.str a0.Name, .int .i64 a0.Kind, .int .i64 a0.Least, .int .i64 a0.Most, .row .e9 a0.Words, .str a0.To, .int .i64 a0.Role, .bool a0.Must, .bool a0.Fixed, .str a0.Default, .str a0.Weighs]] dec108 = G108n n a0 := by
  kernel_rfl
noncomputable def G108 (a0 : VGateField) : Option (VGateField) := G108n fuel a0
noncomputable def con108 : Con C := { R0 := VGateField, ret := fun r => [(true, [.str r.Name, .int .i64 r.Kind, .int .i64 r.Least, .int .i64 r.Most, .row .e9 r.Words, .str r.To, .int .i64 r.Role, .bool r.Must, .bool r.Fixed, .str r.Default, .str r.Weighs])], g := fun vs => match vs with
  | [.agg [.str y0_0, .int .i64 y0_1, .int .i64 y0_2, .int .i64 y0_3, .row .e9 y0_4, .str y0_5, .int .i64 y0_6, .bool y0_7, .bool y0_8, .str y0_9, .str y0_10]] => G108 ⟨y0_0, y0_1, y0_2, y0_3, y0_4, y0_5, y0_6, y0_7, y0_8, y0_9, y0_10⟩
  | _ => none }
theorem x108 : XOk Go.Proofs.Try.prog X108 := ⟨tks_ok, els_ok, mps_ok, meths_ok⟩
theorem q108 : Cons Go.Proofs.Try.prog X108 := ⟨lkR_ok (l := [(51, con51)]) ⟨c51, trivial⟩, lkW_ok (l := []) trivial, lkI_ok (l := []) trivial⟩
theorem c108 : ConOk Go.Proofs.Try.prog KK 108 con108 := by
  refine con_dec x108 q108 (by kernel_rfl) (f := 108) (fn := Go.Proofs.Try.f108) (c := bodyOf Go.Proofs.Try.f108) (by kernel_rfl) (by kernel_rfl) (by kernel_rfl) (nameB (by kernel_rfl)) con108 dec108 (fun rs r0 h => ?_) (fun vs r0 h => ?_)
  · unfold dec108 at h
    split at h
    · cases h; rfl
    · cases h
  · simp only [con108] at h
    split at h
    · rename_i y0_0 y0_1 y0_2 y0_3 y0_4 y0_5 y0_6 y0_7 y0_8 y0_9 y0_10
      exact ⟨Nat.le_of_ble_eq_true (by kernel_rfl), F108 fuel, (t108 fuel ⟨y0_0, y0_1, y0_2, y0_3, y0_4, y0_5, y0_6, y0_7, y0_8, y0_9, y0_10⟩).trans h⟩
    · cases h
/-! ### f86 loop.example/wharfdesk/laws.toGateFieldS -/
noncomputable def X86 : Cx C := { K := KK, tk := lk tks, con := lkC [(108, con108)], conw := lkC [], inl := lkA [], hold := [], mp := lk mps, meth := lkS meths, off := 5636096 }
def F86 (n : Nat) : Cf := { N := n, keep := [0, 2, 3, 4, 11], live := lk [(0, [0, 3, 4])] }
def dec86 (rs : List (Bool × List (Lf C))) : Option (List (C .e100)) := match rs with
  | [(false, [.row .e100 z0])] => some z0
  | _ => none
abbrev A86_0 : Type := List (C .e134) × List (C .e100) × Int
def s86_0 : A86_0 → St C := fun (x0_0, x0_1, x0_2) => { env := [(0, .one (.row .e134 x0_0)), (3, .one (.ref 100003 [])), (4, .one (.int .i64 x0_2))], objs := [(100003, .row .e100 x0_1 false)], base := 0 }
noncomputable def r86_0 (n : Nat)  (rec0 : A86_0 → Option (List (C .e100))) : A86_0 → Option (List (C .e100)) := fun (x0_0, x0_1, x0_2) =>
      cond (decide (x0_2 < (x0_0.length : Int)))
      (cond (decide (0 ≤ x0_2)) (Option.bind x0_0[x0_2.toNat]? fun x1 => Option.bind (G108 x1) fun r2 =>
      cond (decide (0 ≤ x0_2)) (cond (decide (x0_2 < (x0_1.length : Int))) (Option.bind x0_1[x0_2.toNat]? fun x3 => rec0 (x0_0, x0_1.set x0_2.toNat r2, IntKind.i64.wrap (x0_2 + 1))) none) none) none)
      (some (x0_1))
noncomputable def LP86_0 (n : Nat)  (x : A86_0) : Option (List (C .e100)) := lpN (r86_0 n ) n x
noncomputable def MP86_0 (n : Nat)  (x : A86_0) : Option (List (C .e100)) := iter (fun rec S => run X86 (F86 n) (codeAt (bodyOf Go.Proofs.Try.f86) [1, 1, 0, 1, 0, 0]) 0 S (lopK rec (blkK 0 (seqK (run X86 (F86 n) (codeAt (bodyOf Go.Proofs.Try.f86) [1, 1, 1]) 0) (kTop X86 Go.Proofs.Try.f86 dec86))))) [0, 3, 4] n (s86_0 x)
theorem m86_0 (n : Nat)  (x : A86_0) : MP86_0 n  x = LP86_0 n  x := by
  refine iter_eq s86_0 (r86_0 n ) (fun rec0 x => ?_) n x
  obtain ⟨x0_0, x0_1, x0_2⟩ := x
  kernel_rfl
noncomputable def G86n (n : Nat) (a0 : List (C .e134)) : Option (List (C .e100)) :=
      cond (decide ((a0.length : Int) = (a0.length : Int))) (cond (decide (0 ≤ (a0.length : Int))) (cond (decide ((a0.length : Int) * 128 ≤ 140737488355328)) (LP86_0 n  (a0, List.replicate (a0.length : Int).toNat (⟨⟨#[]⟩, 0, 0, 0, [], ⟨#[]⟩, 0, false, false, ⟨#[]⟩, ⟨#[]⟩⟩ : C .e100), 0)) none) none) none
theorem t86 (n : Nat) (a0 : List (C .e134)) : runFn X86 (F86 n) Go.Proofs.Try.f86 [.one (.row .e134 a0)] dec86 = G86n n a0 := by
  have h : runFn X86 (F86 n) Go.Proofs.Try.f86 [.one (.row .e134 a0)] dec86 =
      cond (decide ((a0.length : Int) = (a0.length : Int))) (cond (decide (0 ≤ (a0.length : Int))) (cond (decide ((a0.length : Int) * 128 ≤ 140737488355328)) (MP86_0 n  (a0, List.replicate (a0.length : Int).toNat (⟨⟨#[]⟩, 0, 0, 0, [], ⟨#[]⟩, 0, false, false, ⟨#[]⟩, ⟨#[]⟩⟩ : C .e100), 0)) none) none) none := by kernel_rfl
  simp only [h, G86n, m86_0]
noncomputable def G86 (a0 : List (C .e134)) : Option (List (C .e100)) := G86n fuel a0
noncomputable def con86 : Con C := { R0 := List (C .e100), ret := fun r => [(false, [.row .e100 r])], g := fun vs => match vs with
  | [.one (.row .e134 y0)] => G86 y0
  | _ => none }
theorem x86 : XOk Go.Proofs.Try.prog X86 := ⟨tks_ok, els_ok, mps_ok, meths_ok⟩
theorem q86 : Cons Go.Proofs.Try.prog X86 := ⟨lkR_ok (l := [(108, con108)]) ⟨c108, trivial⟩, lkW_ok (l := []) trivial, lkI_ok (l := []) trivial⟩
theorem c86 : ConOk Go.Proofs.Try.prog KK 86 con86 := by
  refine con_dec x86 q86 (by kernel_rfl) (f := 86) (fn := Go.Proofs.Try.f86) (c := bodyOf Go.Proofs.Try.f86) (by kernel_rfl) (by kernel_rfl) (by kernel_rfl) (nameB (by kernel_rfl)) con86 dec86 (fun rs r0 h => ?_) (fun vs r0 h => ?_)
  · unfold dec86 at h
    split at h
    · cases h; rfl
    · cases h
  · simp only [con86] at h
    split at h
    · rename_i y0
      exact ⟨Nat.le_of_ble_eq_true (by kernel_rfl), F86 fuel, (t86 fuel y0).trans h⟩
    · cases h
/-! ### f49 loop.example/wharfdesk/laws.toGateShape -/
noncomputable def X49 : Cx C := { K := KK, tk := lk tks, con := lkC [(86, con86)], conw := lkC [], inl := lkA [], hold := [], mp := lk mps, meth := lkS meths, off := 3211264 }
def F49 (n : Nat) : Cf := { N := n, keep := [0, 1, 2, 3], live := lk [] }
def dec49 (rs : List (Bool × List (Lf C))) : Option (VGateShape) := match rs with
  | [(true, [.str z0, .row .e100 z1])] => some ⟨z0, z1⟩
  | _ => none
noncomputable def G49n (n : Nat) (a0 : VGateShape) : Option (VGateShape) :=
      Option.bind (G86 a0.Fields) fun r1 =>
      some ((⟨a0.Kind, r1⟩ : VGateShape))
theorem t49 (n : Nat) (a0 : VGateShape) : runFn X49 (F49 n) Go.Proofs.Try.f49 [.agg [.str a0.Kind, .row .e134 a0.Fields]] dec49 = G49n n a0 := by
  kernel_rfl
noncomputable def G49 (a0 : VGateShape) : Option (VGateShape) := G49n fuel a0
noncomputable def con49 : Con C := { R0 := VGateShape, ret := fun r => [(true, [.str r.Kind, .row .e100 r.Fields])], g := fun vs => match vs with
  | [.agg [.str y0_0, .row .e134 y0_1]] => G49 ⟨y0_0, y0_1⟩
  | _ => none }
theorem x49 : XOk Go.Proofs.Try.prog X49 := ⟨tks_ok, els_ok, mps_ok, meths_ok⟩
theorem q49 : Cons Go.Proofs.Try.prog X49 := ⟨lkR_ok (l := [(86, con86)]) ⟨c86, trivial⟩, lkW_ok (l := []) trivial, lkI_ok (l := []) trivial⟩
theorem c49 : ConOk Go.Proofs.Try.prog KK 49 con49 := by
  refine con_dec x49 q49 (by kernel_rfl) (f := 49) (fn := Go.Proofs.Try.f49) (c := bodyOf Go.Proofs.Try.f49) (by kernel_rfl) (by kernel_rfl) (by kernel_rfl) (nameB (by kernel_rfl)) con49 dec49 (fun rs r0 h => ?_) (fun vs r0 h => ?_)
  · unfold dec49 at h
    split at h
    · cases h; rfl
    · cases h
  · simp only [con49] at h
    split at h
    · rename_i y0_0 y0_1
      exact ⟨Nat.le_of_ble_eq_true (by kernel_rfl), F49 fuel, (t49 fuel ⟨y0_0, y0_1⟩).trans h⟩
    · cases h
/-! ### f16 loop.example/wharfdesk/laws.toGateShapeS -/
noncomputable def X16 : Cx C := { K := KK, tk := lk tks, con := lkC [(49, con49)], conw := lkC [], inl := lkA [], hold := [], mp := lk mps, meth := lkS meths, off := 1048576 }
def F16 (n : Nat) : Cf := { N := n, keep := [0, 2, 3, 4, 11], live := lk [(0, [0, 3, 4])] }
def dec16 (rs : List (Bool × List (Lf C))) : Option (List (C .e81)) := match rs with
  | [(false, [.row .e81 z0])] => some z0
  | _ => none
abbrev A16_0 : Type := List (C .e74) × List (C .e81) × Int
def s16_0 : A16_0 → St C := fun (x0_0, x0_1, x0_2) => { env := [(0, .one (.row .e74 x0_0)), (3, .one (.ref 100003 [])), (4, .one (.int .i64 x0_2))], objs := [(100003, .row .e81 x0_1 false)], base := 0 }
noncomputable def r16_0 (n : Nat)  (rec0 : A16_0 → Option (List (C .e81))) : A16_0 → Option (List (C .e81)) := fun (x0_0, x0_1, x0_2) =>
      cond (decide (x0_2 < (x0_0.length : Int)))
      (cond (decide (0 ≤ x0_2)) (Option.bind x0_0[x0_2.toNat]? fun x1 => Option.bind (G49 x1) fun r2 =>
      cond (decide (0 ≤ x0_2)) (cond (decide (x0_2 < (x0_1.length : Int))) (Option.bind x0_1[x0_2.toNat]? fun x3 => rec0 (x0_0, x0_1.set x0_2.toNat r2, IntKind.i64.wrap (x0_2 + 1))) none) none) none)
      (some (x0_1))
noncomputable def LP16_0 (n : Nat)  (x : A16_0) : Option (List (C .e81)) := lpN (r16_0 n ) n x
noncomputable def MP16_0 (n : Nat)  (x : A16_0) : Option (List (C .e81)) := iter (fun rec S => run X16 (F16 n) (codeAt (bodyOf Go.Proofs.Try.f16) [1, 1, 0, 1, 0, 0]) 0 S (lopK rec (blkK 0 (seqK (run X16 (F16 n) (codeAt (bodyOf Go.Proofs.Try.f16) [1, 1, 1]) 0) (kTop X16 Go.Proofs.Try.f16 dec16))))) [0, 3, 4] n (s16_0 x)
theorem m16_0 (n : Nat)  (x : A16_0) : MP16_0 n  x = LP16_0 n  x := by
  refine iter_eq s16_0 (r16_0 n ) (fun rec0 x => ?_) n x
  obtain ⟨x0_0, x0_1, x0_2⟩ := x
  kernel_rfl
noncomputable def G16n (n : Nat) (a0 : List (C .e74)) : Option (List (C .e81)) :=
      cond (decide ((a0.length : Int) = (a0.length : Int))) (cond (decide (0 ≤ (a0.length : Int))) (cond (decide ((a0.length : Int) * 40 ≤ 140737488355328)) (LP16_0 n  (a0, List.replicate (a0.length : Int).toNat (⟨⟨#[]⟩, []⟩ : C .e81), 0)) none) none) none
theorem t16 (n : Nat) (a0 : List (C .e74)) : runFn X16 (F16 n) Go.Proofs.Try.f16 [.one (.row .e74 a0)] dec16 = G16n n a0 := by
  have h : runFn X16 (F16 n) Go.Proofs.Try.f16 [.one (.row .e74 a0)] dec16 =
      cond (decide ((a0.length : Int) = (a0.length : Int))) (cond (decide (0 ≤ (a0.length : Int))) (cond (decide ((a0.length : Int) * 40 ≤ 140737488355328)) (MP16_0 n  (a0, List.replicate (a0.length : Int).toNat (⟨⟨#[]⟩, []⟩ : C .e81), 0)) none) none) none := by kernel_rfl
  simp only [h, G16n, m16_0]
noncomputable def G16 (a0 : List (C .e74)) : Option (List (C .e81)) := G16n fuel a0
noncomputable def con16 : Con C := { R0 := List (C .e81), ret := fun r => [(false, [.row .e81 r])], g := fun vs => match vs with
  | [.one (.row .e74 y0)] => G16 y0
  | _ => none }
theorem x16 : XOk Go.Proofs.Try.prog X16 := ⟨tks_ok, els_ok, mps_ok, meths_ok⟩
theorem q16 : Cons Go.Proofs.Try.prog X16 := ⟨lkR_ok (l := [(49, con49)]) ⟨c49, trivial⟩, lkW_ok (l := []) trivial, lkI_ok (l := []) trivial⟩
theorem c16 : ConOk Go.Proofs.Try.prog KK 16 con16 := by
  refine con_dec x16 q16 (by kernel_rfl) (f := 16) (fn := Go.Proofs.Try.f16) (c := bodyOf Go.Proofs.Try.f16) (by kernel_rfl) (by kernel_rfl) (by kernel_rfl) (nameB (by kernel_rfl)) con16 dec16 (fun rs r0 h => ?_) (fun vs r0 h => ?_)
  · unfold dec16 at h
    split at h
    · cases h; rfl
    · cases h
  · simp only [con16] at h
    split at h
    · rename_i y0
      exact ⟨Nat.le_of_ble_eq_true (by kernel_rfl), F16 fuel, (t16 fuel y0).trans h⟩
    · cases h
/-! ### f50 loop.example/wharfdesk/laws.toGateMend -/
noncomputable def X50 : Cx C := { K := KK, tk := lk tks, con := lkC [], conw := lkC [], inl := lkA [], hold := [], mp := lk mps, meth := lkS meths, off := 3276800 }
def F50 (n : Nat) : Cf := { N := n, keep := [0, 1, 2, 3], live := lk [] }
def dec50 (rs : List (Bool × List (Lf C))) : Option (VGateMend) := match rs with
  | [(true, [.str z0, .str z1, .str z2, .str z3, .str z4, .str z5])] => some ⟨z0, z1, z2, z3, z4, z5⟩
  | _ => none
noncomputable def G50n (n : Nat) (a0 : VGateMend) : Option (VGateMend) :=
      some (a0)
theorem t50 (n : Nat) (a0 : VGateMend) : runFn X50 (F50 n) Go.Proofs.Try.f50 [.agg [.str a0.Kind, .str a0.Field, .str a0.When, .str a0.Is, .str a0.Put, .str a0.From]] dec50 = G50n n a0 := by
  kernel_rfl
noncomputable def G50 (a0 : VGateMend) : Option (VGateMend) := G50n fuel a0
noncomputable def con50 : Con C := { R0 := VGateMend, ret := fun r => [(true, [.str r.Kind, .str r.Field, .str r.When, .str r.Is, .str r.Put, .str r.From])], g := fun vs => match vs with
  | [.agg [.str y0_0, .str y0_1, .str y0_2, .str y0_3, .str y0_4, .str y0_5]] => G50 ⟨y0_0, y0_1, y0_2, y0_3, y0_4, y0_5⟩
  | _ => none }
theorem x50 : XOk Go.Proofs.Try.prog X50 := ⟨tks_ok, els_ok, mps_ok, meths_ok⟩
theorem q50 : Cons Go.Proofs.Try.prog X50 := ⟨lkR_ok (l := []) trivial, lkW_ok (l := []) trivial, lkI_ok (l := []) trivial⟩
theorem c50 : ConOk Go.Proofs.Try.prog KK 50 con50 := by
  refine con_dec x50 q50 (by kernel_rfl) (f := 50) (fn := Go.Proofs.Try.f50) (c := bodyOf Go.Proofs.Try.f50) (by kernel_rfl) (by kernel_rfl) (by kernel_rfl) (nameB (by kernel_rfl)) con50 dec50 (fun rs r0 h => ?_) (fun vs r0 h => ?_)
  · unfold dec50 at h
    split at h
    · cases h; rfl
    · cases h
  · simp only [con50] at h
    split at h
    · rename_i y0_0 y0_1 y0_2 y0_3 y0_4 y0_5
      exact ⟨Nat.le_of_ble_eq_true (by kernel_rfl), F50 fuel, (t50 fuel ⟨y0_0, y0_1, y0_2, y0_3, y0_4, y0_5⟩).trans h⟩
    · cases h
/-! ### f17 loop.example/wharfdesk/laws.toGateMendS -/
noncomputable def X17 : Cx C := { K := KK, tk := lk tks, con := lkC [(50, con50)], conw := lkC [], inl := lkA [], hold := [], mp := lk mps, meth := lkS meths, off := 1114112 }
def F17 (n : Nat) : Cf := { N := n, keep := [0, 2, 3, 4, 11], live := lk [(0, [0, 3, 4])] }
def dec17 (rs : List (Bool × List (Lf C))) : Option (List (C .e83)) := match rs with
  | [(false, [.row .e83 z0])] => some z0
  | _ => none
abbrev A17_0 : Type := List (C .e77) × List (C .e83) × Int
def s17_0 : A17_0 → St C := fun (x0_0, x0_1, x0_2) => { env := [(0, .one (.row .e77 x0_0)), (3, .one (.ref 100003 [])), (4, .one (.int .i64 x0_2))], objs := [(100003, .row .e83 x0_1 false)], base := 0 }
noncomputable def r17_0 (n : Nat)  (rec0 : A17_0 → Option (List (C .e83))) : A17_0 → Option (List (C .e83)) := fun (x0_0, x0_1, x0_2) =>
      cond (decide (x0_2 < (x0_0.length : Int)))
      (cond (decide (0 ≤ x0_2)) (Option.bind x0_0[x0_2.toNat]? fun x1 => Option.bind (G50 x1) fun r2 =>
      cond (decide (0 ≤ x0_2)) (cond (decide (x0_2 < (x0_1.length : Int))) (Option.bind x0_1[x0_2.toNat]? fun x3 => rec0 (x0_0, x0_1.set x0_2.toNat r2, IntKind.i64.wrap (x0_2 + 1))) none) none) none)
      (some (x0_1))
noncomputable def LP17_0 (n : Nat)  (x : A17_0) : Option (List (C .e83)) := lpN (r17_0 n ) n x
noncomputable def MP17_0 (n : Nat)  (x : A17_0) : Option (List (C .e83)) := iter (fun rec S => run X17 (F17 n) (codeAt (bodyOf Go.Proofs.Try.f17) [1, 1, 0, 1, 0, 0]) 0 S (lopK rec (blkK 0 (seqK (run X17 (F17 n) (codeAt (bodyOf Go.Proofs.Try.f17) [1, 1, 1]) 0) (kTop X17 Go.Proofs.Try.f17 dec17))))) [0, 3, 4] n (s17_0 x)
theorem m17_0 (n : Nat)  (x : A17_0) : MP17_0 n  x = LP17_0 n  x := by
  refine iter_eq s17_0 (r17_0 n ) (fun rec0 x => ?_) n x
  obtain ⟨x0_0, x0_1, x0_2⟩ := x
  kernel_rfl
noncomputable def G17n (n : Nat) (a0 : List (C .e77)) : Option (List (C .e83)) :=
      cond (decide ((a0.length : Int) = (a0.length : Int))) (cond (decide (0 ≤ (a0.length : Int))) (cond (decide ((a0.length : Int) * 96 ≤ 140737488355328)) (LP17_0 n  (a0, List.replicate (a0.length : Int).toNat (⟨⟨#[]⟩, ⟨#[]⟩, ⟨#[]⟩, ⟨#[]⟩, ⟨#[]⟩, ⟨#[]⟩⟩ : C .e83), 0)) none) none) none
theorem t17 (n : Nat) (a0 : List (C .e77)) : runFn X17 (F17 n) Go.Proofs.Try.f17 [.one (.row .e77 a0)] dec17 = G17n n a0 := by
  have h : runFn X17 (F17 n) Go.Proofs.Try.f17 [.one (.row .e77 a0)] dec17 =
      cond (decide ((a0.length : Int) = (a0.length : Int))) (cond (decide (0 ≤ (a0.length : Int))) (cond (decide ((a0.length : Int) * 96 ≤ 140737488355328)) (MP17_0 n  (a0, List.replicate (a0.length : Int).toNat (⟨⟨#[]⟩, ⟨#[]⟩, ⟨#[]⟩, ⟨#[]⟩, ⟨#[]⟩, ⟨#[]⟩⟩ : C .e83), 0)) none) none) none := by kernel_rfl
  simp only [h, G17n, m17_0]
noncomputable def G17 (a0 : List (C .e77)) : Option (List (C .e83)) := G17n fuel a0
noncomputable def con17 : Con C := { R0 := List (C .e83), ret := fun r => [(false, [.row .e83 r])], g := fun vs => match vs with
  | [.one (.row .e77 y0)] => G17 y0
  | _ => none }
theorem x17 : XOk Go.Proofs.Try.prog X17 := ⟨tks_ok, els_ok, mps_ok, meths_ok⟩
theorem q17 : Cons Go.Proofs.Try.prog X17 := ⟨lkR_ok (l := [(50, con50)]) ⟨c50, trivial⟩, lkW_ok (l := []) trivial, lkI_ok (l := []) trivial⟩
theorem c17 : ConOk Go.Proofs.Try.prog KK 17 con17 := by
  refine con_dec x17 q17 (by kernel_rfl) (f := 17) (fn := Go.Proofs.Try.f17) (c := bodyOf Go.Proofs.Try.f17) (by kernel_rfl) (by kernel_rfl) (by kernel_rfl) (nameB (by kernel_rfl)) con17 dec17 (fun rs r0 h => ?_) (fun vs r0 h => ?_)
  · unfold dec17 at h
    split at h
    · cases h; rfl
    · cases h
  · simp only [con17] at h
    split at h
    · rename_i y0
      exact ⟨Nat.le_of_ble_eq_true (by kernel_rfl), F17 fuel, (t17 fuel y0).trans h⟩
    · cases h
/-! ### f77 loop.example/wharfdesk/laws.toGateTeam -/
noncomputable def X77 : Cx C := { K := KK, tk := lk tks, con := lkC [], conw := lkC [], inl := lkA [], hold := [], mp := lk mps, meth := lkS meths, off := 5046272 }
def F77 (n : Nat) : Cf := { N := n, keep := [0, 1, 2, 3], live := lk [] }
def dec77 (rs : List (Bool × List (Lf C))) : Option (VGateTeam) := match rs with
  | [(true, [.str z0, .str z1])] => some ⟨z0, z1⟩
  | _ => none
noncomputable def G77n (n : Nat) (a0 : VGateTeam) : Option (VGateTeam) :=
      some (a0)
theorem t77 (n : Nat) (a0 : VGateTeam) : runFn X77 (F77 n) Go.Proofs.Try.f77 [.agg [.str a0.Name, .str a0.Over]] dec77 = G77n n a0 := by
  kernel_rfl
noncomputable def G77 (a0 : VGateTeam) : Option (VGateTeam) := G77n fuel a0
noncomputable def con77 : Con C := { R0 := VGateTeam, ret := fun r => [(true, [.str r.Name, .str r.Over])], g := fun vs => match vs with
  | [.agg [.str y0_0, .str y0_1]] => G77 ⟨y0_0, y0_1⟩
  | _ => none }
theorem x77 : XOk Go.Proofs.Try.prog X77 := ⟨tks_ok, els_ok, mps_ok, meths_ok⟩
theorem q77 : Cons Go.Proofs.Try.prog X77 := ⟨lkR_ok (l := []) trivial, lkW_ok (l := []) trivial, lkI_ok (l := []) trivial⟩
theorem c77 : ConOk Go.Proofs.Try.prog KK 77 con77 := by
  refine con_dec x77 q77 (by kernel_rfl) (f := 77) (fn := Go.Proofs.Try.f77) (c := bodyOf Go.Proofs.Try.f77) (by kernel_rfl) (by kernel_rfl) (by kernel_rfl) (nameB (by kernel_rfl)) con77 dec77 (fun rs r0 h => ?_) (fun vs r0 h => ?_)
  · unfold dec77 at h
    split at h
    · cases h; rfl
    · cases h
  · simp only [con77] at h
    split at h
    · rename_i y0_0 y0_1
      exact ⟨Nat.le_of_ble_eq_true (by kernel_rfl), F77 fuel, (t77 fuel ⟨y0_0, y0_1⟩).trans h⟩
    · cases h
/-! ### f41 loop.example/wharfdesk/laws.toGateTeamS -/
noncomputable def X41 : Cx C := { K := KK, tk := lk tks, con := lkC [(77, con77)], conw := lkC [], inl := lkA [], hold := [], mp := lk mps, meth := lkS meths, off := 2686976 }
def F41 (n : Nat) : Cf := { N := n, keep := [0, 2, 3, 4, 11], live := lk [(0, [0, 3, 4])] }
def dec41 (rs : List (Bool × List (Lf C))) : Option (List (C .e106)) := match rs with
  | [(false, [.row .e106 z0])] => some z0
  | _ => none
abbrev A41_0 : Type := List (C .e103) × List (C .e106) × Int
def s41_0 : A41_0 → St C := fun (x0_0, x0_1, x0_2) => { env := [(0, .one (.row .e103 x0_0)), (3, .one (.ref 100003 [])), (4, .one (.int .i64 x0_2))], objs := [(100003, .row .e106 x0_1 false)], base := 0 }
noncomputable def r41_0 (n : Nat)  (rec0 : A41_0 → Option (List (C .e106))) : A41_0 → Option (List (C .e106)) := fun (x0_0, x0_1, x0_2) =>
      cond (decide (x0_2 < (x0_0.length : Int)))
      (cond (decide (0 ≤ x0_2)) (Option.bind x0_0[x0_2.toNat]? fun x1 => Option.bind (G77 x1) fun r2 =>
      cond (decide (0 ≤ x0_2)) (cond (decide (x0_2 < (x0_1.length : Int))) (Option.bind x0_1[x0_2.toNat]? fun x3 => rec0 (x0_0, x0_1.set x0_2.toNat r2, IntKind.i64.wrap (x0_2 + 1))) none) none) none)
      (some (x0_1))
noncomputable def LP41_0 (n : Nat)  (x : A41_0) : Option (List (C .e106)) := lpN (r41_0 n ) n x
noncomputable def MP41_0 (n : Nat)  (x : A41_0) : Option (List (C .e106)) := iter (fun rec S => run X41 (F41 n) (codeAt (bodyOf Go.Proofs.Try.f41) [1, 1, 0, 1, 0, 0]) 0 S (lopK rec (blkK 0 (seqK (run X41 (F41 n) (codeAt (bodyOf Go.Proofs.Try.f41) [1, 1, 1]) 0) (kTop X41 Go.Proofs.Try.f41 dec41))))) [0, 3, 4] n (s41_0 x)
theorem m41_0 (n : Nat)  (x : A41_0) : MP41_0 n  x = LP41_0 n  x := by
  refine iter_eq s41_0 (r41_0 n ) (fun rec0 x => ?_) n x
  obtain ⟨x0_0, x0_1, x0_2⟩ := x
  kernel_rfl
noncomputable def G41n (n : Nat) (a0 : List (C .e103)) : Option (List (C .e106)) :=
      cond (decide ((a0.length : Int) = (a0.length : Int))) (cond (decide (0 ≤ (a0.length : Int))) (cond (decide ((a0.length : Int) * 32 ≤ 140737488355328)) (LP41_0 n  (a0, List.replicate (a0.length : Int).toNat (⟨⟨#[]⟩, ⟨#[]⟩⟩ : C .e106), 0)) none) none) none
theorem t41 (n : Nat) (a0 : List (C .e103)) : runFn X41 (F41 n) Go.Proofs.Try.f41 [.one (.row .e103 a0)] dec41 = G41n n a0 := by
  have h : runFn X41 (F41 n) Go.Proofs.Try.f41 [.one (.row .e103 a0)] dec41 =
      cond (decide ((a0.length : Int) = (a0.length : Int))) (cond (decide (0 ≤ (a0.length : Int))) (cond (decide ((a0.length : Int) * 32 ≤ 140737488355328)) (MP41_0 n  (a0, List.replicate (a0.length : Int).toNat (⟨⟨#[]⟩, ⟨#[]⟩⟩ : C .e106), 0)) none) none) none := by kernel_rfl
  simp only [h, G41n, m41_0]
noncomputable def G41 (a0 : List (C .e103)) : Option (List (C .e106)) := G41n fuel a0
noncomputable def con41 : Con C := { R0 := List (C .e106), ret := fun r => [(false, [.row .e106 r])], g := fun vs => match vs with
  | [.one (.row .e103 y0)] => G41 y0
  | _ => none }
theorem x41 : XOk Go.Proofs.Try.prog X41 := ⟨tks_ok, els_ok, mps_ok, meths_ok⟩
theorem q41 : Cons Go.Proofs.Try.prog X41 := ⟨lkR_ok (l := [(77, con77)]) ⟨c77, trivial⟩, lkW_ok (l := []) trivial, lkI_ok (l := []) trivial⟩
theorem c41 : ConOk Go.Proofs.Try.prog KK 41 con41 := by
  refine con_dec x41 q41 (by kernel_rfl) (f := 41) (fn := Go.Proofs.Try.f41) (c := bodyOf Go.Proofs.Try.f41) (by kernel_rfl) (by kernel_rfl) (by kernel_rfl) (nameB (by kernel_rfl)) con41 dec41 (fun rs r0 h => ?_) (fun vs r0 h => ?_)
  · unfold dec41 at h
    split at h
    · cases h; rfl
    · cases h
  · simp only [con41] at h
    split at h
    · rename_i y0
      exact ⟨Nat.le_of_ble_eq_true (by kernel_rfl), F41 fuel, (t41 fuel y0).trans h⟩
    · cases h
/-! ### f9 loop.example/wharfdesk/laws.toGateLaw -/
noncomputable def X9 : Cx C := { K := KK, tk := lk tks, con := lkC [(16, con16), (17, con17), (41, con41)], conw := lkC [], inl := lkA [], hold := [], mp := lk mps, meth := lkS meths, off := 589824 }
def F9 (n : Nat) : Cf := { N := n, keep := [0, 1, 2, 3], live := lk [] }
def dec9 (rs : List (Bool × List (Lf C))) : Option (VGateLaw) := match rs with
  | [(true, [.row .e81 z0, .row .e83 z1, .row .e106 z2])] => some ⟨z0, z1, z2⟩
  | _ => none
noncomputable def G9n (n : Nat) (a0 : VGateLaw) : Option (VGateLaw) :=
      Option.bind (G16 a0.Shapes) fun r1 =>
      Option.bind (G17 a0.Mends) fun r2 =>
      Option.bind (G41 a0.Teams) fun r3 =>
      some ((⟨r1, r2, r3⟩ : VGateLaw))
theorem t9 (n : Nat) (a0 : VGateLaw) : runFn X9 (F9 n) Go.Proofs.Try.f9 [.agg [.row .e74 a0.Shapes, .row .e77 a0.Mends, .row .e103 a0.Teams]] dec9 = G9n n a0 := by
  kernel_rfl
noncomputable def G9 (a0 : VGateLaw) : Option (VGateLaw) := G9n fuel a0
noncomputable def con9 : Con C := { R0 := VGateLaw, ret := fun r => [(true, [.row .e81 r.Shapes, .row .e83 r.Mends, .row .e106 r.Teams])], g := fun vs => match vs with
  | [.agg [.row .e74 y0_0, .row .e77 y0_1, .row .e103 y0_2]] => G9 ⟨y0_0, y0_1, y0_2⟩
  | _ => none }
theorem x9 : XOk Go.Proofs.Try.prog X9 := ⟨tks_ok, els_ok, mps_ok, meths_ok⟩
theorem q9 : Cons Go.Proofs.Try.prog X9 := ⟨lkR_ok (l := [(16, con16), (17, con17), (41, con41)]) ⟨c16, c17, c41, trivial⟩, lkW_ok (l := []) trivial, lkI_ok (l := []) trivial⟩
theorem c9 : ConOk Go.Proofs.Try.prog KK 9 con9 := by
  refine con_dec x9 q9 (by kernel_rfl) (f := 9) (fn := Go.Proofs.Try.f9) (c := bodyOf Go.Proofs.Try.f9) (by kernel_rfl) (by kernel_rfl) (by kernel_rfl) (nameB (by kernel_rfl)) con9 dec9 (fun rs r0 h => ?_) (fun vs r0 h => ?_)
  · unfold dec9 at h
    split at h
    · cases h; rfl
    · cases h
  · simp only [con9] at h
    split at h
    · rename_i y0_0 y0_1 y0_2
      exact ⟨Nat.le_of_ble_eq_true (by kernel_rfl), F9 fuel, (t9 fuel ⟨y0_0, y0_1, y0_2⟩).trans h⟩
    · cases h
/-! ### f124 loop.example/wharfdesk/impl.nameByte -/
noncomputable def X124 : Cx C := { K := KK, tk := lk tks, con := lkC [], conw := lkC [], inl := lkA [], hold := [], mp := lk mps, meth := lkS meths, off := 8126464 }
def F124 (n : Nat) : Cf := { N := n, keep := [0, 2], live := lk [] }
def dec124 (rs : List (Bool × List (Lf C))) : Option (Bool) := match rs with
  | [(false, [.bool z0])] => some z0
  | _ => none
noncomputable def G124n (n : Nat) (a0 : Int) : Option (Bool) :=
      cond (decide (a0 ≥ 97))
      (cond (decide (a0 ≤ 122))
      (some (true))
      (cond (decide (a0 ≥ 48))
      (cond (decide (a0 ≤ 57))
      (some (true))
      (some (a0 == 45)))
      (some (a0 == 45))))
      (cond (decide (a0 ≥ 48))
      (cond (decide (a0 ≤ 57))
      (some (true))
      (some (a0 == 45)))
      (some (a0 == 45)))
theorem t124 (n : Nat) (a0 : Int) : runFn X124 (F124 n) Go.Proofs.Try.f124 [.one (.int .u8 a0)] dec124 = G124n n a0 := by
  kernel_rfl
noncomputable def G124 (a0 : Int) : Option (Bool) := G124n fuel a0
noncomputable def con124 : Con C := { R0 := Bool, ret := fun r => [(false, [.bool r])], g := fun vs => match vs with
  | [.one (.int .u8 y0)] => G124 y0
  | _ => none }
theorem x124 : XOk Go.Proofs.Try.prog X124 := ⟨tks_ok, els_ok, mps_ok, meths_ok⟩
theorem q124 : Cons Go.Proofs.Try.prog X124 := ⟨lkR_ok (l := []) trivial, lkW_ok (l := []) trivial, lkI_ok (l := []) trivial⟩
theorem c124 : ConOk Go.Proofs.Try.prog KK 124 con124 := by
  refine con_dec x124 q124 (by kernel_rfl) (f := 124) (fn := Go.Proofs.Try.f124) (c := bodyOf Go.Proofs.Try.f124) (by kernel_rfl) (by kernel_rfl) (by kernel_rfl) (nameB (by kernel_rfl)) con124 dec124 (fun rs r0 h => ?_) (fun vs r0 h => ?_)
  · unfold dec124 at h
    split at h
    · cases h; rfl
    · cases h
  · simp only [con124] at h
    split at h
    · rename_i y0
      exact ⟨Nat.le_of_ble_eq_true (by kernel_rfl), F124 fuel, (t124 fuel y0).trans h⟩
    · cases h
/-! ### f106 loop.example/wharfdesk/impl.nameBytes -/
noncomputable def X106 : Cx C := { K := KK, tk := lk tks, con := lkC [(124, con124)], conw := lkC [], inl := lkA [], hold := [], mp := lk mps, meth := lkS meths, off := 6946816 }
def F106 (n : Nat) : Cf := { N := n, keep := [0, 2, 3, 5, 6, 7, 13], live := lk [(0, [0, 5, 6])] }
def dec106 (rs : List (Bool × List (Lf C))) : Option (Bool) := match rs with
  | [(false, [.bool z0])] => some z0
  | _ => none
abbrev A106_0 : Type := ByteArray × Int × Int
def s106_0 : A106_0 → St C := fun (x0_0, x0_1, x0_2) => { env := [(0, .one (.str x0_0)), (5, .one (.int .i64 x0_1)), (6, .one (.int .i64 x0_2))], objs := [], base := 0 }
noncomputable def r106_0 (n : Nat)  (rec0 : A106_0 → Option (Bool)) : A106_0 → Option (Bool) := fun (x0_0, x0_1, x0_2) =>
      cond (decide (x0_2 < x0_1))
      (cond (decide (0 ≤ x0_2)) (cond (decide (x0_2 < (x0_0.size : Int))) (Option.bind (G124 (sbt x0_0 x0_2)) fun r1 =>
      cond (!r1)
      (some (false))
      (rec0 (x0_0, x0_1, IntKind.i64.wrap (x0_2 + 1)))) none) none)
      (some (true))
noncomputable def LP106_0 (n : Nat)  (x : A106_0) : Option (Bool) := lpN (r106_0 n ) n x
noncomputable def MP106_0 (n : Nat)  (x : A106_0) : Option (Bool) := iter (fun rec S => run X106 (F106 n) (codeAt (bodyOf Go.Proofs.Try.f106) [1, 0, 1, 0, 0]) 0 S (lopK rec (blkK 0 (seqK (run X106 (F106 n) (codeAt (bodyOf Go.Proofs.Try.f106) [1, 1]) 0) (kTop X106 Go.Proofs.Try.f106 dec106))))) [0, 5, 6] n (s106_0 x)
theorem m106_0 (n : Nat)  (x : A106_0) : MP106_0 n  x = LP106_0 n  x := by
  refine iter_eq s106_0 (r106_0 n ) (fun rec0 x => ?_) n x
  obtain ⟨x0_0, x0_1, x0_2⟩ := x
  kernel_rfl
noncomputable def G106n (n : Nat) (a0 : ByteArray) : Option (Bool) :=
      LP106_0 n  (a0, (a0.size : Int), 0)
theorem t106 (n : Nat) (a0 : ByteArray) : runFn X106 (F106 n) Go.Proofs.Try.f106 [.one (.str a0)] dec106 = G106n n a0 := by
  have h : runFn X106 (F106 n) Go.Proofs.Try.f106 [.one (.str a0)] dec106 =
      MP106_0 n  (a0, (a0.size : Int), 0) := by kernel_rfl
  simp only [h, G106n, m106_0]
noncomputable def G106 (a0 : ByteArray) : Option (Bool) := G106n fuel a0
noncomputable def con106 : Con C := { R0 := Bool, ret := fun r => [(false, [.bool r])], g := fun vs => match vs with
  | [.one (.str y0)] => G106 y0
  | _ => none }
theorem x106 : XOk Go.Proofs.Try.prog X106 := ⟨tks_ok, els_ok, mps_ok, meths_ok⟩
theorem q106 : Cons Go.Proofs.Try.prog X106 := ⟨lkR_ok (l := [(124, con124)]) ⟨c124, trivial⟩, lkW_ok (l := []) trivial, lkI_ok (l := []) trivial⟩
theorem c106 : ConOk Go.Proofs.Try.prog KK 106 con106 := by
  refine con_dec x106 q106 (by kernel_rfl) (f := 106) (fn := Go.Proofs.Try.f106) (c := bodyOf Go.Proofs.Try.f106) (by kernel_rfl) (by kernel_rfl) (by kernel_rfl) (nameB (by kernel_rfl)) con106 dec106 (fun rs r0 h => ?_) (fun vs r0 h => ?_)
  · unfold dec106 at h
    split at h
    · cases h; rfl
    · cases h
  · simp only [con106] at h
    split at h
    · rename_i y0
      exact ⟨Nat.le_of_ble_eq_true (by kernel_rfl), F106 fuel, (t106 fuel y0).trans h⟩
    · cases h
/-! ### f78 loop.example/wharfdesk/impl.isName -/
noncomputable def X78 : Cx C := { K := KK, tk := lk tks, con := lkC [(106, con106)], conw := lkC [], inl := lkA [], hold := [], mp := lk mps, meth := lkS meths, off := 5111808 }
def F78 (n : Nat) : Cf := { N := n, keep := [0, 2], live := lk [] }
def dec78 (rs : List (Bool × List (Lf C))) : Option (Bool) := match rs with
  | [(false, [.bool z0])] => some z0
  | _ => none
noncomputable def G78n (n : Nat) (a0 : ByteArray) : Option (Bool) :=
      cond (decide ((a0.size : Int) ≥ 1))
      (cond (decide ((a0.size : Int) ≤ 16))
      (Option.bind (G106 a0) fun r1 =>
      some (r1))
      (some (false)))
      (some (false))
theorem t78 (n : Nat) (a0 : ByteArray) : runFn X78 (F78 n) Go.Proofs.Try.f78 [.one (.str a0)] dec78 = G78n n a0 := by
  kernel_rfl
noncomputable def G78 (a0 : ByteArray) : Option (Bool) := G78n fuel a0
noncomputable def con78 : Con C := { R0 := Bool, ret := fun r => [(false, [.bool r])], g := fun vs => match vs with
  | [.one (.str y0)] => G78 y0
  | _ => none }
theorem x78 : XOk Go.Proofs.Try.prog X78 := ⟨tks_ok, els_ok, mps_ok, meths_ok⟩
theorem q78 : Cons Go.Proofs.Try.prog X78 := ⟨lkR_ok (l := [(106, con106)]) ⟨c106, trivial⟩, lkW_ok (l := []) trivial, lkI_ok (l := []) trivial⟩
theorem c78 : ConOk Go.Proofs.Try.prog KK 78 con78 := by
  refine con_dec x78 q78 (by kernel_rfl) (f := 78) (fn := Go.Proofs.Try.f78) (c := bodyOf Go.Proofs.Try.f78) (by kernel_rfl) (by kernel_rfl) (by kernel_rfl) (nameB (by kernel_rfl)) con78 dec78 (fun rs r0 h => ?_) (fun vs r0 h => ?_)
  · unfold dec78 at h
    split at h
    · cases h; rfl
    · cases h
  · simp only [con78] at h
    split at h
    · rename_i y0
      exact ⟨Nat.le_of_ble_eq_true (by kernel_rfl), F78 fuel, (t78 fuel y0).trans h⟩
    · cases h
/-! ### f157 loop.example/wharfdesk/impl.decimal -/
noncomputable def X157 : Cx C := { K := KK, tk := lk tks, con := lkC [], conw := lkC [], inl := lkA [], hold := [], mp := lk mps, meth := lkS meths, off := 10289152 }
def F157 (n : Nat) : Cf := { N := n, keep := [0, 2, 3, 4, 5, 23, 25, 26, 27, 38], live := lk [(0, [0, 4, 25, 26])] }
def dec157 (rs : List (Bool × List (Lf C))) : Option (Int × Bool) := match rs with
  | [(false, [.int .i64 z0]), (false, [.bool z1])] => some (z0, z1)
  | _ => none
abbrev A157_0 : Type := ByteArray × Int × Int × Int
def s157_0 : A157_0 → St C := fun (x0_0, x0_1, x0_2, x0_3) => { env := [(0, .one (.str x0_0)), (4, .one (.int .i64 x0_1)), (25, .one (.int .i64 x0_2)), (26, .one (.int .i64 x0_3))], objs := [], base := 0 }
noncomputable def r157_0 (n : Nat)  (rec0 : A157_0 → Option (Int × Bool)) : A157_0 → Option (Int × Bool) := fun (x0_0, x0_1, x0_2, x0_3) =>
      cond (decide (x0_3 < x0_2))
      (cond (decide (0 ≤ x0_3)) (cond (decide (x0_3 < (x0_0.size : Int))) (cond (decide ((sbt x0_0 x0_3) < 48))
      (some (0, false))
      (cond (decide (0 ≤ x0_3)) (cond (decide (x0_3 < (x0_0.size : Int))) (cond (decide ((sbt x0_0 x0_3) > 57))
      (some (0, false))
      (cond (decide (0 ≤ x0_3)) (cond (decide (x0_3 < (x0_0.size : Int))) (rec0 (x0_0, IntKind.i64.wrap ((IntKind.i64.wrap (x0_1 * 10)) + (IntKind.i64.wrap (IntKind.u8.wrap ((sbt x0_0 x0_3) - 48)))), x0_2, IntKind.i64.wrap (x0_3 + 1))) none) none)) none) none)) none) none)
      (some (x0_1, true))
noncomputable def LP157_0 (n : Nat)  (x : A157_0) : Option (Int × Bool) := lpN (r157_0 n ) n x
noncomputable def MP157_0 (n : Nat)  (x : A157_0) : Option (Int × Bool) := iter (fun rec S => run X157 (F157 n) (codeAt (bodyOf Go.Proofs.Try.f157) [1, 1, 1, 0, 1, 0, 0]) 0 S (lopK rec (blkK 0 (seqK (run X157 (F157 n) (codeAt (bodyOf Go.Proofs.Try.f157) [1, 1, 1, 1]) 0) (kTop X157 Go.Proofs.Try.f157 dec157))))) [0, 4, 25, 26] n (s157_0 x)
theorem m157_0 (n : Nat)  (x : A157_0) : MP157_0 n  x = LP157_0 n  x := by
  refine iter_eq s157_0 (r157_0 n ) (fun rec0 x => ?_) n x
  obtain ⟨x0_0, x0_1, x0_2, x0_3⟩ := x
  kernel_rfl
noncomputable def G157n (n : Nat) (a0 : ByteArray) : Option (Int × Bool) :=
      cond (decide ((a0.size : Int) < 1))
      (some (0, false))
      (cond (decide ((a0.size : Int) > 7))
      (some (0, false))
      (cond (decide (0 ≤ 0)) (cond (decide (0 < (a0.size : Int))) (cond ((sbt a0 0) == 48)
      (cond (decide ((a0.size : Int) > 1))
      (some (0, false))
      (LP157_0 n  (a0, 0, (a0.size : Int), 0)))
      (LP157_0 n  (a0, 0, (a0.size : Int), 0))) none) none))
theorem t157 (n : Nat) (a0 : ByteArray) : runFn X157 (F157 n) Go.Proofs.Try.f157 [.one (.str a0)] dec157 = G157n n a0 := by
  have h : runFn X157 (F157 n) Go.Proofs.Try.f157 [.one (.str a0)] dec157 =
      cond (decide ((a0.size : Int) < 1))
      (some (0, false))
      (cond (decide ((a0.size : Int) > 7))
      (some (0, false))
      (cond (decide (0 ≤ 0)) (cond (decide (0 < (a0.size : Int))) (cond ((sbt a0 0) == 48)
      (cond (decide ((a0.size : Int) > 1))
      (some (0, false))
      (MP157_0 n  (a0, 0, (a0.size : Int), 0)))
      (MP157_0 n  (a0, 0, (a0.size : Int), 0))) none) none)) := by kernel_rfl
  simp only [h, G157n, m157_0]
noncomputable def G157 (a0 : ByteArray) : Option (Int × Bool) := G157n fuel a0
noncomputable def con157 : Con C := { R0 := Int × Bool, ret := fun r => [(false, [.int .i64 r.1]), (false, [.bool r.2])], g := fun vs => match vs with
  | [.one (.str y0)] => G157 y0
  | _ => none }
theorem x157 : XOk Go.Proofs.Try.prog X157 := ⟨tks_ok, els_ok, mps_ok, meths_ok⟩
theorem q157 : Cons Go.Proofs.Try.prog X157 := ⟨lkR_ok (l := []) trivial, lkW_ok (l := []) trivial, lkI_ok (l := []) trivial⟩
theorem c157 : ConOk Go.Proofs.Try.prog KK 157 con157 := by
  refine con_dec x157 q157 (by kernel_rfl) (f := 157) (fn := Go.Proofs.Try.f157) (c := bodyOf Go.Proofs.Try.f157) (by kernel_rfl) (by kernel_rfl) (by kernel_rfl) (nameB (by kernel_rfl)) con157 dec157 (fun rs r0 h => ?_) (fun vs r0 h => ?_)
  · unfold dec157 at h
    split at h
    · cases h; rfl
    · cases h
  · simp only [con157] at h
    split at h
    · rename_i y0
      exact ⟨Nat.le_of_ble_eq_true (by kernel_rfl), F157 fuel, (t157 fuel y0).trans h⟩
    · cases h
/-! ### f95 loop.example/wharfdesk/impl.ascendingNames -/
noncomputable def X95 : Cx C := { K := KK, tk := lk tks, con := lkC [(78, con78)], conw := lkC [], inl := lkA [], hold := [], mp := lk mps, meth := lkS meths, off := 6225920 }
def F95 (n : Nat) : Cf := { N := n, keep := [0, 2, 3, 4, 5, 6, 7, 8, 27], live := lk [(0, [0, 5, 6, 7])] }
def dec95 (rs : List (Bool × List (Lf C))) : Option (Bool) := match rs with
  | [(false, [.bool z0])] => some z0
  | _ => none
abbrev A95_0 : Type := List (C .e9) × List (C .e9) × Int × Int
def s95_0 : A95_0 → St C := fun (x0_0, x0_1, x0_2, x0_3) => { env := [(0, .one (.row .e9 x0_0)), (5, .one (.row .e9 x0_1)), (6, .one (.int .i64 x0_2)), (7, .one (.int .i64 x0_3))], objs := [], base := 0 }
noncomputable def r95_0 (n : Nat)  (rec0 : A95_0 → Option (Bool)) : A95_0 → Option (Bool) := fun (x0_0, x0_1, x0_2, x0_3) =>
      cond (decide (x0_3 < x0_2))
      (cond (decide (0 ≤ x0_3)) (Option.bind x0_1[x0_3.toNat]? fun x1 => Option.bind (G78 x1) fun r2 =>
      cond (!r2)
      (some (false))
      (cond (decide (x0_3 > 0))
      (cond (decide (0 ≤ IntKind.i64.wrap (x0_3 - 1))) (Option.bind x0_0[(IntKind.i64.wrap (x0_3 - 1)).toNat]? fun x3 => cond (!slt x3 x1)
      (some (false))
      (rec0 (x0_0, x0_1, x0_2, IntKind.i64.wrap (x0_3 + 1)))) none)
      (rec0 (x0_0, x0_1, x0_2, IntKind.i64.wrap (x0_3 + 1))))) none)
      (some (true))
noncomputable def LP95_0 (n : Nat)  (x : A95_0) : Option (Bool) := lpN (r95_0 n ) n x
noncomputable def MP95_0 (n : Nat)  (x : A95_0) : Option (Bool) := iter (fun rec S => run X95 (F95 n) (codeAt (bodyOf Go.Proofs.Try.f95) [1, 0, 1, 0, 0]) 0 S (lopK rec (blkK 0 (seqK (run X95 (F95 n) (codeAt (bodyOf Go.Proofs.Try.f95) [1, 1]) 0) (kTop X95 Go.Proofs.Try.f95 dec95))))) [0, 5, 6, 7] n (s95_0 x)
theorem m95_0 (n : Nat)  (x : A95_0) : MP95_0 n  x = LP95_0 n  x := by
  refine iter_eq s95_0 (r95_0 n ) (fun rec0 x => ?_) n x
  obtain ⟨x0_0, x0_1, x0_2, x0_3⟩ := x
  kernel_rfl
noncomputable def G95n (n : Nat) (a0 : List (C .e9)) : Option (Bool) :=
      LP95_0 n  (a0, a0, (a0.length : Int), 0)
theorem t95 (n : Nat) (a0 : List (C .e9)) : runFn X95 (F95 n) Go.Proofs.Try.f95 [.one (.row .e9 a0)] dec95 = G95n n a0 := by
  have h : runFn X95 (F95 n) Go.Proofs.Try.f95 [.one (.row .e9 a0)] dec95 =
      MP95_0 n  (a0, a0, (a0.length : Int), 0) := by kernel_rfl
  simp only [h, G95n, m95_0]
noncomputable def G95 (a0 : List (C .e9)) : Option (Bool) := G95n fuel a0
noncomputable def con95 : Con C := { R0 := Bool, ret := fun r => [(false, [.bool r])], g := fun vs => match vs with
  | [.one (.row .e9 y0)] => G95 y0
  | _ => none }
theorem x95 : XOk Go.Proofs.Try.prog X95 := ⟨tks_ok, els_ok, mps_ok, meths_ok⟩
theorem q95 : Cons Go.Proofs.Try.prog X95 := ⟨lkR_ok (l := [(78, con78)]) ⟨c78, trivial⟩, lkW_ok (l := []) trivial, lkI_ok (l := []) trivial⟩
theorem c95 : ConOk Go.Proofs.Try.prog KK 95 con95 := by
  refine con_dec x95 q95 (by kernel_rfl) (f := 95) (fn := Go.Proofs.Try.f95) (c := bodyOf Go.Proofs.Try.f95) (by kernel_rfl) (by kernel_rfl) (by kernel_rfl) (nameB (by kernel_rfl)) con95 dec95 (fun rs r0 h => ?_) (fun vs r0 h => ?_)
  · unfold dec95 at h
    split at h
    · cases h; rfl
    · cases h
  · simp only [con95] at h
    split at h
    · rename_i y0
      exact ⟨Nat.le_of_ble_eq_true (by kernel_rfl), F95 fuel, (t95 fuel y0).trans h⟩
    · cases h
/-! ### f154 (loop.example/wharfdesk/impl.numberField).clean -/
noncomputable def X154 : Cx C := { K := KK, tk := lk tks, con := lkC [], conw := lkC [], inl := lkA [], hold := [], mp := lk mps, meth := lkS meths, off := 10092544 }
def F154 (n : Nat) : Cf := { N := n, keep := [0, 1, 2], live := lk [] }
def dec154 (rs : List (Bool × List (Lf C))) : Option (Bool) := match rs with
  | [(false, [.bool z0])] => some z0
  | _ => none
noncomputable def G154n (n : Nat) (a0 : VnumberField) : Option (Bool) :=
      cond ((a0.GateField_Words.length : Int) == 0)
      (cond (decide (a0.GateField_To = (⟨#[]⟩ : ByteArray)))
      (some (a0.GateField_Role == 0))
      (some (false)))
      (some (false))
theorem t154 (n : Nat) (a0 : VnumberField) : runFn X154 (F154 n) Go.Proofs.Try.f154 [.agg [.str a0.GateField_Name, .int .i64 a0.GateField_Kind, .int .i64 a0.GateField_Least, .int .i64 a0.GateField_Most, .row .e9 a0.GateField_Words, .str a0.GateField_To, .int .i64 a0.GateField_Role, .bool a0.GateField_Must, .bool a0.GateField_Fixed, .str a0.GateField_Default, .str a0.GateField_Weighs]] dec154 = G154n n a0 := by
  kernel_rfl
noncomputable def G154 (a0 : VnumberField) : Option (Bool) := G154n fuel a0
noncomputable def con154 : Con C := { R0 := Bool, ret := fun r => [(false, [.bool r])], g := fun vs => match vs with
  | [.agg [.str y0_0, .int .i64 y0_1, .int .i64 y0_2, .int .i64 y0_3, .row .e9 y0_4, .str y0_5, .int .i64 y0_6, .bool y0_7, .bool y0_8, .str y0_9, .str y0_10]] => G154 ⟨y0_0, y0_1, y0_2, y0_3, y0_4, y0_5, y0_6, y0_7, y0_8, y0_9, y0_10⟩
  | _ => none }
theorem x154 : XOk Go.Proofs.Try.prog X154 := ⟨tks_ok, els_ok, mps_ok, meths_ok⟩
theorem q154 : Cons Go.Proofs.Try.prog X154 := ⟨lkR_ok (l := []) trivial, lkW_ok (l := []) trivial, lkI_ok (l := []) trivial⟩
theorem c154 : ConOk Go.Proofs.Try.prog KK 154 con154 := by
  refine con_dec x154 q154 (by kernel_rfl) (f := 154) (fn := Go.Proofs.Try.f154) (c := bodyOf Go.Proofs.Try.f154) (by kernel_rfl) (by kernel_rfl) (by kernel_rfl) (nameB (by kernel_rfl)) con154 dec154 (fun rs r0 h => ?_) (fun vs r0 h => ?_)
  · unfold dec154 at h
    split at h
    · cases h; rfl
    · cases h
  · simp only [con154] at h
    split at h
    · rename_i y0_0 y0_1 y0_2 y0_3 y0_4 y0_5 y0_6 y0_7 y0_8 y0_9 y0_10
      exact ⟨Nat.le_of_ble_eq_true (by kernel_rfl), F154 fuel, (t154 fuel ⟨y0_0, y0_1, y0_2, y0_3, y0_4, y0_5, y0_6, y0_7, y0_8, y0_9, y0_10⟩).trans h⟩
    · cases h
/-! ### f155 (loop.example/wharfdesk/impl.numberField).fits -/
noncomputable def X155 : Cx C := { K := KK, tk := lk tks, con := lkC [(157, con157)], conw := lkC [], inl := lkA [], hold := [], mp := lk mps, meth := lkS meths, off := 10158080 }
def F155 (n : Nat) : Cf := { N := n, keep := [0, 1, 2, 4, 5, 6], live := lk [] }
def dec155 (rs : List (Bool × List (Lf C))) : Option (Bool) := match rs with
  | [(false, [.bool z0])] => some z0
  | _ => none
noncomputable def G155n (n : Nat) (a0 : VnumberField) (a1 : ByteArray) : Option (Bool) :=
      Option.bind (G157 a1) fun r1 =>
      cond r1.2
      (cond (decide (r1.1 ≥ a0.GateField_Least))
      (some (decide (r1.1 ≤ a0.GateField_Most)))
      (some (false)))
      (some (false))
theorem t155 (n : Nat) (a0 : VnumberField) (a1 : ByteArray) : runFn X155 (F155 n) Go.Proofs.Try.f155 [.agg [.str a0.GateField_Name, .int .i64 a0.GateField_Kind, .int .i64 a0.GateField_Least, .int .i64 a0.GateField_Most, .row .e9 a0.GateField_Words, .str a0.GateField_To, .int .i64 a0.GateField_Role, .bool a0.GateField_Must, .bool a0.GateField_Fixed, .str a0.GateField_Default, .str a0.GateField_Weighs], .one (.str a1)] dec155 = G155n n a0 a1 := by
  kernel_rfl
noncomputable def G155 (a0 : VnumberField) (a1 : ByteArray) : Option (Bool) := G155n fuel a0 a1
noncomputable def con155 : Con C := { R0 := Bool, ret := fun r => [(false, [.bool r])], g := fun vs => match vs with
  | [.agg [.str y0_0, .int .i64 y0_1, .int .i64 y0_2, .int .i64 y0_3, .row .e9 y0_4, .str y0_5, .int .i64 y0_6, .bool y0_7, .bool y0_8, .str y0_9, .str y0_10], .one (.str y1)] => G155 ⟨y0_0, y0_1, y0_2, y0_3, y0_4, y0_5, y0_6, y0_7, y0_8, y0_9, y0_10⟩ y1
  | _ => none }
theorem x155 : XOk Go.Proofs.Try.prog X155 := ⟨tks_ok, els_ok, mps_ok, meths_ok⟩
theorem q155 : Cons Go.Proofs.Try.prog X155 := ⟨lkR_ok (l := [(157, con157)]) ⟨c157, trivial⟩, lkW_ok (l := []) trivial, lkI_ok (l := []) trivial⟩
theorem c155 : ConOk Go.Proofs.Try.prog KK 155 con155 := by
  refine con_dec x155 q155 (by kernel_rfl) (f := 155) (fn := Go.Proofs.Try.f155) (c := bodyOf Go.Proofs.Try.f155) (by kernel_rfl) (by kernel_rfl) (by kernel_rfl) (nameB (by kernel_rfl)) con155 dec155 (fun rs r0 h => ?_) (fun vs r0 h => ?_)
  · unfold dec155 at h
    split at h
    · cases h; rfl
    · cases h
  · simp only [con155] at h
    split at h
    · rename_i y0_0 y0_1 y0_2 y0_3 y0_4 y0_5 y0_6 y0_7 y0_8 y0_9 y0_10 y1
      exact ⟨Nat.le_of_ble_eq_true (by kernel_rfl), F155 fuel, (t155 fuel ⟨y0_0, y0_1, y0_2, y0_3, y0_4, y0_5, y0_6, y0_7, y0_8, y0_9, y0_10⟩ y1).trans h⟩
    · cases h
/-! ### f156 (loop.example/wharfdesk/impl.numberField).sound -/
noncomputable def X156 : Cx C := { K := KK, tk := lk tks, con := lkC [(78, con78)], conw := lkC [], inl := lkA [], hold := [], mp := lk mps, meth := lkS meths, off := 10223616 }
def F156 (n : Nat) : Cf := { N := n, keep := [0, 2, 4], live := lk [] }
def dec156 (rs : List (Bool × List (Lf C))) : Option (Bool) := match rs with
  | [(false, [.bool z0])] => some z0
  | _ => none
noncomputable def G156n (n : Nat) (a0 : VnumberField) (a1 : List (C .e9)) : Option (Bool) :=
      cond (decide (a0.GateField_Least ≥ 0))
      (cond (decide (a0.GateField_Least ≤ a0.GateField_Most))
      (cond (decide (a0.GateField_Most ≤ 1000000))
      (cond (decide (a0.GateField_Weighs = (⟨#[]⟩ : ByteArray)))
      (some (true))
      (Option.bind (G78 a0.GateField_Weighs) fun r1 =>
      some (r1)))
      (some (false)))
      (some (false)))
      (some (false))
theorem t156 (n : Nat) (a0 : VnumberField) (a1 : List (C .e9)) : runFn X156 (F156 n) Go.Proofs.Try.f156 [.agg [.str a0.GateField_Name, .int .i64 a0.GateField_Kind, .int .i64 a0.GateField_Least, .int .i64 a0.GateField_Most, .row .e9 a0.GateField_Words, .str a0.GateField_To, .int .i64 a0.GateField_Role, .bool a0.GateField_Must, .bool a0.GateField_Fixed, .str a0.GateField_Default, .str a0.GateField_Weighs], .one (.row .e9 a1)] dec156 = G156n n a0 a1 := by
  kernel_rfl
noncomputable def G156 (a0 : VnumberField) (a1 : List (C .e9)) : Option (Bool) := G156n fuel a0 a1
noncomputable def con156 : Con C := { R0 := Bool, ret := fun r => [(false, [.bool r])], g := fun vs => match vs with
  | [.agg [.str y0_0, .int .i64 y0_1, .int .i64 y0_2, .int .i64 y0_3, .row .e9 y0_4, .str y0_5, .int .i64 y0_6, .bool y0_7, .bool y0_8, .str y0_9, .str y0_10], .one (.row .e9 y1)] => G156 ⟨y0_0, y0_1, y0_2, y0_3, y0_4, y0_5, y0_6, y0_7, y0_8, y0_9, y0_10⟩ y1
  | _ => none }
theorem x156 : XOk Go.Proofs.Try.prog X156 := ⟨tks_ok, els_ok, mps_ok, meths_ok⟩
theorem q156 : Cons Go.Proofs.Try.prog X156 := ⟨lkR_ok (l := [(78, con78)]) ⟨c78, trivial⟩, lkW_ok (l := []) trivial, lkI_ok (l := []) trivial⟩
theorem c156 : ConOk Go.Proofs.Try.prog KK 156 con156 := by
  refine con_dec x156 q156 (by kernel_rfl) (f := 156) (fn := Go.Proofs.Try.f156) (c := bodyOf Go.Proofs.Try.f156) (by kernel_rfl) (by kernel_rfl) (by kernel_rfl) (nameB (by kernel_rfl)) con156 dec156 (fun rs r0 h => ?_) (fun vs r0 h => ?_)
  · unfold dec156 at h
    split at h
    · cases h; rfl
    · cases h
  · simp only [con156] at h
    split at h
    · rename_i y0_0 y0_1 y0_2 y0_3 y0_4 y0_5 y0_6 y0_7 y0_8 y0_9 y0_10 y1
      exact ⟨Nat.le_of_ble_eq_true (by kernel_rfl), F156 fuel, (t156 fuel ⟨y0_0, y0_1, y0_2, y0_3, y0_4, y0_5, y0_6, y0_7, y0_8, y0_9, y0_10⟩ y1).trans h⟩
    · cases h
/-! ### f158 (loop.example/wharfdesk/impl.wordField).clean -/
noncomputable def X158 : Cx C := { K := KK, tk := lk tks, con := lkC [], conw := lkC [], inl := lkA [], hold := [], mp := lk mps, meth := lkS meths, off := 10354688 }
def F158 (n : Nat) : Cf := { N := n, keep := [0, 1, 2], live := lk [] }
def dec158 (rs : List (Bool × List (Lf C))) : Option (Bool) := match rs with
  | [(false, [.bool z0])] => some z0
  | _ => none
noncomputable def G158n (n : Nat) (a0 : VwordField) : Option (Bool) :=
      cond (a0.GateField_Least == 0)
      (cond (a0.GateField_Most == 0)
      (cond (decide (a0.GateField_To = (⟨#[]⟩ : ByteArray)))
      (cond (a0.GateField_Role == 0)
      (some (decide (a0.GateField_Weighs = (⟨#[]⟩ : ByteArray))))
      (some (false)))
      (some (false)))
      (some (false)))
      (some (false))
theorem t158 (n : Nat) (a0 : VwordField) : runFn X158 (F158 n) Go.Proofs.Try.f158 [.agg [.str a0.GateField_Name, .int .i64 a0.GateField_Kind, .int .i64 a0.GateField_Least, .int .i64 a0.GateField_Most, .row .e9 a0.GateField_Words, .str a0.GateField_To, .int .i64 a0.GateField_Role, .bool a0.GateField_Must, .bool a0.GateField_Fixed, .str a0.GateField_Default, .str a0.GateField_Weighs]] dec158 = G158n n a0 := by
  kernel_rfl
noncomputable def G158 (a0 : VwordField) : Option (Bool) := G158n fuel a0
noncomputable def con158 : Con C := { R0 := Bool, ret := fun r => [(false, [.bool r])], g := fun vs => match vs with
  | [.agg [.str y0_0, .int .i64 y0_1, .int .i64 y0_2, .int .i64 y0_3, .row .e9 y0_4, .str y0_5, .int .i64 y0_6, .bool y0_7, .bool y0_8, .str y0_9, .str y0_10]] => G158 ⟨y0_0, y0_1, y0_2, y0_3, y0_4, y0_5, y0_6, y0_7, y0_8, y0_9, y0_10⟩
  | _ => none }
theorem x158 : XOk Go.Proofs.Try.prog X158 := ⟨tks_ok, els_ok, mps_ok, meths_ok⟩
theorem q158 : Cons Go.Proofs.Try.prog X158 := ⟨lkR_ok (l := []) trivial, lkW_ok (l := []) trivial, lkI_ok (l := []) trivial⟩
theorem c158 : ConOk Go.Proofs.Try.prog KK 158 con158 := by
  refine con_dec x158 q158 (by kernel_rfl) (f := 158) (fn := Go.Proofs.Try.f158) (c := bodyOf Go.Proofs.Try.f158) (by kernel_rfl) (by kernel_rfl) (by kernel_rfl) (nameB (by kernel_rfl)) con158 dec158 (fun rs r0 h => ?_) (fun vs r0 h => ?_)
  · unfold dec158 at h
    split at h
    · cases h; rfl
    · cases h
  · simp only [con158] at h
    split at h
    · rename_i y0_0 y0_1 y0_2 y0_3 y0_4 y0_5 y0_6 y0_7 y0_8 y0_9 y0_10
      exact ⟨Nat.le_of_ble_eq_true (by kernel_rfl), F158 fuel, (t158 fuel ⟨y0_0, y0_1, y0_2, y0_3, y0_4, y0_5, y0_6, y0_7, y0_8, y0_9, y0_10⟩).trans h⟩
    · cases h
/-! ### f159 (loop.example/wharfdesk/impl.wordField).fits -/
noncomputable def X159 : Cx C := { K := KK, tk := lk tks, con := lkC [], conw := lkC [], inl := lkA [], hold := [], mp := lk mps, meth := lkS meths, off := 10420224 }
def F159 (n : Nat) : Cf := { N := n, keep := [0, 1, 2, 4, 6, 9, 10, 11, 12, 17], live := lk [(0, [1, 9, 10, 11])] }
def dec159 (rs : List (Bool × List (Lf C))) : Option (Bool) := match rs with
  | [(false, [.bool z0])] => some z0
  | _ => none
abbrev A159_0 : Type := ByteArray × List (C .e9) × Int × Int
def s159_0 : A159_0 → St C := fun (x0_0, x0_1, x0_2, x0_3) => { env := [(1, .one (.str x0_0)), (9, .one (.row .e9 x0_1)), (10, .one (.int .i64 x0_2)), (11, .one (.int .i64 x0_3))], objs := [], base := 0 }
noncomputable def r159_0 (n : Nat)  (rec0 : A159_0 → Option (Bool)) : A159_0 → Option (Bool) := fun (x0_0, x0_1, x0_2, x0_3) =>
      cond (decide (x0_3 < x0_2))
      (cond (decide (0 ≤ x0_3)) (Option.bind x0_1[x0_3.toNat]? fun x1 => cond (decide (x1 = x0_0))
      (some (true))
      (rec0 (x0_0, x0_1, x0_2, IntKind.i64.wrap (x0_3 + 1)))) none)
      (some (false))
noncomputable def LP159_0 (n : Nat)  (x : A159_0) : Option (Bool) := lpN (r159_0 n ) n x
noncomputable def MP159_0 (n : Nat)  (x : A159_0) : Option (Bool) := iter (fun rec S => run X159 (F159 n) (codeAt (bodyOf Go.Proofs.Try.f159) [1, 0, 1, 0, 0]) 0 S (lopK rec (blkK 0 (seqK (run X159 (F159 n) (codeAt (bodyOf Go.Proofs.Try.f159) [1, 1]) 0) (kTop X159 Go.Proofs.Try.f159 dec159))))) [1, 9, 10, 11] n (s159_0 x)
theorem m159_0 (n : Nat)  (x : A159_0) : MP159_0 n  x = LP159_0 n  x := by
  refine iter_eq s159_0 (r159_0 n ) (fun rec0 x => ?_) n x
  obtain ⟨x0_0, x0_1, x0_2, x0_3⟩ := x
  kernel_rfl
noncomputable def G159n (n : Nat) (a0 : VwordField) (a1 : ByteArray) : Option (Bool) :=
      LP159_0 n  (a1, a0.GateField_Words, (a0.GateField_Words.length : Int), 0)
theorem t159 (n : Nat) (a0 : VwordField) (a1 : ByteArray) : runFn X159 (F159 n) Go.Proofs.Try.f159 [.agg [.str a0.GateField_Name, .int .i64 a0.GateField_Kind, .int .i64 a0.GateField_Least, .int .i64 a0.GateField_Most, .row .e9 a0.GateField_Words, .str a0.GateField_To, .int .i64 a0.GateField_Role, .bool a0.GateField_Must, .bool a0.GateField_Fixed, .str a0.GateField_Default, .str a0.GateField_Weighs], .one (.str a1)] dec159 = G159n n a0 a1 := by
  have h : runFn X159 (F159 n) Go.Proofs.Try.f159 [.agg [.str a0.GateField_Name, .int .i64 a0.GateField_Kind, .int .i64 a0.GateField_Least, .int .i64 a0.GateField_Most, .row .e9 a0.GateField_Words, .str a0.GateField_To, .int .i64 a0.GateField_Role, .bool a0.GateField_Must, .bool a0.GateField_Fixed, .str a0.GateField_Default, .str a0.GateField_Weighs], .one (.str a1)] dec159 =
      MP159_0 n  (a1, a0.GateField_Words, (a0.GateField_Words.length : Int), 0) := by kernel_rfl
  simp only [h, G159n, m159_0]
noncomputable def G159 (a0 : VwordField) (a1 : ByteArray) : Option (Bool) := G159n fuel a0 a1
noncomputable def con159 : Con C := { R0 := Bool, ret := fun r => [(false, [.bool r])], g := fun vs => match vs with
  | [.agg [.str y0_0, .int .i64 y0_1, .int .i64 y0_2, .int .i64 y0_3, .row .e9 y0_4, .str y0_5, .int .i64 y0_6, .bool y0_7, .bool y0_8, .str y0_9, .str y0_10], .one (.str y1)] => G159 ⟨y0_0, y0_1, y0_2, y0_3, y0_4, y0_5, y0_6, y0_7, y0_8, y0_9, y0_10⟩ y1
  | _ => none }
theorem x159 : XOk Go.Proofs.Try.prog X159 := ⟨tks_ok, els_ok, mps_ok, meths_ok⟩
theorem q159 : Cons Go.Proofs.Try.prog X159 := ⟨lkR_ok (l := []) trivial, lkW_ok (l := []) trivial, lkI_ok (l := []) trivial⟩
theorem c159 : ConOk Go.Proofs.Try.prog KK 159 con159 := by
  refine con_dec x159 q159 (by kernel_rfl) (f := 159) (fn := Go.Proofs.Try.f159) (c := bodyOf Go.Proofs.Try.f159) (by kernel_rfl) (by kernel_rfl) (by kernel_rfl) (nameB (by kernel_rfl)) con159 dec159 (fun rs r0 h => ?_) (fun vs r0 h => ?_)
  · unfold dec159 at h
    split at h
    · cases h; rfl
    · cases h
  · simp only [con159] at h
    split at h
    · rename_i y0_0 y0_1 y0_2 y0_3 y0_4 y0_5 y0_6 y0_7 y0_8 y0_9 y0_10 y1
      exact ⟨Nat.le_of_ble_eq_true (by kernel_rfl), F159 fuel, (t159 fuel ⟨y0_0, y0_1, y0_2, y0_3, y0_4, y0_5, y0_6, y0_7, y0_8, y0_9, y0_10⟩ y1).trans h⟩
    · cases h
/-! ### f160 (loop.example/wharfdesk/impl.wordField).sound -/
noncomputable def X160 : Cx C := { K := KK, tk := lk tks, con := lkC [(95, con95)], conw := lkC [], inl := lkA [], hold := [], mp := lk mps, meth := lkS meths, off := 10485760 }
def F160 (n : Nat) : Cf := { N := n, keep := [0, 2, 4], live := lk [] }
def dec160 (rs : List (Bool × List (Lf C))) : Option (Bool) := match rs with
  | [(false, [.bool z0])] => some z0
  | _ => none
noncomputable def G160n (n : Nat) (a0 : VwordField) (a1 : List (C .e9)) : Option (Bool) :=
      cond (decide ((a0.GateField_Words.length : Int) ≥ 1))
      (cond (decide ((a0.GateField_Words.length : Int) ≤ 6))
      (Option.bind (G95 a0.GateField_Words) fun r1 =>
      some (r1))
      (some (false)))
      (some (false))
theorem t160 (n : Nat) (a0 : VwordField) (a1 : List (C .e9)) : runFn X160 (F160 n) Go.Proofs.Try.f160 [.agg [.str a0.GateField_Name, .int .i64 a0.GateField_Kind, .int .i64 a0.GateField_Least, .int .i64 a0.GateField_Most, .row .e9 a0.GateField_Words, .str a0.GateField_To, .int .i64 a0.GateField_Role, .bool a0.GateField_Must, .bool a0.GateField_Fixed, .str a0.GateField_Default, .str a0.GateField_Weighs], .one (.row .e9 a1)] dec160 = G160n n a0 a1 := by
  kernel_rfl
noncomputable def G160 (a0 : VwordField) (a1 : List (C .e9)) : Option (Bool) := G160n fuel a0 a1
noncomputable def con160 : Con C := { R0 := Bool, ret := fun r => [(false, [.bool r])], g := fun vs => match vs with
  | [.agg [.str y0_0, .int .i64 y0_1, .int .i64 y0_2, .int .i64 y0_3, .row .e9 y0_4, .str y0_5, .int .i64 y0_6, .bool y0_7, .bool y0_8, .str y0_9, .str y0_10], .one (.row .e9 y1)] => G160 ⟨y0_0, y0_1, y0_2, y0_3, y0_4, y0_5, y0_6, y0_7, y0_8, y0_9, y0_10⟩ y1
  | _ => none }
theorem x160 : XOk Go.Proofs.Try.prog X160 := ⟨tks_ok, els_ok, mps_ok, meths_ok⟩
theorem q160 : Cons Go.Proofs.Try.prog X160 := ⟨lkR_ok (l := [(95, con95)]) ⟨c95, trivial⟩, lkW_ok (l := []) trivial, lkI_ok (l := []) trivial⟩
theorem c160 : ConOk Go.Proofs.Try.prog KK 160 con160 := by
  refine con_dec x160 q160 (by kernel_rfl) (f := 160) (fn := Go.Proofs.Try.f160) (c := bodyOf Go.Proofs.Try.f160) (by kernel_rfl) (by kernel_rfl) (by kernel_rfl) (nameB (by kernel_rfl)) con160 dec160 (fun rs r0 h => ?_) (fun vs r0 h => ?_)
  · unfold dec160 at h
    split at h
    · cases h; rfl
    · cases h
  · simp only [con160] at h
    split at h
    · rename_i y0_0 y0_1 y0_2 y0_3 y0_4 y0_5 y0_6 y0_7 y0_8 y0_9 y0_10 y1
      exact ⟨Nat.le_of_ble_eq_true (by kernel_rfl), F160 fuel, (t160 fuel ⟨y0_0, y0_1, y0_2, y0_3, y0_4, y0_5, y0_6, y0_7, y0_8, y0_9, y0_10⟩ y1).trans h⟩
    · cases h
/-! ### f161 (loop.example/wharfdesk/impl.textField).clean -/
noncomputable def X161 : Cx C := { K := KK, tk := lk tks, con := lkC [], conw := lkC [], inl := lkA [], hold := [], mp := lk mps, meth := lkS meths, off := 10551296 }
def F161 (n : Nat) : Cf := { N := n, keep := [0, 1, 2], live := lk [] }
def dec161 (rs : List (Bool × List (Lf C))) : Option (Bool) := match rs with
  | [(false, [.bool z0])] => some z0
  | _ => none
noncomputable def G161n (n : Nat) (a0 : VtextField) : Option (Bool) :=
      cond ((a0.GateField_Words.length : Int) == 0)
      (cond (decide (a0.GateField_To = (⟨#[]⟩ : ByteArray)))
      (cond (a0.GateField_Role == 0)
      (some (decide (a0.GateField_Weighs = (⟨#[]⟩ : ByteArray))))
      (some (false)))
      (some (false)))
      (some (false))
theorem t161 (n : Nat) (a0 : VtextField) : runFn X161 (F161 n) Go.Proofs.Try.f161 [.agg [.str a0.GateField_Name, .int .i64 a0.GateField_Kind, .int .i64 a0.GateField_Least, .int .i64 a0.GateField_Most, .row .e9 a0.GateField_Words, .str a0.GateField_To, .int .i64 a0.GateField_Role, .bool a0.GateField_Must, .bool a0.GateField_Fixed, .str a0.GateField_Default, .str a0.GateField_Weighs]] dec161 = G161n n a0 := by
  kernel_rfl
noncomputable def G161 (a0 : VtextField) : Option (Bool) := G161n fuel a0
noncomputable def con161 : Con C := { R0 := Bool, ret := fun r => [(false, [.bool r])], g := fun vs => match vs with
  | [.agg [.str y0_0, .int .i64 y0_1, .int .i64 y0_2, .int .i64 y0_3, .row .e9 y0_4, .str y0_5, .int .i64 y0_6, .bool y0_7, .bool y0_8, .str y0_9, .str y0_10]] => G161 ⟨y0_0, y0_1, y0_2, y0_3, y0_4, y0_5, y0_6, y0_7, y0_8, y0_9, y0_10⟩
  | _ => none }
theorem x161 : XOk Go.Proofs.Try.prog X161 := ⟨tks_ok, els_ok, mps_ok, meths_ok⟩
theorem q161 : Cons Go.Proofs.Try.prog X161 := ⟨lkR_ok (l := []) trivial, lkW_ok (l := []) trivial, lkI_ok (l := []) trivial⟩
theorem c161 : ConOk Go.Proofs.Try.prog KK 161 con161 := by
  refine con_dec x161 q161 (by kernel_rfl) (f := 161) (fn := Go.Proofs.Try.f161) (c := bodyOf Go.Proofs.Try.f161) (by kernel_rfl) (by kernel_rfl) (by kernel_rfl) (nameB (by kernel_rfl)) con161 dec161 (fun rs r0 h => ?_) (fun vs r0 h => ?_)
  · unfold dec161 at h
    split at h
    · cases h; rfl
    · cases h
  · simp only [con161] at h
    split at h
    · rename_i y0_0 y0_1 y0_2 y0_3 y0_4 y0_5 y0_6 y0_7 y0_8 y0_9 y0_10
      exact ⟨Nat.le_of_ble_eq_true (by kernel_rfl), F161 fuel, (t161 fuel ⟨y0_0, y0_1, y0_2, y0_3, y0_4, y0_5, y0_6, y0_7, y0_8, y0_9, y0_10⟩).trans h⟩
    · cases h
/-! ### f162 (loop.example/wharfdesk/impl.textField).fits -/
noncomputable def X162 : Cx C := { K := KK, tk := lk tks, con := lkC [], conw := lkC [], inl := lkA [], hold := [], mp := lk mps, meth := lkS meths, off := 10616832 }
def F162 (n : Nat) : Cf := { N := n, keep := [0, 1, 2, 4, 5, 19, 21, 22, 23, 34], live := lk [(0, [1, 21, 22])] }
def dec162 (rs : List (Bool × List (Lf C))) : Option (Bool) := match rs with
  | [(false, [.bool z0])] => some z0
  | _ => none
abbrev A162_0 : Type := ByteArray × Int × Int
def s162_0 : A162_0 → St C := fun (x0_0, x0_1, x0_2) => { env := [(1, .one (.str x0_0)), (21, .one (.int .i64 x0_1)), (22, .one (.int .i64 x0_2))], objs := [], base := 0 }
noncomputable def r162_0 (n : Nat)  (rec0 : A162_0 → Option (Bool)) : A162_0 → Option (Bool) := fun (x0_0, x0_1, x0_2) =>
      cond (decide (x0_2 < x0_1))
      (cond (decide (0 ≤ x0_2)) (cond (decide (x0_2 < (x0_0.size : Int))) (cond (decide ((sbt x0_0 x0_2) < 33))
      (some (false))
      (cond (decide (0 ≤ x0_2)) (cond (decide (x0_2 < (x0_0.size : Int))) (cond (decide ((sbt x0_0 x0_2) > 126))
      (some (false))
      (rec0 (x0_0, x0_1, IntKind.i64.wrap (x0_2 + 1)))) none) none)) none) none)
      (some (true))
noncomputable def LP162_0 (n : Nat)  (x : A162_0) : Option (Bool) := lpN (r162_0 n ) n x
noncomputable def MP162_0 (n : Nat)  (x : A162_0) : Option (Bool) := iter (fun rec S => run X162 (F162 n) (codeAt (bodyOf Go.Proofs.Try.f162) [1, 1, 0, 1, 0, 0]) 0 S (lopK rec (blkK 0 (seqK (run X162 (F162 n) (codeAt (bodyOf Go.Proofs.Try.f162) [1, 1, 1]) 0) (kTop X162 Go.Proofs.Try.f162 dec162))))) [1, 21, 22] n (s162_0 x)
theorem m162_0 (n : Nat)  (x : A162_0) : MP162_0 n  x = LP162_0 n  x := by
  refine iter_eq s162_0 (r162_0 n ) (fun rec0 x => ?_) n x
  obtain ⟨x0_0, x0_1, x0_2⟩ := x
  kernel_rfl
noncomputable def G162n (n : Nat) (a0 : VtextField) (a1 : ByteArray) : Option (Bool) :=
      cond (decide ((a1.size : Int) < a0.GateField_Least))
      (some (false))
      (cond (decide ((a1.size : Int) > a0.GateField_Most))
      (some (false))
      (LP162_0 n  (a1, (a1.size : Int), 0)))
theorem t162 (n : Nat) (a0 : VtextField) (a1 : ByteArray) : runFn X162 (F162 n) Go.Proofs.Try.f162 [.agg [.str a0.GateField_Name, .int .i64 a0.GateField_Kind, .int .i64 a0.GateField_Least, .int .i64 a0.GateField_Most, .row .e9 a0.GateField_Words, .str a0.GateField_To, .int .i64 a0.GateField_Role, .bool a0.GateField_Must, .bool a0.GateField_Fixed, .str a0.GateField_Default, .str a0.GateField_Weighs], .one (.str a1)] dec162 = G162n n a0 a1 := by
  have h : runFn X162 (F162 n) Go.Proofs.Try.f162 [.agg [.str a0.GateField_Name, .int .i64 a0.GateField_Kind, .int .i64 a0.GateField_Least, .int .i64 a0.GateField_Most, .row .e9 a0.GateField_Words, .str a0.GateField_To, .int .i64 a0.GateField_Role, .bool a0.GateField_Must, .bool a0.GateField_Fixed, .str a0.GateField_Default, .str a0.GateField_Weighs], .one (.str a1)] dec162 =
      cond (decide ((a1.size : Int) < a0.GateField_Least))
      (some (false))
      (cond (decide ((a1.size : Int) > a0.GateField_Most))
      (some (false))
      (MP162_0 n  (a1, (a1.size : Int), 0))) := by kernel_rfl
  simp only [h, G162n, m162_0]
noncomputable def G162 (a0 : VtextField) (a1 : ByteArray) : Option (Bool) := G162n fuel a0 a1
noncomputable def con162 : Con C := { R0 := Bool, ret := fun r => [(false, [.bool r])], g := fun vs => match vs with
  | [.agg [.str y0_0, .int .i64 y0_1, .int .i64 y0_2, .int .i64 y0_3, .row .e9 y0_4, .str y0_5, .int .i64 y0_6, .bool y0_7, .bool y0_8, .str y0_9, .str y0_10], .one (.str y1)] => G162 ⟨y0_0, y0_1, y0_2, y0_3, y0_4, y0_5, y0_6, y0_7, y0_8, y0_9, y0_10⟩ y1
  | _ => none }
theorem x162 : XOk Go.Proofs.Try.prog X162 := ⟨tks_ok, els_ok, mps_ok, meths_ok⟩
theorem q162 : Cons Go.Proofs.Try.prog X162 := ⟨lkR_ok (l := []) trivial, lkW_ok (l := []) trivial, lkI_ok (l := []) trivial⟩
theorem c162 : ConOk Go.Proofs.Try.prog KK 162 con162 := by
  refine con_dec x162 q162 (by kernel_rfl) (f := 162) (fn := Go.Proofs.Try.f162) (c := bodyOf Go.Proofs.Try.f162) (by kernel_rfl) (by kernel_rfl) (by kernel_rfl) (nameB (by kernel_rfl)) con162 dec162 (fun rs r0 h => ?_) (fun vs r0 h => ?_)
  · unfold dec162 at h
    split at h
    · cases h; rfl
    · cases h
  · simp only [con162] at h
    split at h
    · rename_i y0_0 y0_1 y0_2 y0_3 y0_4 y0_5 y0_6 y0_7 y0_8 y0_9 y0_10 y1
      exact ⟨Nat.le_of_ble_eq_true (by kernel_rfl), F162 fuel, (t162 fuel ⟨y0_0, y0_1, y0_2, y0_3, y0_4, y0_5, y0_6, y0_7, y0_8, y0_9, y0_10⟩ y1).trans h⟩
    · cases h
/-! ### f163 (loop.example/wharfdesk/impl.textField).sound -/
noncomputable def X163 : Cx C := { K := KK, tk := lk tks, con := lkC [], conw := lkC [], inl := lkA [], hold := [], mp := lk mps, meth := lkS meths, off := 10682368 }
def F163 (n : Nat) : Cf := { N := n, keep := [0, 2, 4], live := lk [] }
def dec163 (rs : List (Bool × List (Lf C))) : Option (Bool) := match rs with
  | [(false, [.bool z0])] => some z0
  | _ => none
noncomputable def G163n (n : Nat) (a0 : VtextField) (a1 : List (C .e9)) : Option (Bool) :=
      cond (decide (a0.GateField_Least ≥ 1))
      (cond (decide (a0.GateField_Least ≤ a0.GateField_Most))
      (some (decide (a0.GateField_Most ≤ 40)))
      (some (false)))
      (some (false))
theorem t163 (n : Nat) (a0 : VtextField) (a1 : List (C .e9)) : runFn X163 (F163 n) Go.Proofs.Try.f163 [.agg [.str a0.GateField_Name, .int .i64 a0.GateField_Kind, .int .i64 a0.GateField_Least, .int .i64 a0.GateField_Most, .row .e9 a0.GateField_Words, .str a0.GateField_To, .int .i64 a0.GateField_Role, .bool a0.GateField_Must, .bool a0.GateField_Fixed, .str a0.GateField_Default, .str a0.GateField_Weighs], .one (.row .e9 a1)] dec163 = G163n n a0 a1 := by
  kernel_rfl
noncomputable def G163 (a0 : VtextField) (a1 : List (C .e9)) : Option (Bool) := G163n fuel a0 a1
noncomputable def con163 : Con C := { R0 := Bool, ret := fun r => [(false, [.bool r])], g := fun vs => match vs with
  | [.agg [.str y0_0, .int .i64 y0_1, .int .i64 y0_2, .int .i64 y0_3, .row .e9 y0_4, .str y0_5, .int .i64 y0_6, .bool y0_7, .bool y0_8, .str y0_9, .str y0_10], .one (.row .e9 y1)] => G163 ⟨y0_0, y0_1, y0_2, y0_3, y0_4, y0_5, y0_6, y0_7, y0_8, y0_9, y0_10⟩ y1
  | _ => none }
theorem x163 : XOk Go.Proofs.Try.prog X163 := ⟨tks_ok, els_ok, mps_ok, meths_ok⟩
theorem q163 : Cons Go.Proofs.Try.prog X163 := ⟨lkR_ok (l := []) trivial, lkW_ok (l := []) trivial, lkI_ok (l := []) trivial⟩
theorem c163 : ConOk Go.Proofs.Try.prog KK 163 con163 := by
  refine con_dec x163 q163 (by kernel_rfl) (f := 163) (fn := Go.Proofs.Try.f163) (c := bodyOf Go.Proofs.Try.f163) (by kernel_rfl) (by kernel_rfl) (by kernel_rfl) (nameB (by kernel_rfl)) con163 dec163 (fun rs r0 h => ?_) (fun vs r0 h => ?_)
  · unfold dec163 at h
    split at h
    · cases h; rfl
    · cases h
  · simp only [con163] at h
    split at h
    · rename_i y0_0 y0_1 y0_2 y0_3 y0_4 y0_5 y0_6 y0_7 y0_8 y0_9 y0_10 y1
      exact ⟨Nat.le_of_ble_eq_true (by kernel_rfl), F163 fuel, (t163 fuel ⟨y0_0, y0_1, y0_2, y0_3, y0_4, y0_5, y0_6, y0_7, y0_8, y0_9, y0_10⟩ y1).trans h⟩
    · cases h
/-! ### f164 (loop.example/wharfdesk/impl.linkField).clean -/
noncomputable def X164 : Cx C := { K := KK, tk := lk tks, con := lkC [], conw := lkC [], inl := lkA [], hold := [], mp := lk mps, meth := lkS meths, off := 10747904 }
def F164 (n : Nat) : Cf := { N := n, keep := [0, 1, 2], live := lk [] }
def dec164 (rs : List (Bool × List (Lf C))) : Option (Bool) := match rs with
  | [(false, [.bool z0])] => some z0
  | _ => none
noncomputable def G164n (n : Nat) (a0 : VlinkField) : Option (Bool) :=
      cond (a0.GateField_Least == 0)
      (cond (a0.GateField_Most == 0)
      (cond ((a0.GateField_Words.length : Int) == 0)
      (some (decide (a0.GateField_Weighs = (⟨#[]⟩ : ByteArray))))
      (some (false)))
      (some (false)))
      (some (false))
theorem t164 (n : Nat) (a0 : VlinkField) : runFn X164 (F164 n) Go.Proofs.Try.f164 [.agg [.str a0.GateField_Name, .int .i64 a0.GateField_Kind, .int .i64 a0.GateField_Least, .int .i64 a0.GateField_Most, .row .e9 a0.GateField_Words, .str a0.GateField_To, .int .i64 a0.GateField_Role, .bool a0.GateField_Must, .bool a0.GateField_Fixed, .str a0.GateField_Default, .str a0.GateField_Weighs]] dec164 = G164n n a0 := by
  kernel_rfl
noncomputable def G164 (a0 : VlinkField) : Option (Bool) := G164n fuel a0
noncomputable def con164 : Con C := { R0 := Bool, ret := fun r => [(false, [.bool r])], g := fun vs => match vs with
  | [.agg [.str y0_0, .int .i64 y0_1, .int .i64 y0_2, .int .i64 y0_3, .row .e9 y0_4, .str y0_5, .int .i64 y0_6, .bool y0_7, .bool y0_8, .str y0_9, .str y0_10]] => G164 ⟨y0_0, y0_1, y0_2, y0_3, y0_4, y0_5, y0_6, y0_7, y0_8, y0_9, y0_10⟩
  | _ => none }
theorem x164 : XOk Go.Proofs.Try.prog X164 := ⟨tks_ok, els_ok, mps_ok, meths_ok⟩
theorem q164 : Cons Go.Proofs.Try.prog X164 := ⟨lkR_ok (l := []) trivial, lkW_ok (l := []) trivial, lkI_ok (l := []) trivial⟩
theorem c164 : ConOk Go.Proofs.Try.prog KK 164 con164 := by
  refine con_dec x164 q164 (by kernel_rfl) (f := 164) (fn := Go.Proofs.Try.f164) (c := bodyOf Go.Proofs.Try.f164) (by kernel_rfl) (by kernel_rfl) (by kernel_rfl) (nameB (by kernel_rfl)) con164 dec164 (fun rs r0 h => ?_) (fun vs r0 h => ?_)
  · unfold dec164 at h
    split at h
    · cases h; rfl
    · cases h
  · simp only [con164] at h
    split at h
    · rename_i y0_0 y0_1 y0_2 y0_3 y0_4 y0_5 y0_6 y0_7 y0_8 y0_9 y0_10
      exact ⟨Nat.le_of_ble_eq_true (by kernel_rfl), F164 fuel, (t164 fuel ⟨y0_0, y0_1, y0_2, y0_3, y0_4, y0_5, y0_6, y0_7, y0_8, y0_9, y0_10⟩).trans h⟩
    · cases h
/-! ### f165 (loop.example/wharfdesk/impl.linkField).fits -/
noncomputable def X165 : Cx C := { K := KK, tk := lk tks, con := lkC [(78, con78)], conw := lkC [], inl := lkA [], hold := [], mp := lk mps, meth := lkS meths, off := 10813440 }
def F165 (n : Nat) : Cf := { N := n, keep := [0, 1, 4], live := lk [] }
def dec165 (rs : List (Bool × List (Lf C))) : Option (Bool) := match rs with
  | [(false, [.bool z0])] => some z0
  | _ => none
noncomputable def G165n (n : Nat) (a0 : VlinkField) (a1 : ByteArray) : Option (Bool) :=
      Option.bind (G78 a1) fun r1 =>
      some (r1)
theorem t165 (n : Nat) (a0 : VlinkField) (a1 : ByteArray) : runFn X165 (F165 n) Go.Proofs.Try.f165 [.agg [.str a0.GateField_Name, .int .i64 a0.GateField_Kind, .int .i64 a0.GateField_Least, .int .i64 a0.GateField_Most, .row .e9 a0.GateField_Words, .str a0.GateField_To, .int .i64 a0.GateField_Role, .bool a0.GateField_Must, .bool a0.GateField_Fixed, .str a0.GateField_Default, .str a0.GateField_Weighs], .one (.str a1)] dec165 = G165n n a0 a1 := by
  kernel_rfl
noncomputable def G165 (a0 : VlinkField) (a1 : ByteArray) : Option (Bool) := G165n fuel a0 a1
noncomputable def con165 : Con C := { R0 := Bool, ret := fun r => [(false, [.bool r])], g := fun vs => match vs with
  | [.agg [.str y0_0, .int .i64 y0_1, .int .i64 y0_2, .int .i64 y0_3, .row .e9 y0_4, .str y0_5, .int .i64 y0_6, .bool y0_7, .bool y0_8, .str y0_9, .str y0_10], .one (.str y1)] => G165 ⟨y0_0, y0_1, y0_2, y0_3, y0_4, y0_5, y0_6, y0_7, y0_8, y0_9, y0_10⟩ y1
  | _ => none }
theorem x165 : XOk Go.Proofs.Try.prog X165 := ⟨tks_ok, els_ok, mps_ok, meths_ok⟩
theorem q165 : Cons Go.Proofs.Try.prog X165 := ⟨lkR_ok (l := [(78, con78)]) ⟨c78, trivial⟩, lkW_ok (l := []) trivial, lkI_ok (l := []) trivial⟩
theorem c165 : ConOk Go.Proofs.Try.prog KK 165 con165 := by
  refine con_dec x165 q165 (by kernel_rfl) (f := 165) (fn := Go.Proofs.Try.f165) (c := bodyOf Go.Proofs.Try.f165) (by kernel_rfl) (by kernel_rfl) (by kernel_rfl) (nameB (by kernel_rfl)) con165 dec165 (fun rs r0 h => ?_) (fun vs r0 h => ?_)
  · unfold dec165 at h
    split at h
    · cases h; rfl
    · cases h
  · simp only [con165] at h
    split at h
    · rename_i y0_0 y0_1 y0_2 y0_3 y0_4 y0_5 y0_6 y0_7 y0_8 y0_9 y0_10 y1
      exact ⟨Nat.le_of_ble_eq_true (by kernel_rfl), F165 fuel, (t165 fuel ⟨y0_0, y0_1, y0_2, y0_3, y0_4, y0_5, y0_6, y0_7, y0_8, y0_9, y0_10⟩ y1).trans h⟩
    · cases h
/-! ### f166 (loop.example/wharfdesk/impl.linkField).sound -/
noncomputable def X166 : Cx C := { K := KK, tk := lk tks, con := lkC [], conw := lkC [], inl := lkA [], hold := [], mp := lk mps, meth := lkS meths, off := 10878976 }
def F166 (n : Nat) : Cf := { N := n, keep := [0, 1, 2, 4, 5, 7, 8, 9, 10, 11], live := lk [(0, [2, 5, 8, 9, 10])] }
def dec166 (rs : List (Bool × List (Lf C))) : Option (Bool) := match rs with
  | [(false, [.bool z0])] => some z0
  | _ => none
abbrev A166_0 : Type := Bool × List (C .e9) × Int × Int × ByteArray × Int × Int × Int × List (C .e9) × ByteArray × Int × Bool × Bool × ByteArray × ByteArray
def s166_0 : A166_0 → St C := fun (x0_0, x0_1, x0_2, x0_3, x0_4, x0_5, x0_6, x0_7, x0_8, x0_9, x0_10, x0_11, x0_12, x0_13, x0_14) => { env := [(2, .one (.ptr 10879104 0)), (5, .one (.bool x0_0)), (8, .one (.row .e9 x0_1)), (9, .one (.int .i64 x0_2)), (10, .one (.int .i64 x0_3))], objs := [(10879104, .box .mem [.str x0_4, .int .i64 x0_5, .int .i64 x0_6, .int .i64 x0_7, .row .e9 x0_8, .str x0_9, .int .i64 x0_10, .bool x0_11, .bool x0_12, .str x0_13, .str x0_14])], base := 0 }
noncomputable def r166_0 (n : Nat)  (rec0 : A166_0 → Option (Bool)) : A166_0 → Option (Bool) := fun (x0_0, x0_1, x0_2, x0_3, x0_4, x0_5, x0_6, x0_7, x0_8, x0_9, x0_10, x0_11, x0_12, x0_13, x0_14) =>
      cond (decide (x0_3 < x0_2))
      (cond (decide (0 ≤ x0_3)) (Option.bind x0_1[x0_3.toNat]? fun x1 => cond x0_0
      (rec0 (true, x0_1, x0_2, IntKind.i64.wrap (x0_3 + 1), x0_4, x0_5, x0_6, x0_7, x0_8, x0_9, x0_10, x0_11, x0_12, x0_13, x0_14))
      (rec0 (decide (x1 = x0_9), x0_1, x0_2, IntKind.i64.wrap (x0_3 + 1), x0_4, x0_5, x0_6, x0_7, x0_8, x0_9, x0_10, x0_11, x0_12, x0_13, x0_14))) none)
      (cond x0_0
      (cond (decide (x0_10 ≥ 1))
      (cond (decide (x0_10 ≤ 3))
      (cond (decide (x0_13 = (⟨#[]⟩ : ByteArray)))
      (cond (x0_10 == 2)
      (some (!x0_11))
      (some (true)))
      (some (false)))
      (some (false)))
      (some (false)))
      (some (false)))
noncomputable def LP166_0 (n : Nat)  (x : A166_0) : Option (Bool) := lpN (r166_0 n ) n x
noncomputable def MP166_0 (n : Nat)  (x : A166_0) : Option (Bool) := iter (fun rec S => run X166 (F166 n) (codeAt (bodyOf Go.Proofs.Try.f166) [1, 1, 0, 1, 0, 0]) 0 S (lopK rec (blkK 0 (seqK (run X166 (F166 n) (codeAt (bodyOf Go.Proofs.Try.f166) [1, 1, 1]) 0) (kTop X166 Go.Proofs.Try.f166 dec166))))) [2, 5, 8, 9, 10] n (s166_0 x)
theorem m166_0 (n : Nat)  (x : A166_0) : MP166_0 n  x = LP166_0 n  x := by
  refine iter_eq s166_0 (r166_0 n ) (fun rec0 x => ?_) n x
  obtain ⟨x0_0, x0_1, x0_2, x0_3, x0_4, x0_5, x0_6, x0_7, x0_8, x0_9, x0_10, x0_11, x0_12, x0_13, x0_14⟩ := x
  kernel_rfl
noncomputable def G166n (n : Nat) (a0 : VlinkField) (a1 : List (C .e9)) : Option (Bool) :=
      LP166_0 n  (false, a1, (a1.length : Int), 0, a0.GateField_Name, a0.GateField_Kind, a0.GateField_Least, a0.GateField_Most, a0.GateField_Words, a0.GateField_To, a0.GateField_Role, a0.GateField_Must, a0.GateField_Fixed, a0.GateField_Default, a0.GateField_Weighs)
theorem t166 (n : Nat) (a0 : VlinkField) (a1 : List (C .e9)) : runFn X166 (F166 n) Go.Proofs.Try.f166 [.agg [.str a0.GateField_Name, .int .i64 a0.GateField_Kind, .int .i64 a0.GateField_Least, .int .i64 a0.GateField_Most, .row .e9 a0.GateField_Words, .str a0.GateField_To, .int .i64 a0.GateField_Role, .bool a0.GateField_Must, .bool a0.GateField_Fixed, .str a0.GateField_Default, .str a0.GateField_Weighs], .one (.row .e9 a1)] dec166 = G166n n a0 a1 := by
  have h : runFn X166 (F166 n) Go.Proofs.Try.f166 [.agg [.str a0.GateField_Name, .int .i64 a0.GateField_Kind, .int .i64 a0.GateField_Least, .int .i64 a0.GateField_Most, .row .e9 a0.GateField_Words, .str a0.GateField_To, .int .i64 a0.GateField_Role, .bool a0.GateField_Must, .bool a0.GateField_Fixed, .str a0.GateField_Default, .str a0.GateField_Weighs], .one (.row .e9 a1)] dec166 =
      MP166_0 n  (false, a1, (a1.length : Int), 0, a0.GateField_Name, a0.GateField_Kind, a0.GateField_Least, a0.GateField_Most, a0.GateField_Words, a0.GateField_To, a0.GateField_Role, a0.GateField_Must, a0.GateField_Fixed, a0.GateField_Default, a0.GateField_Weighs) := by kernel_rfl
  simp only [h, G166n, m166_0]
noncomputable def G166 (a0 : VlinkField) (a1 : List (C .e9)) : Option (Bool) := G166n fuel a0 a1
noncomputable def con166 : Con C := { R0 := Bool, ret := fun r => [(false, [.bool r])], g := fun vs => match vs with
  | [.agg [.str y0_0, .int .i64 y0_1, .int .i64 y0_2, .int .i64 y0_3, .row .e9 y0_4, .str y0_5, .int .i64 y0_6, .bool y0_7, .bool y0_8, .str y0_9, .str y0_10], .one (.row .e9 y1)] => G166 ⟨y0_0, y0_1, y0_2, y0_3, y0_4, y0_5, y0_6, y0_7, y0_8, y0_9, y0_10⟩ y1
  | _ => none }
theorem x166 : XOk Go.Proofs.Try.prog X166 := ⟨tks_ok, els_ok, mps_ok, meths_ok⟩
theorem q166 : Cons Go.Proofs.Try.prog X166 := ⟨lkR_ok (l := []) trivial, lkW_ok (l := []) trivial, lkI_ok (l := []) trivial⟩
theorem c166 : ConOk Go.Proofs.Try.prog KK 166 con166 := by
  refine con_dec x166 q166 (by kernel_rfl) (f := 166) (fn := Go.Proofs.Try.f166) (c := bodyOf Go.Proofs.Try.f166) (by kernel_rfl) (by kernel_rfl) (by kernel_rfl) (nameB (by kernel_rfl)) con166 dec166 (fun rs r0 h => ?_) (fun vs r0 h => ?_)
  · unfold dec166 at h
    split at h
    · cases h; rfl
    · cases h
  · simp only [con166] at h
    split at h
    · rename_i y0_0 y0_1 y0_2 y0_3 y0_4 y0_5 y0_6 y0_7 y0_8 y0_9 y0_10 y1
      exact ⟨Nat.le_of_ble_eq_true (by kernel_rfl), F166 fuel, (t166 fuel ⟨y0_0, y0_1, y0_2, y0_3, y0_4, y0_5, y0_6, y0_7, y0_8, y0_9, y0_10⟩ y1).trans h⟩
    · cases h
/-! ### f133 loop.example/wharfdesk/impl.sortOf$1, run in place -/
noncomputable def X133 : Cx C := { K := KK, tk := lk tks, con := lkC [], conw := lkC [], inl := lkA [], hold := [], mp := lk mps, meth := lkS meths, off := 8716288 }
def F133 (n : Nat) : Cf := { N := n, keep := [0, 1, 2], live := lk [] }
noncomputable def I133 (n : Nat) : Inl C := inlOf X133 (F133 n) Go.Proofs.Try.f133
theorem x133 : XOk Go.Proofs.Try.prog X133 := ⟨tks_ok, els_ok, mps_ok, meths_ok⟩
theorem q133 : Cons Go.Proofs.Try.prog X133 := ⟨lkR_ok (l := []) trivial, lkW_ok (l := []) trivial, lkI_ok (l := []) trivial⟩
theorem i133 (n : Nat) : InlOk Go.Proofs.Try.prog KK 133 (I133 n) := inl_of x133 q133 (by kernel_rfl) (F133 n) (f := 133) (fn := Go.Proofs.Try.f133) (c := bodyOf Go.Proofs.Try.f133) (by kernel_rfl) (by kernel_rfl) (by kernel_rfl) (nameB (by kernel_rfl))
/-! ### f134 loop.example/wharfdesk/impl.sortOf$2, run in place -/
noncomputable def X134 : Cx C := { K := KK, tk := lk tks, con := lkC [], conw := lkC [], inl := lkA [], hold := [], mp := lk mps, meth := lkS meths, off := 8781824 }
def F134 (n : Nat) : Cf := { N := n, keep := [0, 1, 2], live := lk [] }
noncomputable def I134 (n : Nat) : Inl C := inlOf X134 (F134 n) Go.Proofs.Try.f134
theorem x134 : XOk Go.Proofs.Try.prog X134 := ⟨tks_ok, els_ok, mps_ok, meths_ok⟩
theorem q134 : Cons Go.Proofs.Try.prog X134 := ⟨lkR_ok (l := []) trivial, lkW_ok (l := []) trivial, lkI_ok (l := []) trivial⟩
theorem i134 (n : Nat) : InlOk Go.Proofs.Try.prog KK 134 (I134 n) := inl_of x134 q134 (by kernel_rfl) (F134 n) (f := 134) (fn := Go.Proofs.Try.f134) (c := bodyOf Go.Proofs.Try.f134) (by kernel_rfl) (by kernel_rfl) (by kernel_rfl) (nameB (by kernel_rfl))
/-! ### f135 loop.example/wharfdesk/impl.sortOf$3, run in place -/
noncomputable def X135 : Cx C := { K := KK, tk := lk tks, con := lkC [], conw := lkC [], inl := lkA [], hold := [], mp := lk mps, meth := lkS meths, off := 8847360 }
def F135 (n : Nat) : Cf := { N := n, keep := [0, 1, 2], live := lk [] }
noncomputable def I135 (n : Nat) : Inl C := inlOf X135 (F135 n) Go.Proofs.Try.f135
theorem x135 : XOk Go.Proofs.Try.prog X135 := ⟨tks_ok, els_ok, mps_ok, meths_ok⟩
theorem q135 : Cons Go.Proofs.Try.prog X135 := ⟨lkR_ok (l := []) trivial, lkW_ok (l := []) trivial, lkI_ok (l := []) trivial⟩
theorem i135 (n : Nat) : InlOk Go.Proofs.Try.prog KK 135 (I135 n) := inl_of x135 q135 (by kernel_rfl) (F135 n) (f := 135) (fn := Go.Proofs.Try.f135) (c := bodyOf Go.Proofs.Try.f135) (by kernel_rfl) (by kernel_rfl) (by kernel_rfl) (nameB (by kernel_rfl))
/-! ### f136 loop.example/wharfdesk/impl.sortOf$4, run in place -/
noncomputable def X136 : Cx C := { K := KK, tk := lk tks, con := lkC [], conw := lkC [], inl := lkA [], hold := [], mp := lk mps, meth := lkS meths, off := 8912896 }
def F136 (n : Nat) : Cf := { N := n, keep := [0, 1, 2], live := lk [] }
noncomputable def I136 (n : Nat) : Inl C := inlOf X136 (F136 n) Go.Proofs.Try.f136
theorem x136 : XOk Go.Proofs.Try.prog X136 := ⟨tks_ok, els_ok, mps_ok, meths_ok⟩
theorem q136 : Cons Go.Proofs.Try.prog X136 := ⟨lkR_ok (l := []) trivial, lkW_ok (l := []) trivial, lkI_ok (l := []) trivial⟩
theorem i136 (n : Nat) : InlOk Go.Proofs.Try.prog KK 136 (I136 n) := inl_of x136 q136 (by kernel_rfl) (F136 n) (f := 136) (fn := Go.Proofs.Try.f136) (c := bodyOf Go.Proofs.Try.f136) (by kernel_rfl) (by kernel_rfl) (by kernel_rfl) (nameB (by kernel_rfl))
/-! ### f120 loop.example/wharfdesk/impl.sortOf, run in place -/
noncomputable def X120 (n : Nat) : Cx C := { K := KK, tk := lk tks, con := lkC [], conw := lkC [], inl := lkA [(133, I133 n), (134, I134 n), (135, I135 n), (136, I136 n)], hold := [1, 2, 3, 4, 7, 8, 20], mp := lk mps, meth := lkS meths, off := 7864320 }
def F120 (n : Nat) : Cf := { N := n, keep := [0, 1, 2, 3, 4, 5, 6, 17], live := lk [] }
noncomputable def I120 (n : Nat) : Inl C := inlOf (X120 n) (F120 n) Go.Proofs.Try.f120
theorem x120 (n : Nat) : XOk Go.Proofs.Try.prog (X120 n) := ⟨tks_ok, els_ok, mps_ok, meths_ok⟩
theorem q120 (n : Nat) : Cons Go.Proofs.Try.prog (X120 n) := ⟨lkR_ok (l := []) trivial, lkW_ok (l := []) trivial, lkI_ok (l := [(133, I133 n), (134, I134 n), (135, I135 n), (136, I136 n)]) ⟨i133 n, i134 n, i135 n, i136 n, trivial⟩⟩
theorem i120 (n : Nat) : InlOk Go.Proofs.Try.prog KK 120 (I120 n) := inl_of (x120 n) (q120 n) (by kernel_rfl) (F120 n) (f := 120) (fn := Go.Proofs.Try.f120) (c := bodyOf Go.Proofs.Try.f120) (by kernel_rfl) (by kernel_rfl) (by kernel_rfl) (nameB (by kernel_rfl))
/-! ### f98 loop.example/wharfdesk/impl.GateFits -/
noncomputable def X98 (n : Nat) : Cx C := { K := KK, tk := lk tks, con := lkC [(155, con155), (159, con159), (162, con162), (165, con165)], conw := lkC [], inl := lkA [(120, I120 n)], hold := [1, 4, 5, 6, 7, 9, 10, 11, 17, 20, 21], mp := lk mps, meth := lkS meths, off := 6422528 }
def F98 (n : Nat) : Cf := { N := n, keep := [0, 1, 2, 4, 5, 6], live := lk [] }
def dec98 (rs : List (Bool × List (Lf C))) : Option (Bool) := match rs with
  | [(false, [.bool z0])] => some z0
  | _ => none
noncomputable def G98n (n : Nat) (a0 : VGateField) (a1 : ByteArray) : Option (Bool) :=
      cond (decide (1 = a0.Kind))
      (cond (!decide (a1 = (⟨#[]⟩ : ByteArray)))
      (Option.bind (G155 (⟨a0.Name, a0.Kind, a0.Least, a0.Most, a0.Words, a0.To, a0.Role, a0.Must, a0.Fixed, a0.Default, a0.Weighs⟩ : VnumberField) a1) fun r1 =>
      some (r1))
      (some (false)))
      (cond (decide (2 = a0.Kind))
      (cond (!decide (a1 = (⟨#[]⟩ : ByteArray)))
      (Option.bind (G159 (⟨a0.Name, a0.Kind, a0.Least, a0.Most, a0.Words, a0.To, a0.Role, a0.Must, a0.Fixed, a0.Default, a0.Weighs⟩ : VwordField) a1) fun r2 =>
      some (r2))
      (some (false)))
      (cond (decide (3 = a0.Kind))
      (cond (!decide (a1 = (⟨#[]⟩ : ByteArray)))
      (Option.bind (G162 (⟨a0.Name, a0.Kind, a0.Least, a0.Most, a0.Words, a0.To, a0.Role, a0.Must, a0.Fixed, a0.Default, a0.Weighs⟩ : VtextField) a1) fun r3 =>
      some (r3))
      (some (false)))
      (cond (decide (4 = a0.Kind))
      (cond (!decide (a1 = (⟨#[]⟩ : ByteArray)))
      (Option.bind (G165 (⟨a0.Name, a0.Kind, a0.Least, a0.Most, a0.Words, a0.To, a0.Role, a0.Must, a0.Fixed, a0.Default, a0.Weighs⟩ : VlinkField) a1) fun r4 =>
      some (r4))
      (some (false)))
      (some (false)))))
theorem t98 (n : Nat) (a0 : VGateField) (a1 : ByteArray) : runFn (X98 n) (F98 n) Go.Proofs.Try.f98 [.agg [.str a0.Name, .int .i64 a0.Kind, .int .i64 a0.Least, .int .i64 a0.Most, .row .e9 a0.Words, .str a0.To, .int .i64 a0.Role, .bool a0.Must, .bool a0.Fixed, .str a0.Default, .str a0.Weighs], .one (.str a1)] dec98 = G98n n a0 a1 := by
  kernel_rfl
noncomputable def G98 (a0 : VGateField) (a1 : ByteArray) : Option (Bool) := G98n fuel a0 a1
noncomputable def con98 : Con C := { R0 := Bool, ret := fun r => [(false, [.bool r])], g := fun vs => match vs with
  | [.agg [.str y0_0, .int .i64 y0_1, .int .i64 y0_2, .int .i64 y0_3, .row .e9 y0_4, .str y0_5, .int .i64 y0_6, .bool y0_7, .bool y0_8, .str y0_9, .str y0_10], .one (.str y1)] => G98 ⟨y0_0, y0_1, y0_2, y0_3, y0_4, y0_5, y0_6, y0_7, y0_8, y0_9, y0_10⟩ y1
  | _ => none }
theorem x98 (n : Nat) : XOk Go.Proofs.Try.prog (X98 n) := ⟨tks_ok, els_ok, mps_ok, meths_ok⟩
theorem q98 (n : Nat) : Cons Go.Proofs.Try.prog (X98 n) := ⟨lkR_ok (l := [(155, con155), (159, con159), (162, con162), (165, con165)]) ⟨c155, c159, c162, c165, trivial⟩, lkW_ok (l := []) trivial, lkI_ok (l := [(120, I120 n)]) ⟨i120 n, trivial⟩⟩
theorem c98 : ConOk Go.Proofs.Try.prog KK 98 con98 := by
  refine con_dec (x98 fuel) (q98 fuel) (by kernel_rfl) (f := 98) (fn := Go.Proofs.Try.f98) (c := bodyOf Go.Proofs.Try.f98) (by kernel_rfl) (by kernel_rfl) (by kernel_rfl) (nameB (by kernel_rfl)) con98 dec98 (fun rs r0 h => ?_) (fun vs r0 h => ?_)
  · unfold dec98 at h
    split at h
    · cases h; rfl
    · cases h
  · simp only [con98] at h
    split at h
    · rename_i y0_0 y0_1 y0_2 y0_3 y0_4 y0_5 y0_6 y0_7 y0_8 y0_9 y0_10 y1
      exact ⟨Nat.le_of_ble_eq_true (by kernel_rfl), F98 fuel, (t98 fuel ⟨y0_0, y0_1, y0_2, y0_3, y0_4, y0_5, y0_6, y0_7, y0_8, y0_9, y0_10⟩ y1).trans h⟩
    · cases h
/-! ### f55 loop.example/wharfdesk/impl.shapeOf -/
noncomputable def X55 : Cx C := { K := KK, tk := lk tks, con := lkC [], conw := lkC [], inl := lkA [], hold := [], mp := lk mps, meth := lkS meths, off := 3604480 }
def F55 (n : Nat) : Cf := { N := n, keep := [0, 1, 4, 5, 6, 7, 8, 9, 10, 17], live := lk [(0, [1, 7, 8, 9])] }
def dec55 (rs : List (Bool × List (Lf C))) : Option (Int) := match rs with
  | [(false, [.int .i64 z0])] => some z0
  | _ => none
abbrev A55_0 : Type := ByteArray × List (C .e81) × Int × Int
def s55_0 : A55_0 → St C := fun (x0_0, x0_1, x0_2, x0_3) => { env := [(1, .one (.str x0_0)), (7, .one (.row .e81 x0_1)), (8, .one (.int .i64 x0_2)), (9, .one (.int .i64 x0_3))], objs := [], base := 0 }
noncomputable def r55_0 (n : Nat)  (rec0 : A55_0 → Option (Int)) : A55_0 → Option (Int) := fun (x0_0, x0_1, x0_2, x0_3) =>
      cond (decide (x0_3 < x0_2))
      (cond (decide (0 ≤ x0_3)) (Option.bind x0_1[x0_3.toNat]? fun x1 => cond (decide (x1.Kind = x0_0))
      (some (x0_3))
      (rec0 (x0_0, x0_1, x0_2, IntKind.i64.wrap (x0_3 + 1)))) none)
      (some ((-1)))
noncomputable def LP55_0 (n : Nat)  (x : A55_0) : Option (Int) := lpN (r55_0 n ) n x
noncomputable def MP55_0 (n : Nat)  (x : A55_0) : Option (Int) := iter (fun rec S => run X55 (F55 n) (codeAt (bodyOf Go.Proofs.Try.f55) [1, 0, 1, 0, 0]) 0 S (lopK rec (blkK 0 (seqK (run X55 (F55 n) (codeAt (bodyOf Go.Proofs.Try.f55) [1, 1]) 0) (kTop X55 Go.Proofs.Try.f55 dec55))))) [1, 7, 8, 9] n (s55_0 x)
theorem m55_0 (n : Nat)  (x : A55_0) : MP55_0 n  x = LP55_0 n  x := by
  refine iter_eq s55_0 (r55_0 n ) (fun rec0 x => ?_) n x
  obtain ⟨x0_0, x0_1, x0_2, x0_3⟩ := x
  kernel_rfl
noncomputable def G55n (n : Nat) (a0 : List (C .e81)) (a1 : ByteArray) : Option (Int) :=
      LP55_0 n  (a1, a0, (a0.length : Int), 0)
theorem t55 (n : Nat) (a0 : List (C .e81)) (a1 : ByteArray) : runFn X55 (F55 n) Go.Proofs.Try.f55 [.one (.row .e81 a0), .one (.str a1)] dec55 = G55n n a0 a1 := by
  have h : runFn X55 (F55 n) Go.Proofs.Try.f55 [.one (.row .e81 a0), .one (.str a1)] dec55 =
      MP55_0 n  (a1, a0, (a0.length : Int), 0) := by kernel_rfl
  simp only [h, G55n, m55_0]
noncomputable def G55 (a0 : List (C .e81)) (a1 : ByteArray) : Option (Int) := G55n fuel a0 a1
noncomputable def con55 : Con C := { R0 := Int, ret := fun r => [(false, [.int .i64 r])], g := fun vs => match vs with
  | [.one (.row .e81 y0), .one (.str y1)] => G55 y0 y1
  | _ => none }
theorem x55 : XOk Go.Proofs.Try.prog X55 := ⟨tks_ok, els_ok, mps_ok, meths_ok⟩
theorem q55 : Cons Go.Proofs.Try.prog X55 := ⟨lkR_ok (l := []) trivial, lkW_ok (l := []) trivial, lkI_ok (l := []) trivial⟩
theorem c55 : ConOk Go.Proofs.Try.prog KK 55 con55 := by
  refine con_dec x55 q55 (by kernel_rfl) (f := 55) (fn := Go.Proofs.Try.f55) (c := bodyOf Go.Proofs.Try.f55) (by kernel_rfl) (by kernel_rfl) (by kernel_rfl) (nameB (by kernel_rfl)) con55 dec55 (fun rs r0 h => ?_) (fun vs r0 h => ?_)
  · unfold dec55 at h
    split at h
    · cases h; rfl
    · cases h
  · simp only [con55] at h
    split at h
    · rename_i y0 y1
      exact ⟨Nat.le_of_ble_eq_true (by kernel_rfl), F55 fuel, (t55 fuel y0 y1).trans h⟩
    · cases h
/-! ### f96 loop.example/wharfdesk/impl.shapeOk -/
noncomputable def X96 (n : Nat) : Cx C := { K := KK, tk := lk tks, con := lkC [(78, con78), (98, con98), (154, con154), (156, con156), (158, con158), (160, con160), (161, con161), (163, con163), (164, con164), (166, con166)], conw := lkC [], inl := lkA [(120, I120 n)], hold := [1, 5, 7, 8, 9, 16, 17, 18, 38, 40, 41, 42, 45, 47, 48, 49, 50, 51, 52, 53, 54, 55], mp := lk mps, meth := lkS meths, off := 6291456 }
def F96 (n : Nat) : Cf := { N := n, keep := [0, 1, 2, 4, 5, 7, 8, 9, 13, 16, 17, 18, 19, 37, 55, 65], live := lk [(0, [1, 5, 16, 17, 18])] }
def dec96 (rs : List (Bool × List (Lf C))) : Option (Bool) := match rs with
  | [(false, [.bool z0])] => some z0
  | _ => none
abbrev A96_0 : Type := List (C .e9) × List (C .e100) × Int × Int × List (Nat × C .e9 × C .e3) × Nat
def s96_0 : A96_0 → St C := fun (x0_0, x0_1, x0_2, x0_3, x0_4, x0_5) => { env := [(1, .one (.row .e9 x0_0)), (5, .one (.vo 6292352)), (16, .one (.row .e100 x0_1)), (17, .one (.int .i64 x0_2)), (18, .one (.int .i64 x0_3))], objs := [(6292352, .map ⟨false, false, false, false⟩ .e9 .e3 x0_4 x0_5)], base := 0 }
noncomputable def r96_0 (n : Nat)  (rec0 : A96_0 → Option (Bool)) : A96_0 → Option (Bool) := fun (x0_0, x0_1, x0_2, x0_3, x0_4, x0_5) =>
      cond (decide (x0_3 < x0_2))
      (cond (decide (0 ≤ x0_3)) (Option.bind x0_1[x0_3.toNat]? fun x1 => Option.bind (G78 x1.Name) fun r2 =>
      cond (!r2)
      (some (false))
      (cond (decide ((mval KK .e9 .e3 x1.Name (mput KK .e9 .e3 x1.Name (IntKind.i64.wrap ((mval KK .e9 .e3 x1.Name x0_4) + 1)) x0_5 x0_4)) > 1))
      (some (false))
      (cond (decide (1 = x1.Kind))
      (Option.bind (G154 (⟨x1.Name, x1.Kind, x1.Least, x1.Most, x1.Words, x1.To, x1.Role, x1.Must, x1.Fixed, x1.Default, x1.Weighs⟩ : VnumberField)) fun r3 =>
      cond (!r3)
      (some (false))
      (Option.bind (G156 (⟨x1.Name, x1.Kind, x1.Least, x1.Most, x1.Words, x1.To, x1.Role, x1.Must, x1.Fixed, x1.Default, x1.Weighs⟩ : VnumberField) x0_0) fun r4 =>
      cond (!r4)
      (some (false))
      (cond (!decide (x1.Default = (⟨#[]⟩ : ByteArray)))
      (Option.bind (G98 x1 x1.Default) fun r5 =>
      cond (!r5)
      (some (false))
      (rec0 (x0_0, x0_1, x0_2, IntKind.i64.wrap (x0_3 + 1), mput KK .e9 .e3 x1.Name (IntKind.i64.wrap ((mval KK .e9 .e3 x1.Name x0_4) + 1)) x0_5 x0_4, mclk KK .e9 .e3 x1.Name x0_5 x0_4)))
      (rec0 (x0_0, x0_1, x0_2, IntKind.i64.wrap (x0_3 + 1), mput KK .e9 .e3 x1.Name (IntKind.i64.wrap ((mval KK .e9 .e3 x1.Name x0_4) + 1)) x0_5 x0_4, mclk KK .e9 .e3 x1.Name x0_5 x0_4)))))
      (cond (decide (2 = x1.Kind))
      (Option.bind (G158 (⟨x1.Name, x1.Kind, x1.Least, x1.Most, x1.Words, x1.To, x1.Role, x1.Must, x1.Fixed, x1.Default, x1.Weighs⟩ : VwordField)) fun r6 =>
      cond (!r6)
      (some (false))
      (Option.bind (G160 (⟨x1.Name, x1.Kind, x1.Least, x1.Most, x1.Words, x1.To, x1.Role, x1.Must, x1.Fixed, x1.Default, x1.Weighs⟩ : VwordField) x0_0) fun r7 =>
      cond (!r7)
      (some (false))
      (cond (!decide (x1.Default = (⟨#[]⟩ : ByteArray)))
      (Option.bind (G98 x1 x1.Default) fun r8 =>
      cond (!r8)
      (some (false))
      (rec0 (x0_0, x0_1, x0_2, IntKind.i64.wrap (x0_3 + 1), mput KK .e9 .e3 x1.Name (IntKind.i64.wrap ((mval KK .e9 .e3 x1.Name x0_4) + 1)) x0_5 x0_4, mclk KK .e9 .e3 x1.Name x0_5 x0_4)))
      (rec0 (x0_0, x0_1, x0_2, IntKind.i64.wrap (x0_3 + 1), mput KK .e9 .e3 x1.Name (IntKind.i64.wrap ((mval KK .e9 .e3 x1.Name x0_4) + 1)) x0_5 x0_4, mclk KK .e9 .e3 x1.Name x0_5 x0_4)))))
      (cond (decide (3 = x1.Kind))
      (Option.bind (G161 (⟨x1.Name, x1.Kind, x1.Least, x1.Most, x1.Words, x1.To, x1.Role, x1.Must, x1.Fixed, x1.Default, x1.Weighs⟩ : VtextField)) fun r9 =>
      cond (!r9)
      (some (false))
      (Option.bind (G163 (⟨x1.Name, x1.Kind, x1.Least, x1.Most, x1.Words, x1.To, x1.Role, x1.Must, x1.Fixed, x1.Default, x1.Weighs⟩ : VtextField) x0_0) fun r10 =>
      cond (!r10)
      (some (false))
      (cond (!decide (x1.Default = (⟨#[]⟩ : ByteArray)))
      (Option.bind (G98 x1 x1.Default) fun r11 =>
      cond (!r11)
      (some (false))
      (rec0 (x0_0, x0_1, x0_2, IntKind.i64.wrap (x0_3 + 1), mput KK .e9 .e3 x1.Name (IntKind.i64.wrap ((mval KK .e9 .e3 x1.Name x0_4) + 1)) x0_5 x0_4, mclk KK .e9 .e3 x1.Name x0_5 x0_4)))
      (rec0 (x0_0, x0_1, x0_2, IntKind.i64.wrap (x0_3 + 1), mput KK .e9 .e3 x1.Name (IntKind.i64.wrap ((mval KK .e9 .e3 x1.Name x0_4) + 1)) x0_5 x0_4, mclk KK .e9 .e3 x1.Name x0_5 x0_4)))))
      (cond (decide (4 = x1.Kind))
      (Option.bind (G164 (⟨x1.Name, x1.Kind, x1.Least, x1.Most, x1.Words, x1.To, x1.Role, x1.Must, x1.Fixed, x1.Default, x1.Weighs⟩ : VlinkField)) fun r12 =>
      cond (!r12)
      (some (false))
      (Option.bind (G166 (⟨x1.Name, x1.Kind, x1.Least, x1.Most, x1.Words, x1.To, x1.Role, x1.Must, x1.Fixed, x1.Default, x1.Weighs⟩ : VlinkField) x0_0) fun r13 =>
      cond (!r13)
      (some (false))
      (cond (!decide (x1.Default = (⟨#[]⟩ : ByteArray)))
      (Option.bind (G98 x1 x1.Default) fun r14 =>
      cond (!r14)
      (some (false))
      (rec0 (x0_0, x0_1, x0_2, IntKind.i64.wrap (x0_3 + 1), mput KK .e9 .e3 x1.Name (IntKind.i64.wrap ((mval KK .e9 .e3 x1.Name x0_4) + 1)) x0_5 x0_4, mclk KK .e9 .e3 x1.Name x0_5 x0_4)))
      (rec0 (x0_0, x0_1, x0_2, IntKind.i64.wrap (x0_3 + 1), mput KK .e9 .e3 x1.Name (IntKind.i64.wrap ((mval KK .e9 .e3 x1.Name x0_4) + 1)) x0_5 x0_4, mclk KK .e9 .e3 x1.Name x0_5 x0_4)))))
      (some (false)))))))) none)
      (some (true))
noncomputable def LP96_0 (n : Nat)  (x : A96_0) : Option (Bool) := lpN (r96_0 n ) n x
noncomputable def MP96_0 (n : Nat)  (x : A96_0) : Option (Bool) := iter (fun rec S => run (X96 n) (F96 n) (codeAt (bodyOf Go.Proofs.Try.f96) [1, 1, 1, 0, 1, 0, 0]) 0 S (lopK rec (blkK 0 (seqK (run (X96 n) (F96 n) (codeAt (bodyOf Go.Proofs.Try.f96) [1, 1, 1, 1]) 0) (kTop (X96 n) Go.Proofs.Try.f96 dec96))))) [1, 5, 16, 17, 18] n (s96_0 x)
theorem m96_0 (n : Nat)  (x : A96_0) : MP96_0 n  x = LP96_0 n  x := by
  refine iter_eq s96_0 (r96_0 n ) (fun rec0 x => ?_) n x
  obtain ⟨x0_0, x0_1, x0_2, x0_3, x0_4, x0_5⟩ := x
  kernel_rfl
noncomputable def G96n (n : Nat) (a0 : VGateShape) (a1 : List (C .e9)) : Option (Bool) :=
      cond (decide ((a0.Fields.length : Int) > 6))
      (some (false))
      (LP96_0 n  (a1, a0.Fields, (a0.Fields.length : Int), 0, ([] : List (Nat × C .e9 × C .e3)), 0))
theorem t96 (n : Nat) (a0 : VGateShape) (a1 : List (C .e9)) : runFn (X96 n) (F96 n) Go.Proofs.Try.f96 [.agg [.str a0.Kind, .row .e100 a0.Fields], .one (.row .e9 a1)] dec96 = G96n n a0 a1 := by
  have h : runFn (X96 n) (F96 n) Go.Proofs.Try.f96 [.agg [.str a0.Kind, .row .e100 a0.Fields], .one (.row .e9 a1)] dec96 =
      cond (decide ((a0.Fields.length : Int) > 6))
      (some (false))
      (MP96_0 n  (a1, a0.Fields, (a0.Fields.length : Int), 0, ([] : List (Nat × C .e9 × C .e3)), 0)) := by kernel_rfl
  simp only [h, G96n, m96_0]
noncomputable def G96 (a0 : VGateShape) (a1 : List (C .e9)) : Option (Bool) := G96n fuel a0 a1
noncomputable def con96 : Con C := { R0 := Bool, ret := fun r => [(false, [.bool r])], g := fun vs => match vs with
  | [.agg [.str y0_0, .row .e100 y0_1], .one (.row .e9 y1)] => G96 ⟨y0_0, y0_1⟩ y1
  | _ => none }
theorem x96 (n : Nat) : XOk Go.Proofs.Try.prog (X96 n) := ⟨tks_ok, els_ok, mps_ok, meths_ok⟩
theorem q96 (n : Nat) : Cons Go.Proofs.Try.prog (X96 n) := ⟨lkR_ok (l := [(78, con78), (98, con98), (154, con154), (156, con156), (158, con158), (160, con160), (161, con161), (163, con163), (164, con164), (166, con166)]) ⟨c78, c98, c154, c156, c158, c160, c161, c163, c164, c166, trivial⟩, lkW_ok (l := []) trivial, lkI_ok (l := [(120, I120 n)]) ⟨i120 n, trivial⟩⟩
theorem c96 : ConOk Go.Proofs.Try.prog KK 96 con96 := by
  refine con_dec (x96 fuel) (q96 fuel) (by kernel_rfl) (f := 96) (fn := Go.Proofs.Try.f96) (c := bodyOf Go.Proofs.Try.f96) (by kernel_rfl) (by kernel_rfl) (by kernel_rfl) (nameB (by kernel_rfl)) con96 dec96 (fun rs r0 h => ?_) (fun vs r0 h => ?_)
  · unfold dec96 at h
    split at h
    · cases h; rfl
    · cases h
  · simp only [con96] at h
    split at h
    · rename_i y0_0 y0_1 y1
      exact ⟨Nat.le_of_ble_eq_true (by kernel_rfl), F96 fuel, (t96 fuel ⟨y0_0, y0_1⟩ y1).trans h⟩
    · cases h
/-! ### f67 loop.example/wharfdesk/impl.GateShapesOk -/
noncomputable def X67 : Cx C := { K := KK, tk := lk tks, con := lkC [(95, con95), (96, con96)], conw := lkC [], inl := lkA [], hold := [], mp := lk mps, meth := lkS meths, off := 4390912 }
def F67 (n : Nat) : Cf := { N := n, keep := [0, 2, 3, 5, 7, 10, 14, 15, 16, 17, 28, 29, 30, 31, 32, 38], live := lk [(0, [0, 3, 14, 15, 16]), (2, [3, 29, 30, 31])] }
def dec67 (rs : List (Bool × List (Lf C))) : Option (Bool) := match rs with
  | [(false, [.bool z0])] => some z0
  | _ => none
abbrev A67_1 : Type := List (C .e9) × List (C .e81) × Int × Int
def s67_1 : A67_1 → St C := fun (x1_0, x1_1, x1_2, x1_3) => { env := [(3, .one (.ref 100003 [])), (29, .one (.row .e81 x1_1)), (30, .one (.int .i64 x1_2)), (31, .one (.int .i64 x1_3))], objs := [(100003, .row .e9 x1_0 false)], base := 0 }
abbrev A67_0 : Type := List (C .e81) × List (C .e9) × List (C .e81) × Int × Int
def s67_0 : A67_0 → St C := fun (x0_0, x0_1, x0_2, x0_3, x0_4) => { env := [(0, .one (.row .e81 x0_0)), (3, .one (.ref 100003 [])), (14, .one (.row .e81 x0_2)), (15, .one (.int .i64 x0_3)), (16, .one (.int .i64 x0_4))], objs := [(100003, .row .e9 x0_1 false)], base := 0 }
noncomputable def r67_1 (n : Nat)  (rec1 : A67_1 → Option (Bool)) : A67_1 → Option (Bool) := fun (x1_0, x1_1, x1_2, x1_3) =>
      cond (decide (x1_3 < x1_2))
      (cond (decide (0 ≤ x1_3)) (Option.bind x1_1[x1_3.toNat]? fun x3 => Option.bind (G96 x3 x1_0) fun r4 =>
      cond (!r4)
      (some (false))
      (rec1 (x1_0, x1_1, x1_2, IntKind.i64.wrap (x1_3 + 1)))) none)
      (some (true))
noncomputable def LP67_1 (n : Nat)  (x : A67_1) : Option (Bool) := lpN (r67_1 n ) n x
noncomputable def MP67_1 (n : Nat)  (x : A67_1) : Option (Bool) := iter (fun rec S => run X67 (F67 n) (codeAt (bodyOf Go.Proofs.Try.f67) [1, 1, 1, 1, 1, 0, 1, 0, 0]) 2 S (lopK rec (blkK 2 (seqK (run X67 (F67 n) (codeAt (bodyOf Go.Proofs.Try.f67) [1, 1, 1, 1, 1, 1]) 0) (kTop X67 Go.Proofs.Try.f67 dec67))))) [3, 29, 30, 31] n (s67_1 x)
theorem m67_1 (n : Nat)  (x : A67_1) : MP67_1 n  x = LP67_1 n  x := by
  refine iter_eq s67_1 (r67_1 n ) (fun rec1 x => ?_) n x
  obtain ⟨x1_0, x1_1, x1_2, x1_3⟩ := x
  kernel_rfl
noncomputable def r67_0 (n : Nat)  (rec0 : A67_0 → Option (Bool)) : A67_0 → Option (Bool) := fun (x0_0, x0_1, x0_2, x0_3, x0_4) =>
      cond (decide (x0_4 < x0_3))
      (cond (decide (0 ≤ x0_4)) (Option.bind x0_2[x0_4.toNat]? fun x1 => cond (decide ((x0_1.length + (([x1.Kind] : List (C .e9))).length) * 16 ≤ 140737488355328)) (rec0 (x0_0, x0_1 ++ (([x1.Kind] : List (C .e9))), x0_2, x0_3, IntKind.i64.wrap (x0_4 + 1))) none) none)
      (Option.bind (G95 x0_1) fun r2 =>
      cond (!r2)
      (some (false))
      (LP67_1 n  (x0_1, x0_0, (x0_0.length : Int), 0)))
noncomputable def LP67_0 (n : Nat)  (x : A67_0) : Option (Bool) := lpN (r67_0 n ) n x
noncomputable def MP67_0 (n : Nat)  (x : A67_0) : Option (Bool) := iter (fun rec S => run X67 (F67 n) (codeAt (bodyOf Go.Proofs.Try.f67) [1, 1, 1, 0, 1, 0, 0]) 0 S (lopK rec (blkK 0 (seqK (run X67 (F67 n) (codeAt (bodyOf Go.Proofs.Try.f67) [1, 1, 1, 1]) 0) (kTop X67 Go.Proofs.Try.f67 dec67))))) [0, 3, 14, 15, 16] n (s67_0 x)
theorem m67_0 (n : Nat)  (x : A67_0) : MP67_0 n  x = LP67_0 n  x := by
  refine iter_eq s67_0 (r67_0 n ) (fun rec0 x => ?_) n x
  obtain ⟨x0_0, x0_1, x0_2, x0_3, x0_4⟩ := x
  have h : run X67 (F67 n) (codeAt (bodyOf Go.Proofs.Try.f67) [1, 1, 1, 0, 1, 0, 0]) 0 (s67_0 (x0_0, x0_1, x0_2, x0_3, x0_4)) (lopK (canThen [0, 3, 14, 15, 16] rec0) (blkK 0 (seqK (run X67 (F67 n) (codeAt (bodyOf Go.Proofs.Try.f67) [1, 1, 1, 1]) 0) (kTop X67 Go.Proofs.Try.f67 dec67)))) =
      cond (decide (x0_4 < x0_3))
      (cond (decide (0 ≤ x0_4)) (Option.bind x0_2[x0_4.toNat]? fun x1 => cond (decide ((x0_1.length + (([x1.Kind] : List (C .e9))).length) * 16 ≤ 140737488355328)) ((fun x => rec0 (s67_0 x)) (x0_0, x0_1 ++ (([x1.Kind] : List (C .e9))), x0_2, x0_3, IntKind.i64.wrap (x0_4 + 1))) none) none)
      (Option.bind (G95 x0_1) fun r2 =>
      cond (!r2)
      (some (false))
      (MP67_1 n  (x0_1, x0_0, (x0_0.length : Int), 0))) := by kernel_rfl
  simp only [m67_1] at h
  exact h
noncomputable def G67n (n : Nat) (a0 : List (C .e81)) : Option (Bool) :=
      cond (decide ((a0.length : Int) > 6))
      (some (false))
      (cond (decide ((0 : Int) ≤ (a0.length : Int))) (cond (decide ((a0.length : Int) * 16 ≤ 140737488355328)) (LP67_0 n  (a0, ([] : List (C .e9)), a0, (a0.length : Int), 0)) none) none)
theorem t67 (n : Nat) (a0 : List (C .e81)) : runFn X67 (F67 n) Go.Proofs.Try.f67 [.one (.row .e81 a0)] dec67 = G67n n a0 := by
  have h : runFn X67 (F67 n) Go.Proofs.Try.f67 [.one (.row .e81 a0)] dec67 =
      cond (decide ((a0.length : Int) > 6))
      (some (false))
      (cond (decide ((0 : Int) ≤ (a0.length : Int))) (cond (decide ((a0.length : Int) * 16 ≤ 140737488355328)) (MP67_0 n  (a0, ([] : List (C .e9)), a0, (a0.length : Int), 0)) none) none) := by kernel_rfl
  simp only [h, G67n, m67_0]
noncomputable def G67 (a0 : List (C .e81)) : Option (Bool) := G67n fuel a0
noncomputable def con67 : Con C := { R0 := Bool, ret := fun r => [(false, [.bool r])], g := fun vs => match vs with
  | [.one (.row .e81 y0)] => G67 y0
  | _ => none }
theorem x67 : XOk Go.Proofs.Try.prog X67 := ⟨tks_ok, els_ok, mps_ok, meths_ok⟩
theorem q67 : Cons Go.Proofs.Try.prog X67 := ⟨lkR_ok (l := [(95, con95), (96, con96)]) ⟨c95, c96, trivial⟩, lkW_ok (l := []) trivial, lkI_ok (l := []) trivial⟩
theorem c67 : ConOk Go.Proofs.Try.prog KK 67 con67 := by
  refine con_dec x67 q67 (by kernel_rfl) (f := 67) (fn := Go.Proofs.Try.f67) (c := bodyOf Go.Proofs.Try.f67) (by kernel_rfl) (by kernel_rfl) (by kernel_rfl) (nameB (by kernel_rfl)) con67 dec67 (fun rs r0 h => ?_) (fun vs r0 h => ?_)
  · unfold dec67 at h
    split at h
    · cases h; rfl
    · cases h
  · simp only [con67] at h
    split at h
    · rename_i y0
      exact ⟨Nat.le_of_ble_eq_true (by kernel_rfl), F67 fuel, (t67 fuel y0).trans h⟩
    · cases h
/-! ### f57 loop.example/wharfdesk/impl.placeOf -/
noncomputable def X57 : Cx C := { K := KK, tk := lk tks, con := lkC [], conw := lkC [], inl := lkA [], hold := [], mp := lk mps, meth := lkS meths, off := 3735552 }
def F57 (n : Nat) : Cf := { N := n, keep := [0, 1, 4, 5, 6, 7, 8, 9, 10, 17], live := lk [(0, [1, 7, 8, 9])] }
def dec57 (rs : List (Bool × List (Lf C))) : Option (Int) := match rs with
  | [(false, [.int .i64 z0])] => some z0
  | _ => none
abbrev A57_0 : Type := ByteArray × List (C .e100) × Int × Int
def s57_0 : A57_0 → St C := fun (x0_0, x0_1, x0_2, x0_3) => { env := [(1, .one (.str x0_0)), (7, .one (.row .e100 x0_1)), (8, .one (.int .i64 x0_2)), (9, .one (.int .i64 x0_3))], objs := [], base := 0 }
noncomputable def r57_0 (n : Nat)  (rec0 : A57_0 → Option (Int)) : A57_0 → Option (Int) := fun (x0_0, x0_1, x0_2, x0_3) =>
      cond (decide (x0_3 < x0_2))
      (cond (decide (0 ≤ x0_3)) (Option.bind x0_1[x0_3.toNat]? fun x1 => cond (decide (x1.Name = x0_0))
      (some (x0_3))
      (rec0 (x0_0, x0_1, x0_2, IntKind.i64.wrap (x0_3 + 1)))) none)
      (some ((-1)))
noncomputable def LP57_0 (n : Nat)  (x : A57_0) : Option (Int) := lpN (r57_0 n ) n x
noncomputable def MP57_0 (n : Nat)  (x : A57_0) : Option (Int) := iter (fun rec S => run X57 (F57 n) (codeAt (bodyOf Go.Proofs.Try.f57) [1, 0, 1, 0, 0]) 0 S (lopK rec (blkK 0 (seqK (run X57 (F57 n) (codeAt (bodyOf Go.Proofs.Try.f57) [1, 1]) 0) (kTop X57 Go.Proofs.Try.f57 dec57))))) [1, 7, 8, 9] n (s57_0 x)
theorem m57_0 (n : Nat)  (x : A57_0) : MP57_0 n  x = LP57_0 n  x := by
  refine iter_eq s57_0 (r57_0 n ) (fun rec0 x => ?_) n x
  obtain ⟨x0_0, x0_1, x0_2, x0_3⟩ := x
  kernel_rfl
noncomputable def G57n (n : Nat) (a0 : List (C .e100)) (a1 : ByteArray) : Option (Int) :=
      LP57_0 n  (a1, a0, (a0.length : Int), 0)
theorem t57 (n : Nat) (a0 : List (C .e100)) (a1 : ByteArray) : runFn X57 (F57 n) Go.Proofs.Try.f57 [.one (.row .e100 a0), .one (.str a1)] dec57 = G57n n a0 a1 := by
  have h : runFn X57 (F57 n) Go.Proofs.Try.f57 [.one (.row .e100 a0), .one (.str a1)] dec57 =
      MP57_0 n  (a1, a0, (a0.length : Int), 0) := by kernel_rfl
  simp only [h, G57n, m57_0]
noncomputable def G57 (a0 : List (C .e100)) (a1 : ByteArray) : Option (Int) := G57n fuel a0 a1
noncomputable def con57 : Con C := { R0 := Int, ret := fun r => [(false, [.int .i64 r])], g := fun vs => match vs with
  | [.one (.row .e100 y0), .one (.str y1)] => G57 y0 y1
  | _ => none }
theorem x57 : XOk Go.Proofs.Try.prog X57 := ⟨tks_ok, els_ok, mps_ok, meths_ok⟩
theorem q57 : Cons Go.Proofs.Try.prog X57 := ⟨lkR_ok (l := []) trivial, lkW_ok (l := []) trivial, lkI_ok (l := []) trivial⟩
theorem c57 : ConOk Go.Proofs.Try.prog KK 57 con57 := by
  refine con_dec x57 q57 (by kernel_rfl) (f := 57) (fn := Go.Proofs.Try.f57) (c := bodyOf Go.Proofs.Try.f57) (by kernel_rfl) (by kernel_rfl) (by kernel_rfl) (nameB (by kernel_rfl)) con57 dec57 (fun rs r0 h => ?_) (fun vs r0 h => ?_)
  · unfold dec57 at h
    split at h
    · cases h; rfl
    · cases h
  · simp only [con57] at h
    split at h
    · rename_i y0 y1
      exact ⟨Nat.le_of_ble_eq_true (by kernel_rfl), F57 fuel, (t57 fuel y0 y1).trans h⟩
    · cases h
/-! ### f97 loop.example/wharfdesk/impl.mendOk$1 -/
noncomputable def X97 : Cx C := { K := KK, tk := lk tks, con := lkC [(57, con57)], conw := lkC [], inl := lkA [], hold := [], mp := lk mps, meth := lkS meths, off := 6356992 }
def F97 (n : Nat) : Cf := { N := n, keep := [0, 1, 3, 4], live := lk [] }
def dec97 (rs : List (Bool × List (Lf C))) : Option (Bool) := match rs with
  | [(false, [.bool z0])] => some z0
  | _ => none
noncomputable def G97n (n : Nat) (a0 : ByteArray) (a1 : C .e60) : Option (Bool) :=
      Option.bind (G57 a1 a0) fun r1 =>
      cond (decide (r1 ≥ 0))
      (cond (decide (0 ≤ r1)) (Option.bind a1[r1.toNat]? fun x2 => some (x2.Kind != 4)) none)
      (some (false))
theorem t97 (n : Nat) (a0 : ByteArray) (a1 : C .e60) : runFn X97 (F97 n) Go.Proofs.Try.f97 [.one (.str a0), .one (.elt .e60 a1 0)] dec97 = G97n n a0 a1 := by
  kernel_rfl
noncomputable def G97 (a0 : ByteArray) (a1 : C .e60) : Option (Bool) := G97n fuel a0 a1
noncomputable def con97 : Con C := { R0 := Bool, pt := [none, some .e60], ret := fun r => [(false, [.bool r])], g := fun vs => match vs with
  | [.one (.str y0), .one (.elt .e60 y1 0)] => G97 y0 y1
  | _ => none }
theorem x97 : XOk Go.Proofs.Try.prog X97 := ⟨tks_ok, els_ok, mps_ok, meths_ok⟩
theorem q97 : Cons Go.Proofs.Try.prog X97 := ⟨lkR_ok (l := [(57, con57)]) ⟨c57, trivial⟩, lkW_ok (l := []) trivial, lkI_ok (l := []) trivial⟩
theorem c97 : ConOk Go.Proofs.Try.prog KK 97 con97 := by
  refine con_dec x97 q97 (by kernel_rfl) (f := 97) (fn := Go.Proofs.Try.f97) (c := bodyOf Go.Proofs.Try.f97) (by kernel_rfl) (by kernel_rfl) (by kernel_rfl) (nameB (by kernel_rfl)) con97 dec97 (fun rs r0 h => ?_) (fun vs r0 h => ?_)
  · unfold dec97 at h
    split at h
    · cases h; rfl
    · cases h
  · simp only [con97] at h
    split at h
    · rename_i y0 y1
      exact ⟨Nat.le_of_ble_eq_true (by kernel_rfl), F97 fuel, (t97 fuel y0 y1).trans h⟩
    · cases h
/-! ### f68 loop.example/wharfdesk/impl.mendOk -/
noncomputable def X68 : Cx C := { K := KK, tk := lk tks, con := lkC [(57, con57), (97, con97), (98, con98)], conw := lkC [], inl := lkA [], hold := [], mp := lk mps, meth := lkS meths, off := 4456448 }
def F68 (n : Nat) : Cf := { N := n, keep := [0, 1, 2, 3, 4, 5, 35, 66], live := lk [] }
def dec68 (rs : List (Bool × List (Lf C))) : Option (Bool) := match rs with
  | [(false, [.bool z0])] => some z0
  | _ => none
noncomputable def G68n (n : Nat) (a0 : List (C .e100)) (a1 : VGateMend) : Option (Bool) :=
      Option.bind (G97 a1.Field a0) fun r1 =>
      cond (!r1)
      (some (false))
      (cond (!decide (a1.When = (⟨#[]⟩ : ByteArray)))
      (Option.bind (G97 a1.When a0) fun r2 =>
      cond (!r2)
      (some (false))
      (cond (!decide (a1.From = (⟨#[]⟩ : ByteArray)))
      (Option.bind (G97 a1.From a0) fun r3 =>
      cond (!r3)
      (some (false))
      (cond (decide (a1.When = a1.Field))
      (some (false))
      (cond (decide (a1.From = a1.Field))
      (some (false))
      (cond (decide (a1.When = (⟨#[]⟩ : ByteArray)))
      (cond (!decide (a1.Is = (⟨#[]⟩ : ByteArray)))
      (some (false))
      (cond ((decide (a1.Put = (⟨#[]⟩ : ByteArray))) == (decide (a1.From = (⟨#[]⟩ : ByteArray))))
      (some (false))
      (cond (decide (a1.Put = (⟨#[]⟩ : ByteArray)))
      (some (true))
      (Option.bind (G57 a0 a1.Field) fun r4 =>
      cond (decide (0 ≤ r4)) (Option.bind a0[r4.toNat]? fun x5 => Option.bind (G98 x5 a1.Put) fun r6 =>
      some (r6)) none))))
      (cond ((decide (a1.Put = (⟨#[]⟩ : ByteArray))) == (decide (a1.From = (⟨#[]⟩ : ByteArray))))
      (some (false))
      (cond (decide (a1.Put = (⟨#[]⟩ : ByteArray)))
      (some (true))
      (Option.bind (G57 a0 a1.Field) fun r7 =>
      cond (decide (0 ≤ r7)) (Option.bind a0[r7.toNat]? fun x8 => Option.bind (G98 x8 a1.Put) fun r9 =>
      some (r9)) none)))))))
      (cond (decide (a1.When = a1.Field))
      (some (false))
      (cond (decide (a1.From = a1.Field))
      (some (false))
      (cond (decide (a1.When = (⟨#[]⟩ : ByteArray)))
      (cond (!decide (a1.Is = (⟨#[]⟩ : ByteArray)))
      (some (false))
      (cond ((decide (a1.Put = (⟨#[]⟩ : ByteArray))) == (decide (a1.From = (⟨#[]⟩ : ByteArray))))
      (some (false))
      (cond (decide (a1.Put = (⟨#[]⟩ : ByteArray)))
      (some (true))
      (Option.bind (G57 a0 a1.Field) fun r10 =>
      cond (decide (0 ≤ r10)) (Option.bind a0[r10.toNat]? fun x11 => Option.bind (G98 x11 a1.Put) fun r12 =>
      some (r12)) none))))
      (cond ((decide (a1.Put = (⟨#[]⟩ : ByteArray))) == (decide (a1.From = (⟨#[]⟩ : ByteArray))))
      (some (false))
      (cond (decide (a1.Put = (⟨#[]⟩ : ByteArray)))
      (some (true))
      (Option.bind (G57 a0 a1.Field) fun r13 =>
      cond (decide (0 ≤ r13)) (Option.bind a0[r13.toNat]? fun x14 => Option.bind (G98 x14 a1.Put) fun r15 =>
      some (r15)) none))))))))
      (cond (!decide (a1.From = (⟨#[]⟩ : ByteArray)))
      (Option.bind (G97 a1.From a0) fun r16 =>
      cond (!r16)
      (some (false))
      (cond (decide (a1.When = a1.Field))
      (some (false))
      (cond (decide (a1.From = a1.Field))
      (some (false))
      (cond (decide (a1.When = (⟨#[]⟩ : ByteArray)))
      (cond (!decide (a1.Is = (⟨#[]⟩ : ByteArray)))
      (some (false))
      (cond ((decide (a1.Put = (⟨#[]⟩ : ByteArray))) == (decide (a1.From = (⟨#[]⟩ : ByteArray))))
      (some (false))
      (cond (decide (a1.Put = (⟨#[]⟩ : ByteArray)))
      (some (true))
      (Option.bind (G57 a0 a1.Field) fun r17 =>
      cond (decide (0 ≤ r17)) (Option.bind a0[r17.toNat]? fun x18 => Option.bind (G98 x18 a1.Put) fun r19 =>
      some (r19)) none))))
      (cond ((decide (a1.Put = (⟨#[]⟩ : ByteArray))) == (decide (a1.From = (⟨#[]⟩ : ByteArray))))
      (some (false))
      (cond (decide (a1.Put = (⟨#[]⟩ : ByteArray)))
      (some (true))
      (Option.bind (G57 a0 a1.Field) fun r20 =>
      cond (decide (0 ≤ r20)) (Option.bind a0[r20.toNat]? fun x21 => Option.bind (G98 x21 a1.Put) fun r22 =>
      some (r22)) none)))))))
      (cond (decide (a1.When = a1.Field))
      (some (false))
      (cond (decide (a1.From = a1.Field))
      (some (false))
      (cond (decide (a1.When = (⟨#[]⟩ : ByteArray)))
      (cond (!decide (a1.Is = (⟨#[]⟩ : ByteArray)))
      (some (false))
      (cond ((decide (a1.Put = (⟨#[]⟩ : ByteArray))) == (decide (a1.From = (⟨#[]⟩ : ByteArray))))
      (some (false))
      (cond (decide (a1.Put = (⟨#[]⟩ : ByteArray)))
      (some (true))
      (Option.bind (G57 a0 a1.Field) fun r23 =>
      cond (decide (0 ≤ r23)) (Option.bind a0[r23.toNat]? fun x24 => Option.bind (G98 x24 a1.Put) fun r25 =>
      some (r25)) none))))
      (cond ((decide (a1.Put = (⟨#[]⟩ : ByteArray))) == (decide (a1.From = (⟨#[]⟩ : ByteArray))))
      (some (false))
      (cond (decide (a1.Put = (⟨#[]⟩ : ByteArray)))
      (some (true))
      (Option.bind (G57 a0 a1.Field) fun r26 =>
      cond (decide (0 ≤ r26)) (Option.bind a0[r26.toNat]? fun x27 => Option.bind (G98 x27 a1.Put) fun r28 =>
      some (r28)) none))))))))
theorem t68 (n : Nat) (a0 : List (C .e100)) (a1 : VGateMend) : runFn X68 (F68 n) Go.Proofs.Try.f68 [.one (.row .e100 a0), .agg [.str a1.Kind, .str a1.Field, .str a1.When, .str a1.Is, .str a1.Put, .str a1.From]] dec68 = G68n n a0 a1 := by
  kernel_rfl
noncomputable def G68 (a0 : List (C .e100)) (a1 : VGateMend) : Option (Bool) := G68n fuel a0 a1
noncomputable def con68 : Con C := { R0 := Bool, ret := fun r => [(false, [.bool r])], g := fun vs => match vs with
  | [.one (.row .e100 y0), .agg [.str y1_0, .str y1_1, .str y1_2, .str y1_3, .str y1_4, .str y1_5]] => G68 y0 ⟨y1_0, y1_1, y1_2, y1_3, y1_4, y1_5⟩
  | _ => none }
theorem x68 : XOk Go.Proofs.Try.prog X68 := ⟨tks_ok, els_ok, mps_ok, meths_ok⟩
theorem q68 : Cons Go.Proofs.Try.prog X68 := ⟨lkR_ok (l := [(57, con57), (97, con97), (98, con98)]) ⟨c57, c97, c98, trivial⟩, lkW_ok (l := []) trivial, lkI_ok (l := []) trivial⟩
theorem c68 : ConOk Go.Proofs.Try.prog KK 68 con68 := by
  refine con_dec x68 q68 (by kernel_rfl) (f := 68) (fn := Go.Proofs.Try.f68) (c := bodyOf Go.Proofs.Try.f68) (by kernel_rfl) (by kernel_rfl) (by kernel_rfl) (nameB (by kernel_rfl)) con68 dec68 (fun rs r0 h => ?_) (fun vs r0 h => ?_)
  · unfold dec68 at h
    split at h
    · cases h; rfl
    · cases h
  · simp only [con68] at h
    split at h
    · rename_i y0 y1_0 y1_1 y1_2 y1_3 y1_4 y1_5
      exact ⟨Nat.le_of_ble_eq_true (by kernel_rfl), F68 fuel, (t68 fuel y0 ⟨y1_0, y1_1, y1_2, y1_3, y1_4, y1_5⟩).trans h⟩
    · cases h

end Go.Proofs.Ytkiognopoigbhaa.Ab
