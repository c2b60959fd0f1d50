/- The functions that the law calls, written plainly, and their contracts: each call answers what its plain function answers. No conditions. -/
import Derived.Test.YtkiognopoigbhaaKd
import Derived.Test.YtkiognopoigbhaaAw4
import Derived.Test.YtkiognopoigbhaaAi3
import Derived.Test.YtkiognopoigbhaaAu1
set_option linter.unusedVariables false
namespace Go.Proofs.Ytkiognopoigbhaa.Ab
open Go Go.RowKit
def fuel : Nat := 4611686018427387904
def lkC {α : Type 1} : List (Nat × α) → Nat → Option α
  | [], _ => none
  | (m, v) :: r, n => cond (Nat.beq n m) (some v) (lkC r n)
def allR (P : Program) (K : Cd C) : List (Nat × Con C) → Prop
  | [] => True
  | (f, c) :: r => ConOk P K f c ∧ allR P K r
def allW (P : Program) (K : Cd C) : List (Nat × ConW C) → Prop
  | [] => True
  | (f, c) :: r => ConWOk P K f c ∧ allW P K r
theorem lkR_ok {P : Program} {K : Cd C} : ∀ {l : List (Nat × Con C)}, allR P K l → ∀ f c, lkC l f = some c → ConOk P K f c
  | [], _, f, c, h => by cases h
  | (m, v) :: r, ha, f, c, h => by
    simp only [lkC] at h
    cases hb : Nat.beq f m with
    | true => rw [hb] at h; cases h; have := Nat.eq_of_beq_eq_true hb; subst this; exact ha.1
    | false => rw [hb] at h; exact lkR_ok ha.2 f c h
theorem lkW_ok {P : Program} {K : Cd C} : ∀ {l : List (Nat × ConW C)}, allW P K l → ∀ f c, lkC l f = some c → ConWOk P K f c
  | [], _, f, c, h => by cases h
  | (m, v) :: r, ha, f, c, h => by
    simp only [lkC] at h
    cases hb : Nat.beq f m with
    | true => rw [hb] at h; cases h; have := Nat.eq_of_beq_eq_true hb; subst this; exact ha.1
    | false => rw [hb] at h; exact lkW_ok ha.2 f c h
theorem nameB {s t : String} (h : (s == t) = false) : s ≠ t := by simpa using h
/-! ### f46 loop.example/wharfdesk/laws.szStringS -/
noncomputable def X46 : Cx C := { K := KK, tk := lk tks, con := lkC [], conw := lkC [], inl := lkA [], hold := [], mp := lk mps, meth := lkS meths, off := 3014656 }
def F46 (n : Nat) : Cf := { N := n, keep := [0, 1, 4, 5, 11, 15, 26], live := lk [(0, [0, 1, 5])] }
def dec46 (rs : List (Bool × List (Lf C))) : Option (Int) := match rs with
  | [(false, [.int .i64 z0])] => some z0
  | _ => none
abbrev A46_0 : Type := List (C .e9) × Int × Int
def s46_0 : A46_0 → St C := fun (x0_0, x0_1, x0_2) => { env := [(0, .one (.row .e9 x0_0)), (1, .one (.int .i64 x0_1)), (5, .one (.int .i64 x0_2))], objs := [], base := 0 }
noncomputable def r46_0 (n : Nat)  (rec0 : A46_0 → Option (Int)) : A46_0 → Option (Int) := fun (x0_0, x0_1, x0_2) =>
      cond (decide (x0_2 < (x0_0.length : Int)))
      (cond (decide (0 ≤ x0_2)) (Option.bind x0_0[x0_2.toNat]? fun x1 => cond (decide ((IntKind.i64.wrap (x0_1 - (x1.size : Int))) < 0))
      (some ((-1)))
      (rec0 (x0_0, IntKind.i64.wrap (x0_1 - (x1.size : Int)), IntKind.i64.wrap (x0_2 + 1)))) none)
      (some (x0_1))
noncomputable def LP46_0 (n : Nat)  (x : A46_0) : Option (Int) := lpN (r46_0 n ) n x
noncomputable def MP46_0 (n : Nat)  (x : A46_0) : Option (Int) := iter (fun rec S => run X46 (F46 n) (codeAt (bodyOf Go.Proofs.Try.f46) [1, 1, 1, 0, 1, 0, 0]) 0 S (lopK rec (blkK 0 (seqK (run X46 (F46 n) (codeAt (bodyOf Go.Proofs.Try.f46) [1, 1, 1, 1]) 0) (kTop X46 Go.Proofs.Try.f46 dec46))))) [0, 1, 5] n (s46_0 x)
theorem m46_0 (n : Nat)  (x : A46_0) : MP46_0 n  x = LP46_0 n  x := by
  refine iter_eq s46_0 (r46_0 n ) (fun rec0 x => ?_) n x
  obtain ⟨x0_0, x0_1, x0_2⟩ := x
  kernel_rfl
noncomputable def G46n (n : Nat) (a0 : List (C .e9)) (a1 : Int) : Option (Int) :=
      cond (decide ((IntKind.i64.wrap (a1 - (a0.length : Int))) < 0))
      (some ((-1)))
      (LP46_0 n  (a0, IntKind.i64.wrap (a1 - (a0.length : Int)), 0))
theorem t46 (n : Nat) (a0 : List (C .e9)) (a1 : Int) : runFn X46 (F46 n) Go.Proofs.Try.f46 [.one (.row .e9 a0), .one (.int .i64 a1)] dec46 = G46n n a0 a1 := by
  have h : runFn X46 (F46 n) Go.Proofs.Try.f46 [.one (.row .e9 a0), .one (.int .i64 a1)] dec46 =
      cond (decide ((IntKind.i64.wrap (a1 - (a0.length : Int))) < 0))
      (some ((-1)))
      (MP46_0 n  (a0, IntKind.i64.wrap (a1 - (a0.length : Int)), 0)) := by kernel_rfl
  simp only [h, G46n, m46_0]
noncomputable def G46 (a0 : List (C .e9)) (a1 : Int) : Option (Int) := G46n fuel a0 a1
noncomputable def con46 : Con C := { R0 := Int, ret := fun r => [(false, [.int .i64 r])], g := fun vs => match vs with
  | [.one (.row .e9 y0), .one (.int .i64 y1)] => G46 y0 y1
  | _ => none }
theorem x46 : XOk Go.Proofs.Try.prog X46 := ⟨tks_ok, els_ok, mps_ok, meths_ok⟩
theorem q46 : Cons Go.Proofs.Try.prog X46 := ⟨lkR_ok (l := []) trivial, lkW_ok (l := []) trivial, lkI_ok (l := []) trivial⟩
theorem c46 : ConOk Go.Proofs.Try.prog KK 46 con46 := by
  refine con_dec x46 q46 (by kernel_rfl) (f := 46) (fn := Go.Proofs.Try.f46) (c := bodyOf Go.Proofs.Try.f46) (by kernel_rfl) (by kernel_rfl) (by kernel_rfl) (nameB (by kernel_rfl)) con46 dec46 (fun rs r0 h => ?_) (fun vs r0 h => ?_)
  · unfold dec46 at h
    split at h
    · cases h; rfl
    · cases h
  · simp only [con46] at h
    split at h
    · rename_i y0 y1
      exact ⟨Nat.le_of_ble_eq_true (by kernel_rfl), F46 fuel, (t46 fuel y0 y1).trans h⟩
    · cases h
/-! ### f107 loop.example/wharfdesk/laws.szGateField -/
noncomputable def X107 : Cx C := { K := KK, tk := lk tks, con := lkC [(46, con46)], conw := lkC [], inl := lkA [], hold := [], mp := lk mps, meth := lkS meths, off := 7012352 }
def F107 (n : Nat) : Cf := { N := n, keep := [0, 1, 2, 4, 11, 17, 24, 31, 38], live := lk [] }
def dec107 (rs : List (Bool × List (Lf C))) : Option (Int) := match rs with
  | [(false, [.int .i64 z0])] => some z0
  | _ => none
noncomputable def G107n (n : Nat) (a0 : VGateField) (a1 : Int) : Option (Int) :=
      cond (decide ((IntKind.i64.wrap (a1 - (a0.Name.size : Int))) < 0))
      (some ((-1)))
      (Option.bind (G46 a0.Words (IntKind.i64.wrap (a1 - (a0.Name.size : Int)))) fun r1 =>
      cond (decide (r1 < 0))
      (some ((-1)))
      (cond (decide ((IntKind.i64.wrap (r1 - (a0.To.size : Int))) < 0))
      (some ((-1)))
      (cond (decide ((IntKind.i64.wrap ((IntKind.i64.wrap (r1 - (a0.To.size : Int))) - (a0.Default.size : Int))) < 0))
      (some ((-1)))
      (cond (decide ((IntKind.i64.wrap ((IntKind.i64.wrap ((IntKind.i64.wrap (r1 - (a0.To.size : Int))) - (a0.Default.size : Int))) - (a0.Weighs.size : Int))) < 0))
      (some ((-1)))
      (some (IntKind.i64.wrap ((IntKind.i64.wrap ((IntKind.i64.wrap (r1 - (a0.To.size : Int))) - (a0.Default.size : Int))) - (a0.Weighs.size : Int))))))))
theorem t107 (n : Nat) (a0 : VGateField) (a1 : Int) : runFn X107 (F107 n) Go.Proofs.Try.f107 [.agg [.str a0.Name, .int .i64 a0.Kind, .int .i64 a0.Least, .int .i64 a0.Most, .row .e9 a0.Words, .str a0.To, .int .i64 a0.Role, .bool a0.Must, .bool a0.Fixed, .str a0.Default, .str a0.Weighs], .one (.int .i64 a1)] dec107 = G107n n a0 a1 := by
  kernel_rfl
noncomputable def G107 (a0 : VGateField) (a1 : Int) : Option (Int) := G107n fuel a0 a1
noncomputable def con107 : Con C := { R0 := Int, ret := fun r => [(false, [.int .i64 r])], g := fun vs => match vs with
  | [.agg [.str y0_0, .int .i64 y0_1, .int .i64 y0_2, .int .i64 y0_3, .row .e9 y0_4, .str y0_5, .int .i64 y0_6, .bool y0_7, .bool y0_8, .str y0_9, .str y0_10], .one (.int .i64 y1)] => G107 ⟨y0_0, y0_1, y0_2, y0_3, y0_4, y0_5, y0_6, y0_7, y0_8, y0_9, y0_10⟩ y1
  | _ => none }
theorem x107 : XOk Go.Proofs.Try.prog X107 := ⟨tks_ok, els_ok, mps_ok, meths_ok⟩
theorem q107 : Cons Go.Proofs.Try.prog X107 := ⟨lkR_ok (l := [(46, con46)]) ⟨c46, trivial⟩, lkW_ok (l := []) trivial, lkI_ok (l := []) trivial⟩
theorem c107 : ConOk Go.Proofs.Try.prog KK 107 con107 := by
  refine con_dec x107 q107 (by kernel_rfl) (f := 107) (fn := Go.Proofs.Try.f107) (c := bodyOf Go.Proofs.Try.f107) (by kernel_rfl) (by kernel_rfl) (by kernel_rfl) (nameB (by kernel_rfl)) con107 dec107 (fun rs r0 h => ?_) (fun vs r0 h => ?_)
  · unfold dec107 at h
    split at h
    · cases h; rfl
    · cases h
  · simp only [con107] at h
    split at h
    · rename_i y0_0 y0_1 y0_2 y0_3 y0_4 y0_5 y0_6 y0_7 y0_8 y0_9 y0_10 y1
      exact ⟨Nat.le_of_ble_eq_true (by kernel_rfl), F107 fuel, (t107 fuel ⟨y0_0, y0_1, y0_2, y0_3, y0_4, y0_5, y0_6, y0_7, y0_8, y0_9, y0_10⟩ y1).trans h⟩
    · cases h
/-! ### f81 loop.example/wharfdesk/laws.szGateFieldS -/
noncomputable def X81 : Cx C := { K := KK, tk := lk tks, con := lkC [(107, con107)], conw := lkC [], inl := lkA [], hold := [], mp := lk mps, meth := lkS meths, off := 5308416 }
def F81 (n : Nat) : Cf := { N := n, keep := [0, 1, 4, 5, 11, 15, 25], live := lk [(0, [0, 1, 5])] }
def dec81 (rs : List (Bool × List (Lf C))) : Option (Int) := match rs with
  | [(false, [.int .i64 z0])] => some z0
  | _ => none
abbrev A81_0 : Type := List (C .e134) × Int × Int
def s81_0 : A81_0 → St C := fun (x0_0, x0_1, x0_2) => { env := [(0, .one (.row .e134 x0_0)), (1, .one (.int .i64 x0_1)), (5, .one (.int .i64 x0_2))], objs := [], base := 0 }
noncomputable def r81_0 (n : Nat)  (rec0 : A81_0 → Option (Int)) : A81_0 → Option (Int) := fun (x0_0, x0_1, x0_2) =>
      cond (decide (x0_2 < (x0_0.length : Int)))
      (cond (decide (0 ≤ x0_2)) (Option.bind x0_0[x0_2.toNat]? fun x1 => Option.bind (G107 x1 x0_1) fun r2 =>
      cond (decide (r2 < 0))
      (some ((-1)))
      (rec0 (x0_0, r2, IntKind.i64.wrap (x0_2 + 1)))) none)
      (some (x0_1))
noncomputable def LP81_0 (n : Nat)  (x : A81_0) : Option (Int) := lpN (r81_0 n ) n x
noncomputable def MP81_0 (n : Nat)  (x : A81_0) : Option (Int) := iter (fun rec S => run X81 (F81 n) (codeAt (bodyOf Go.Proofs.Try.f81) [1, 1, 1, 0, 1, 0, 0]) 0 S (lopK rec (blkK 0 (seqK (run X81 (F81 n) (codeAt (bodyOf Go.Proofs.Try.f81) [1, 1, 1, 1]) 0) (kTop X81 Go.Proofs.Try.f81 dec81))))) [0, 1, 5] n (s81_0 x)
theorem m81_0 (n : Nat)  (x : A81_0) : MP81_0 n  x = LP81_0 n  x := by
  refine iter_eq s81_0 (r81_0 n ) (fun rec0 x => ?_) n x
  obtain ⟨x0_0, x0_1, x0_2⟩ := x
  kernel_rfl
noncomputable def G81n (n : Nat) (a0 : List (C .e134)) (a1 : Int) : Option (Int) :=
      cond (decide ((IntKind.i64.wrap (a1 - (a0.length : Int))) < 0))
      (some ((-1)))
      (LP81_0 n  (a0, IntKind.i64.wrap (a1 - (a0.length : Int)), 0))
theorem t81 (n : Nat) (a0 : List (C .e134)) (a1 : Int) : runFn X81 (F81 n) Go.Proofs.Try.f81 [.one (.row .e134 a0), .one (.int .i64 a1)] dec81 = G81n n a0 a1 := by
  have h : runFn X81 (F81 n) Go.Proofs.Try.f81 [.one (.row .e134 a0), .one (.int .i64 a1)] dec81 =
      cond (decide ((IntKind.i64.wrap (a1 - (a0.length : Int))) < 0))
      (some ((-1)))
      (MP81_0 n  (a0, IntKind.i64.wrap (a1 - (a0.length : Int)), 0)) := by kernel_rfl
  simp only [h, G81n, m81_0]
noncomputable def G81 (a0 : List (C .e134)) (a1 : Int) : Option (Int) := G81n fuel a0 a1
noncomputable def con81 : Con C := { R0 := Int, ret := fun r => [(false, [.int .i64 r])], g := fun vs => match vs with
  | [.one (.row .e134 y0), .one (.int .i64 y1)] => G81 y0 y1
  | _ => none }
theorem x81 : XOk Go.Proofs.Try.prog X81 := ⟨tks_ok, els_ok, mps_ok, meths_ok⟩
theorem q81 : Cons Go.Proofs.Try.prog X81 := ⟨lkR_ok (l := [(107, con107)]) ⟨c107, trivial⟩, lkW_ok (l := []) trivial, lkI_ok (l := []) trivial⟩
theorem c81 : ConOk Go.Proofs.Try.prog KK 81 con81 := by
  refine con_dec x81 q81 (by kernel_rfl) (f := 81) (fn := Go.Proofs.Try.f81) (c := bodyOf Go.Proofs.Try.f81) (by kernel_rfl) (by kernel_rfl) (by kernel_rfl) (nameB (by kernel_rfl)) con81 dec81 (fun rs r0 h => ?_) (fun vs r0 h => ?_)
  · unfold dec81 at h
    split at h
    · cases h; rfl
    · cases h
  · simp only [con81] at h
    split at h
    · rename_i y0 y1
      exact ⟨Nat.le_of_ble_eq_true (by kernel_rfl), F81 fuel, (t81 fuel y0 y1).trans h⟩
    · cases h
/-! ### f44 loop.example/wharfdesk/laws.szGateShape -/
noncomputable def X44 : Cx C := { K := KK, tk := lk tks, con := lkC [(81, con81)], conw := lkC [], inl := lkA [], hold := [], mp := lk mps, meth := lkS meths, off := 2883584 }
def F44 (n : Nat) : Cf := { N := n, keep := [0, 1, 2, 4, 11, 17], live := lk [] }
def dec44 (rs : List (Bool × List (Lf C))) : Option (Int) := match rs with
  | [(false, [.int .i64 z0])] => some z0
  | _ => none
noncomputable def G44n (n : Nat) (a0 : VGateShape) (a1 : Int) : Option (Int) :=
      cond (decide ((IntKind.i64.wrap (a1 - (a0.Kind.size : Int))) < 0))
      (some ((-1)))
      (Option.bind (G81 a0.Fields (IntKind.i64.wrap (a1 - (a0.Kind.size : Int)))) fun r1 =>
      cond (decide (r1 < 0))
      (some ((-1)))
      (some (r1)))
theorem t44 (n : Nat) (a0 : VGateShape) (a1 : Int) : runFn X44 (F44 n) Go.Proofs.Try.f44 [.agg [.str a0.Kind, .row .e134 a0.Fields], .one (.int .i64 a1)] dec44 = G44n n a0 a1 := by
  kernel_rfl
noncomputable def G44 (a0 : VGateShape) (a1 : Int) : Option (Int) := G44n fuel a0 a1
noncomputable def con44 : Con C := { R0 := Int, ret := fun r => [(false, [.int .i64 r])], g := fun vs => match vs with
  | [.agg [.str y0_0, .row .e134 y0_1], .one (.int .i64 y1)] => G44 ⟨y0_0, y0_1⟩ y1
  | _ => none }
theorem x44 : XOk Go.Proofs.Try.prog X44 := ⟨tks_ok, els_ok, mps_ok, meths_ok⟩
theorem q44 : Cons Go.Proofs.Try.prog X44 := ⟨lkR_ok (l := [(81, con81)]) ⟨c81, trivial⟩, lkW_ok (l := []) trivial, lkI_ok (l := []) trivial⟩
theorem c44 : ConOk Go.Proofs.Try.prog KK 44 con44 := by
  refine con_dec x44 q44 (by kernel_rfl) (f := 44) (fn := Go.Proofs.Try.f44) (c := bodyOf Go.Proofs.Try.f44) (by kernel_rfl) (by kernel_rfl) (by kernel_rfl) (nameB (by kernel_rfl)) con44 dec44 (fun rs r0 h => ?_) (fun vs r0 h => ?_)
  · unfold dec44 at h
    split at h
    · cases h; rfl
    · cases h
  · simp only [con44] at h
    split at h
    · rename_i y0_0 y0_1 y1
      exact ⟨Nat.le_of_ble_eq_true (by kernel_rfl), F44 fuel, (t44 fuel ⟨y0_0, y0_1⟩ y1).trans h⟩
    · cases h
/-! ### f12 loop.example/wharfdesk/laws.szGateShapeS -/
noncomputable def X12 : Cx C := { K := KK, tk := lk tks, con := lkC [(44, con44)], conw := lkC [], inl := lkA [], hold := [], mp := lk mps, meth := lkS meths, off := 786432 }
def F12 (n : Nat) : Cf := { N := n, keep := [0, 1, 4, 5, 11, 15, 25], live := lk [(0, [0, 1, 5])] }
def dec12 (rs : List (Bool × List (Lf C))) : Option (Int) := match rs with
  | [(false, [.int .i64 z0])] => some z0
  | _ => none
abbrev A12_0 : Type := List (C .e74) × Int × Int
def s12_0 : A12_0 → St C := fun (x0_0, x0_1, x0_2) => { env := [(0, .one (.row .e74 x0_0)), (1, .one (.int .i64 x0_1)), (5, .one (.int .i64 x0_2))], objs := [], base := 0 }
noncomputable def r12_0 (n : Nat)  (rec0 : A12_0 → Option (Int)) : A12_0 → Option (Int) := fun (x0_0, x0_1, x0_2) =>
      cond (decide (x0_2 < (x0_0.length : Int)))
      (cond (decide (0 ≤ x0_2)) (Option.bind x0_0[x0_2.toNat]? fun x1 => Option.bind (G44 x1 x0_1) fun r2 =>
      cond (decide (r2 < 0))
      (some ((-1)))
      (rec0 (x0_0, r2, IntKind.i64.wrap (x0_2 + 1)))) none)
      (some (x0_1))
noncomputable def LP12_0 (n : Nat)  (x : A12_0) : Option (Int) := lpN (r12_0 n ) n x
noncomputable def MP12_0 (n : Nat)  (x : A12_0) : Option (Int) := iter (fun rec S => run X12 (F12 n) (codeAt (bodyOf Go.Proofs.Try.f12) [1, 1, 1, 0, 1, 0, 0]) 0 S (lopK rec (blkK 0 (seqK (run X12 (F12 n) (codeAt (bodyOf Go.Proofs.Try.f12) [1, 1, 1, 1]) 0) (kTop X12 Go.Proofs.Try.f12 dec12))))) [0, 1, 5] n (s12_0 x)
theorem m12_0 (n : Nat)  (x : A12_0) : MP12_0 n  x = LP12_0 n  x := by
  refine iter_eq s12_0 (r12_0 n ) (fun rec0 x => ?_) n x
  obtain ⟨x0_0, x0_1, x0_2⟩ := x
  kernel_rfl
noncomputable def G12n (n : Nat) (a0 : List (C .e74)) (a1 : Int) : Option (Int) :=
      cond (decide ((IntKind.i64.wrap (a1 - (a0.length : Int))) < 0))
      (some ((-1)))
      (LP12_0 n  (a0, IntKind.i64.wrap (a1 - (a0.length : Int)), 0))
theorem t12 (n : Nat) (a0 : List (C .e74)) (a1 : Int) : runFn X12 (F12 n) Go.Proofs.Try.f12 [.one (.row .e74 a0), .one (.int .i64 a1)] dec12 = G12n n a0 a1 := by
  have h : runFn X12 (F12 n) Go.Proofs.Try.f12 [.one (.row .e74 a0), .one (.int .i64 a1)] dec12 =
      cond (decide ((IntKind.i64.wrap (a1 - (a0.length : Int))) < 0))
      (some ((-1)))
      (MP12_0 n  (a0, IntKind.i64.wrap (a1 - (a0.length : Int)), 0)) := by kernel_rfl
  simp only [h, G12n, m12_0]
noncomputable def G12 (a0 : List (C .e74)) (a1 : Int) : Option (Int) := G12n fuel a0 a1
noncomputable def con12 : Con C := { R0 := Int, ret := fun r => [(false, [.int .i64 r])], g := fun vs => match vs with
  | [.one (.row .e74 y0), .one (.int .i64 y1)] => G12 y0 y1
  | _ => none }
theorem x12 : XOk Go.Proofs.Try.prog X12 := ⟨tks_ok, els_ok, mps_ok, meths_ok⟩
theorem q12 : Cons Go.Proofs.Try.prog X12 := ⟨lkR_ok (l := [(44, con44)]) ⟨c44, trivial⟩, lkW_ok (l := []) trivial, lkI_ok (l := []) trivial⟩
theorem c12 : ConOk Go.Proofs.Try.prog KK 12 con12 := by
  refine con_dec x12 q12 (by kernel_rfl) (f := 12) (fn := Go.Proofs.Try.f12) (c := bodyOf Go.Proofs.Try.f12) (by kernel_rfl) (by kernel_rfl) (by kernel_rfl) (nameB (by kernel_rfl)) con12 dec12 (fun rs r0 h => ?_) (fun vs r0 h => ?_)
  · unfold dec12 at h
    split at h
    · cases h; rfl
    · cases h
  · simp only [con12] at h
    split at h
    · rename_i y0 y1
      exact ⟨Nat.le_of_ble_eq_true (by kernel_rfl), F12 fuel, (t12 fuel y0 y1).trans h⟩
    · cases h
/-! ### f45 loop.example/wharfdesk/laws.szGateMend -/
noncomputable def X45 : Cx C := { K := KK, tk := lk tks, con := lkC [], conw := lkC [], inl := lkA [], hold := [], mp := lk mps, meth := lkS meths, off := 2949120 }
def F45 (n : Nat) : Cf := { N := n, keep := [0, 1, 2, 4, 11, 18, 25, 32, 39, 46], live := lk [] }
def dec45 (rs : List (Bool × List (Lf C))) : Option (Int) := match rs with
  | [(false, [.int .i64 z0])] => some z0
  | _ => none
noncomputable def G45n (n : Nat) (a0 : VGateMend) (a1 : Int) : Option (Int) :=
      cond (decide ((IntKind.i64.wrap (a1 - (a0.Kind.size : Int))) < 0))
      (some ((-1)))
      (cond (decide ((IntKind.i64.wrap ((IntKind.i64.wrap (a1 - (a0.Kind.size : Int))) - (a0.Field.size : Int))) < 0))
      (some ((-1)))
      (cond (decide ((IntKind.i64.wrap ((IntKind.i64.wrap ((IntKind.i64.wrap (a1 - (a0.Kind.size : Int))) - (a0.Field.size : Int))) - (a0.When.size : Int))) < 0))
      (some ((-1)))
      (cond (decide ((IntKind.i64.wrap ((IntKind.i64.wrap ((IntKind.i64.wrap ((IntKind.i64.wrap (a1 - (a0.Kind.size : Int))) - (a0.Field.size : Int))) - (a0.When.size : Int))) - (a0.Is.size : Int))) < 0))
      (some ((-1)))
      (cond (decide ((IntKind.i64.wrap ((IntKind.i64.wrap ((IntKind.i64.wrap ((IntKind.i64.wrap ((IntKind.i64.wrap (a1 - (a0.Kind.size : Int))) - (a0.Field.size : Int))) - (a0.When.size : Int))) - (a0.Is.size : Int))) - (a0.Put.size : Int))) < 0))
      (some ((-1)))
      (cond (decide ((IntKind.i64.wrap ((IntKind.i64.wrap ((IntKind.i64.wrap ((IntKind.i64.wrap ((IntKind.i64.wrap ((IntKind.i64.wrap (a1 - (a0.Kind.size : Int))) - (a0.Field.size : Int))) - (a0.When.size : Int))) - (a0.Is.size : Int))) - (a0.Put.size : Int))) - (a0.From.size : Int))) < 0))
      (some ((-1)))
      (some (IntKind.i64.wrap ((IntKind.i64.wrap ((IntKind.i64.wrap ((IntKind.i64.wrap ((IntKind.i64.wrap ((IntKind.i64.wrap (a1 - (a0.Kind.size : Int))) - (a0.Field.size : Int))) - (a0.When.size : Int))) - (a0.Is.size : Int))) - (a0.Put.size : Int))) - (a0.From.size : Int)))))))))
theorem t45 (n : Nat) (a0 : VGateMend) (a1 : Int) : runFn X45 (F45 n) Go.Proofs.Try.f45 [.agg [.str a0.Kind, .str a0.Field, .str a0.When, .str a0.Is, .str a0.Put, .str a0.From], .one (.int .i64 a1)] dec45 = G45n n a0 a1 := by
  kernel_rfl
noncomputable def G45 (a0 : VGateMend) (a1 : Int) : Option (Int) := G45n fuel a0 a1
noncomputable def con45 : Con C := { R0 := Int, ret := fun r => [(false, [.int .i64 r])], g := fun vs => match vs with
  | [.agg [.str y0_0, .str y0_1, .str y0_2, .str y0_3, .str y0_4, .str y0_5], .one (.int .i64 y1)] => G45 ⟨y0_0, y0_1, y0_2, y0_3, y0_4, y0_5⟩ y1
  | _ => none }
theorem x45 : XOk Go.Proofs.Try.prog X45 := ⟨tks_ok, els_ok, mps_ok, meths_ok⟩
theorem q45 : Cons Go.Proofs.Try.prog X45 := ⟨lkR_ok (l := []) trivial, lkW_ok (l := []) trivial, lkI_ok (l := []) trivial⟩
theorem c45 : ConOk Go.Proofs.Try.prog KK 45 con45 := by
  refine con_dec x45 q45 (by kernel_rfl) (f := 45) (fn := Go.Proofs.Try.f45) (c := bodyOf Go.Proofs.Try.f45) (by kernel_rfl) (by kernel_rfl) (by kernel_rfl) (nameB (by kernel_rfl)) con45 dec45 (fun rs r0 h => ?_) (fun vs r0 h => ?_)
  · unfold dec45 at h
    split at h
    · cases h; rfl
    · cases h
  · simp only [con45] at h
    split at h
    · rename_i y0_0 y0_1 y0_2 y0_3 y0_4 y0_5 y1
      exact ⟨Nat.le_of_ble_eq_true (by kernel_rfl), F45 fuel, (t45 fuel ⟨y0_0, y0_1, y0_2, y0_3, y0_4, y0_5⟩ y1).trans h⟩
    · cases h
/-! ### f13 loop.example/wharfdesk/laws.szGateMendS -/
noncomputable def X13 : Cx C := { K := KK, tk := lk tks, con := lkC [(45, con45)], conw := lkC [], inl := lkA [], hold := [], mp := lk mps, meth := lkS meths, off := 851968 }
def F13 (n : Nat) : Cf := { N := n, keep := [0, 1, 4, 5, 11, 15, 25], live := lk [(0, [0, 1, 5])] }
def dec13 (rs : List (Bool × List (Lf C))) : Option (Int) := match rs with
  | [(false, [.int .i64 z0])] => some z0
  | _ => none
abbrev A13_0 : Type := List (C .e77) × Int × Int
def s13_0 : A13_0 → St C := fun (x0_0, x0_1, x0_2) => { env := [(0, .one (.row .e77 x0_0)), (1, .one (.int .i64 x0_1)), (5, .one (.int .i64 x0_2))], objs := [], base := 0 }
noncomputable def r13_0 (n : Nat)  (rec0 : A13_0 → Option (Int)) : A13_0 → Option (Int) := fun (x0_0, x0_1, x0_2) =>
      cond (decide (x0_2 < (x0_0.length : Int)))
      (cond (decide (0 ≤ x0_2)) (Option.bind x0_0[x0_2.toNat]? fun x1 => Option.bind (G45 x1 x0_1) fun r2 =>
      cond (decide (r2 < 0))
      (some ((-1)))
      (rec0 (x0_0, r2, IntKind.i64.wrap (x0_2 + 1)))) none)
      (some (x0_1))
noncomputable def LP13_0 (n : Nat)  (x : A13_0) : Option (Int) := lpN (r13_0 n ) n x
noncomputable def MP13_0 (n : Nat)  (x : A13_0) : Option (Int) := iter (fun rec S => run X13 (F13 n) (codeAt (bodyOf Go.Proofs.Try.f13) [1, 1, 1, 0, 1, 0, 0]) 0 S (lopK rec (blkK 0 (seqK (run X13 (F13 n) (codeAt (bodyOf Go.Proofs.Try.f13) [1, 1, 1, 1]) 0) (kTop X13 Go.Proofs.Try.f13 dec13))))) [0, 1, 5] n (s13_0 x)
theorem m13_0 (n : Nat)  (x : A13_0) : MP13_0 n  x = LP13_0 n  x := by
  refine iter_eq s13_0 (r13_0 n ) (fun rec0 x => ?_) n x
  obtain ⟨x0_0, x0_1, x0_2⟩ := x
  kernel_rfl
noncomputable def G13n (n : Nat) (a0 : List (C .e77)) (a1 : Int) : Option (Int) :=
      cond (decide ((IntKind.i64.wrap (a1 - (a0.length : Int))) < 0))
      (some ((-1)))
      (LP13_0 n  (a0, IntKind.i64.wrap (a1 - (a0.length : Int)), 0))
theorem t13 (n : Nat) (a0 : List (C .e77)) (a1 : Int) : runFn X13 (F13 n) Go.Proofs.Try.f13 [.one (.row .e77 a0), .one (.int .i64 a1)] dec13 = G13n n a0 a1 := by
  have h : runFn X13 (F13 n) Go.Proofs.Try.f13 [.one (.row .e77 a0), .one (.int .i64 a1)] dec13 =
      cond (decide ((IntKind.i64.wrap (a1 - (a0.length : Int))) < 0))
      (some ((-1)))
      (MP13_0 n  (a0, IntKind.i64.wrap (a1 - (a0.length : Int)), 0)) := by kernel_rfl
  simp only [h, G13n, m13_0]
noncomputable def G13 (a0 : List (C .e77)) (a1 : Int) : Option (Int) := G13n fuel a0 a1
noncomputable def con13 : Con C := { R0 := Int, ret := fun r => [(false, [.int .i64 r])], g := fun vs => match vs with
  | [.one (.row .e77 y0), .one (.int .i64 y1)] => G13 y0 y1
  | _ => none }
theorem x13 : XOk Go.Proofs.Try.prog X13 := ⟨tks_ok, els_ok, mps_ok, meths_ok⟩
theorem q13 : Cons Go.Proofs.Try.prog X13 := ⟨lkR_ok (l := [(45, con45)]) ⟨c45, trivial⟩, lkW_ok (l := []) trivial, lkI_ok (l := []) trivial⟩
theorem c13 : ConOk Go.Proofs.Try.prog KK 13 con13 := by
  refine con_dec x13 q13 (by kernel_rfl) (f := 13) (fn := Go.Proofs.Try.f13) (c := bodyOf Go.Proofs.Try.f13) (by kernel_rfl) (by kernel_rfl) (by kernel_rfl) (nameB (by kernel_rfl)) con13 dec13 (fun rs r0 h => ?_) (fun vs r0 h => ?_)
  · unfold dec13 at h
    split at h
    · cases h; rfl
    · cases h
  · simp only [con13] at h
    split at h
    · rename_i y0 y1
      exact ⟨Nat.le_of_ble_eq_true (by kernel_rfl), F13 fuel, (t13 fuel y0 y1).trans h⟩
    · cases h
/-! ### f70 loop.example/wharfdesk/laws.szGateTeam -/
noncomputable def X70 : Cx C := { K := KK, tk := lk tks, con := lkC [], conw := lkC [], inl := lkA [], hold := [], mp := lk mps, meth := lkS meths, off := 4587520 }
def F70 (n : Nat) : Cf := { N := n, keep := [0, 1, 2, 4, 11, 18], live := lk [] }
def dec70 (rs : List (Bool × List (Lf C))) : Option (Int) := match rs with
  | [(false, [.int .i64 z0])] => some z0
  | _ => none
noncomputable def G70n (n : Nat) (a0 : VGateTeam) (a1 : Int) : Option (Int) :=
      cond (decide ((IntKind.i64.wrap (a1 - (a0.Name.size : Int))) < 0))
      (some ((-1)))
      (cond (decide ((IntKind.i64.wrap ((IntKind.i64.wrap (a1 - (a0.Name.size : Int))) - (a0.Over.size : Int))) < 0))
      (some ((-1)))
      (some (IntKind.i64.wrap ((IntKind.i64.wrap (a1 - (a0.Name.size : Int))) - (a0.Over.size : Int)))))
theorem t70 (n : Nat) (a0 : VGateTeam) (a1 : Int) : runFn X70 (F70 n) Go.Proofs.Try.f70 [.agg [.str a0.Name, .str a0.Over], .one (.int .i64 a1)] dec70 = G70n n a0 a1 := by
  kernel_rfl
noncomputable def G70 (a0 : VGateTeam) (a1 : Int) : Option (Int) := G70n fuel a0 a1
noncomputable def con70 : Con C := { R0 := Int, ret := fun r => [(false, [.int .i64 r])], g := fun vs => match vs with
  | [.agg [.str y0_0, .str y0_1], .one (.int .i64 y1)] => G70 ⟨y0_0, y0_1⟩ y1
  | _ => none }
theorem x70 : XOk Go.Proofs.Try.prog X70 := ⟨tks_ok, els_ok, mps_ok, meths_ok⟩
theorem q70 : Cons Go.Proofs.Try.prog X70 := ⟨lkR_ok (l := []) trivial, lkW_ok (l := []) trivial, lkI_ok (l := []) trivial⟩
theorem c70 : ConOk Go.Proofs.Try.prog KK 70 con70 := by
  refine con_dec x70 q70 (by kernel_rfl) (f := 70) (fn := Go.Proofs.Try.f70) (c := bodyOf Go.Proofs.Try.f70) (by kernel_rfl) (by kernel_rfl) (by kernel_rfl) (nameB (by kernel_rfl)) con70 dec70 (fun rs r0 h => ?_) (fun vs r0 h => ?_)
  · unfold dec70 at h
    split at h
    · cases h; rfl
    · cases h
  · simp only [con70] at h
    split at h
    · rename_i y0_0 y0_1 y1
      exact ⟨Nat.le_of_ble_eq_true (by kernel_rfl), F70 fuel, (t70 fuel ⟨y0_0, y0_1⟩ y1).trans h⟩
    · cases h
/-! ### f38 loop.example/wharfdesk/laws.szGateTeamS -/
noncomputable def X38 : Cx C := { K := KK, tk := lk tks, con := lkC [(70, con70)], conw := lkC [], inl := lkA [], hold := [], mp := lk mps, meth := lkS meths, off := 2490368 }
def F38 (n : Nat) : Cf := { N := n, keep := [0, 1, 4, 5, 11, 15, 25], live := lk [(0, [0, 1, 5])] }
def dec38 (rs : List (Bool × List (Lf C))) : Option (Int) := match rs with
  | [(false, [.int .i64 z0])] => some z0
  | _ => none
abbrev A38_0 : Type := List (C .e103) × Int × Int
def s38_0 : A38_0 → St C := fun (x0_0, x0_1, x0_2) => { env := [(0, .one (.row .e103 x0_0)), (1, .one (.int .i64 x0_1)), (5, .one (.int .i64 x0_2))], objs := [], base := 0 }
noncomputable def r38_0 (n : Nat)  (rec0 : A38_0 → Option (Int)) : A38_0 → Option (Int) := fun (x0_0, x0_1, x0_2) =>
      cond (decide (x0_2 < (x0_0.length : Int)))
      (cond (decide (0 ≤ x0_2)) (Option.bind x0_0[x0_2.toNat]? fun x1 => Option.bind (G70 x1 x0_1) fun r2 =>
      cond (decide (r2 < 0))
      (some ((-1)))
      (rec0 (x0_0, r2, IntKind.i64.wrap (x0_2 + 1)))) none)
      (some (x0_1))
noncomputable def LP38_0 (n : Nat)  (x : A38_0) : Option (Int) := lpN (r38_0 n ) n x
noncomputable def MP38_0 (n : Nat)  (x : A38_0) : Option (Int) := iter (fun rec S => run X38 (F38 n) (codeAt (bodyOf Go.Proofs.Try.f38) [1, 1, 1, 0, 1, 0, 0]) 0 S (lopK rec (blkK 0 (seqK (run X38 (F38 n) (codeAt (bodyOf Go.Proofs.Try.f38) [1, 1, 1, 1]) 0) (kTop X38 Go.Proofs.Try.f38 dec38))))) [0, 1, 5] n (s38_0 x)
theorem m38_0 (n : Nat)  (x : A38_0) : MP38_0 n  x = LP38_0 n  x := by
  refine iter_eq s38_0 (r38_0 n ) (fun rec0 x => ?_) n x
  obtain ⟨x0_0, x0_1, x0_2⟩ := x
  kernel_rfl
noncomputable def G38n (n : Nat) (a0 : List (C .e103)) (a1 : Int) : Option (Int) :=
      cond (decide ((IntKind.i64.wrap (a1 - (a0.length : Int))) < 0))
      (some ((-1)))
      (LP38_0 n  (a0, IntKind.i64.wrap (a1 - (a0.length : Int)), 0))
theorem t38 (n : Nat) (a0 : List (C .e103)) (a1 : Int) : runFn X38 (F38 n) Go.Proofs.Try.f38 [.one (.row .e103 a0), .one (.int .i64 a1)] dec38 = G38n n a0 a1 := by
  have h : runFn X38 (F38 n) Go.Proofs.Try.f38 [.one (.row .e103 a0), .one (.int .i64 a1)] dec38 =
      cond (decide ((IntKind.i64.wrap (a1 - (a0.length : Int))) < 0))
      (some ((-1)))
      (MP38_0 n  (a0, IntKind.i64.wrap (a1 - (a0.length : Int)), 0)) := by kernel_rfl
  simp only [h, G38n, m38_0]
noncomputable def G38 (a0 : List (C .e103)) (a1 : Int) : Option (Int) := G38n fuel a0 a1
noncomputable def con38 : Con C := { R0 := Int, ret := fun r => [(false, [.int .i64 r])], g := fun vs => match vs with
  | [.one (.row .e103 y0), .one (.int .i64 y1)] => G38 y0 y1
  | _ => none }
theorem x38 : XOk Go.Proofs.Try.prog X38 := ⟨tks_ok, els_ok, mps_ok, meths_ok⟩
theorem q38 : Cons Go.Proofs.Try.prog X38 := ⟨lkR_ok (l := [(70, con70)]) ⟨c70, trivial⟩, lkW_ok (l := []) trivial, lkI_ok (l := []) trivial⟩
theorem c38 : ConOk Go.Proofs.Try.prog KK 38 con38 := by
  refine con_dec x38 q38 (by kernel_rfl) (f := 38) (fn := Go.Proofs.Try.f38) (c := bodyOf Go.Proofs.Try.f38) (by kernel_rfl) (by kernel_rfl) (by kernel_rfl) (nameB (by kernel_rfl)) con38 dec38 (fun rs r0 h => ?_) (fun vs r0 h => ?_)
  · unfold dec38 at h
    split at h
    · cases h; rfl
    · cases h
  · simp only [con38] at h
    split at h
    · rename_i y0 y1
      exact ⟨Nat.le_of_ble_eq_true (by kernel_rfl), F38 fuel, (t38 fuel y0 y1).trans h⟩
    · cases h
/-! ### f7 loop.example/wharfdesk/laws.szGateLaw -/
noncomputable def X7 : Cx C := { K := KK, tk := lk tks, con := lkC [(12, con12), (13, con13), (38, con38)], conw := lkC [], inl := lkA [], hold := [], mp := lk mps, meth := lkS meths, off := 458752 }
def F7 (n : Nat) : Cf := { N := n, keep := [0, 1, 2, 4, 10, 16, 22], live := lk [] }
def dec7 (rs : List (Bool × List (Lf C))) : Option (Int) := match rs with
  | [(false, [.int .i64 z0])] => some z0
  | _ => none
noncomputable def G7n (n : Nat) (a0 : VGateLaw) (a1 : Int) : Option (Int) :=
      Option.bind (G12 a0.Shapes a1) fun r1 =>
      cond (decide (r1 < 0))
      (some ((-1)))
      (Option.bind (G13 a0.Mends r1) fun r2 =>
      cond (decide (r2 < 0))
      (some ((-1)))
      (Option.bind (G38 a0.Teams r2) fun r3 =>
      cond (decide (r3 < 0))
      (some ((-1)))
      (some (r3))))
theorem t7 (n : Nat) (a0 : VGateLaw) (a1 : Int) : runFn X7 (F7 n) Go.Proofs.Try.f7 [.agg [.row .e74 a0.Shapes, .row .e77 a0.Mends, .row .e103 a0.Teams], .one (.int .i64 a1)] dec7 = G7n n a0 a1 := by
  kernel_rfl
noncomputable def G7 (a0 : VGateLaw) (a1 : Int) : Option (Int) := G7n fuel a0 a1
noncomputable def con7 : Con C := { R0 := Int, ret := fun r => [(false, [.int .i64 r])], g := fun vs => match vs with
  | [.agg [.row .e74 y0_0, .row .e77 y0_1, .row .e103 y0_2], .one (.int .i64 y1)] => G7 ⟨y0_0, y0_1, y0_2⟩ y1
  | _ => none }
theorem x7 : XOk Go.Proofs.Try.prog X7 := ⟨tks_ok, els_ok, mps_ok, meths_ok⟩
theorem q7 : Cons Go.Proofs.Try.prog X7 := ⟨lkR_ok (l := [(12, con12), (13, con13), (38, con38)]) ⟨c12, c13, c38, trivial⟩, lkW_ok (l := []) trivial, lkI_ok (l := []) trivial⟩
theorem c7 : ConOk Go.Proofs.Try.prog KK 7 con7 := by
  refine con_dec x7 q7 (by kernel_rfl) (f := 7) (fn := Go.Proofs.Try.f7) (c := bodyOf Go.Proofs.Try.f7) (by kernel_rfl) (by kernel_rfl) (by kernel_rfl) (nameB (by kernel_rfl)) con7 dec7 (fun rs r0 h => ?_) (fun vs r0 h => ?_)
  · unfold dec7 at h
    split at h
    · cases h; rfl
    · cases h
  · simp only [con7] at h
    split at h
    · rename_i y0_0 y0_1 y0_2 y1
      exact ⟨Nat.le_of_ble_eq_true (by kernel_rfl), F7 fuel, (t7 fuel ⟨y0_0, y0_1, y0_2⟩ y1).trans h⟩
    · cases h
/-! ### f104 loop.example/wharfdesk/spec.l1In -/
noncomputable def X104 : Cx C := { K := KK, tk := lk tks, con := lkC [], conw := lkC [], inl := lkA [], hold := [], mp := lk mps, meth := lkS meths, off := 6815744 }
def F104 (n : Nat) : Cf := { N := n, keep := [0, 1, 2, 6], live := lk [] }
def dec104 (rs : List (Bool × List (Lf C))) : Option (Bool) := match rs with
  | [(false, [.bool z0])] => some z0
  | _ => none
noncomputable def G104n (n : Nat) (a0 : Int) (a1 : Int) (a2 : Int) : Option (Bool) :=
      cond (decide (a0 ≥ a1))
      (some (decide (a0 ≤ a2)))
      (some (false))
theorem t104 (n : Nat) (a0 : Int) (a1 : Int) (a2 : Int) : runFn X104 (F104 n) Go.Proofs.Try.f104 [.one (.int .i64 a0), .one (.int .i64 a1), .one (.int .i64 a2)] dec104 = G104n n a0 a1 a2 := by
  kernel_rfl
noncomputable def G104 (a0 : Int) (a1 : Int) (a2 : Int) : Option (Bool) := G104n fuel a0 a1 a2
noncomputable def con104 : Con C := { R0 := Bool, ret := fun r => [(false, [.bool r])], g := fun vs => match vs with
  | [.one (.int .i64 y0), .one (.int .i64 y1), .one (.int .i64 y2)] => G104 y0 y1 y2
  | _ => none }
theorem x104 : XOk Go.Proofs.Try.prog X104 := ⟨tks_ok, els_ok, mps_ok, meths_ok⟩
theorem q104 : Cons Go.Proofs.Try.prog X104 := ⟨lkR_ok (l := []) trivial, lkW_ok (l := []) trivial, lkI_ok (l := []) trivial⟩
theorem c104 : ConOk Go.Proofs.Try.prog KK 104 con104 := by
  refine con_dec x104 q104 (by kernel_rfl) (f := 104) (fn := Go.Proofs.Try.f104) (c := bodyOf Go.Proofs.Try.f104) (by kernel_rfl) (by kernel_rfl) (by kernel_rfl) (nameB (by kernel_rfl)) con104 dec104 (fun rs r0 h => ?_) (fun vs r0 h => ?_)
  · unfold dec104 at h
    split at h
    · cases h; rfl
    · cases h
  · simp only [con104] at h
    split at h
    · rename_i y0 y1 y2
      exact ⟨Nat.le_of_ble_eq_true (by kernel_rfl), F104 fuel, (t104 fuel y0 y1 y2).trans h⟩
    · cases h
/-! ### f105 loop.example/wharfdesk/spec.l1Byte -/
noncomputable def X105 : Cx C := { K := KK, tk := lk tks, con := lkC [], conw := lkC [], inl := lkA [], hold := [], mp := lk mps, meth := lkS meths, off := 6881280 }
def F105 (n : Nat) : Cf := { N := n, keep := [0, 2], live := lk [] }
def dec105 (rs : List (Bool × List (Lf C))) : Option (Bool) := match rs with
  | [(false, [.bool z0])] => some z0
  | _ => none
noncomputable def G105n (n : Nat) (a0 : Int) : Option (Bool) :=
      cond (decide (a0 ≥ 97))
      (cond (decide (a0 ≤ 122))
      (some (true))
      (cond (decide (a0 ≥ 48))
      (cond (decide (a0 ≤ 57))
      (some (true))
      (some (a0 == 45)))
      (some (a0 == 45))))
      (cond (decide (a0 ≥ 48))
      (cond (decide (a0 ≤ 57))
      (some (true))
      (some (a0 == 45)))
      (some (a0 == 45)))
theorem t105 (n : Nat) (a0 : Int) : runFn X105 (F105 n) Go.Proofs.Try.f105 [.one (.int .u8 a0)] dec105 = G105n n a0 := by
  kernel_rfl
noncomputable def G105 (a0 : Int) : Option (Bool) := G105n fuel a0
noncomputable def con105 : Con C := { R0 := Bool, ret := fun r => [(false, [.bool r])], g := fun vs => match vs with
  | [.one (.int .u8 y0)] => G105 y0
  | _ => none }
theorem x105 : XOk Go.Proofs.Try.prog X105 := ⟨tks_ok, els_ok, mps_ok, meths_ok⟩
theorem q105 : Cons Go.Proofs.Try.prog X105 := ⟨lkR_ok (l := []) trivial, lkW_ok (l := []) trivial, lkI_ok (l := []) trivial⟩
theorem c105 : ConOk Go.Proofs.Try.prog KK 105 con105 := by
  refine con_dec x105 q105 (by kernel_rfl) (f := 105) (fn := Go.Proofs.Try.f105) (c := bodyOf Go.Proofs.Try.f105) (by kernel_rfl) (by kernel_rfl) (by kernel_rfl) (nameB (by kernel_rfl)) con105 dec105 (fun rs r0 h => ?_) (fun vs r0 h => ?_)
  · unfold dec105 at h
    split at h
    · cases h; rfl
    · cases h
  · simp only [con105] at h
    split at h
    · rename_i y0
      exact ⟨Nat.le_of_ble_eq_true (by kernel_rfl), F105 fuel, (t105 fuel y0).trans h⟩
    · cases h
/-! ### f74 loop.example/wharfdesk/spec.l1NameOk -/
noncomputable def X74 : Cx C := { K := KK, tk := lk tks, con := lkC [(104, con104), (105, con105)], conw := lkC [], inl := lkA [], hold := [], mp := lk mps, meth := lkS meths, off := 4849664 }
def F74 (n : Nat) : Cf := { N := n, keep := [0, 2, 3, 7, 11, 18], live := lk [(0, [0, 3])] }
def dec74 (rs : List (Bool × List (Lf C))) : Option (Bool) := match rs with
  | [(false, [.bool z0])] => some z0
  | _ => none
abbrev A74_0 : Type := ByteArray × Int
def s74_0 : A74_0 → St C := fun (x0_0, x0_1) => { env := [(0, .one (.str x0_0)), (3, .one (.int .i64 x0_1))], objs := [], base := 0 }
noncomputable def r74_0 (n : Nat)  (rec0 : A74_0 → Option (Bool)) : A74_0 → Option (Bool) := fun (x0_0, x0_1) =>
      cond (decide (x0_1 < (x0_0.size : Int)))
      (cond (decide (0 ≤ x0_1)) (cond (decide (x0_1 < (x0_0.size : Int))) (Option.bind (G105 (sbt x0_0 x0_1)) fun r2 =>
      cond (!r2)
      (some (false))
      (rec0 (x0_0, IntKind.i64.wrap (x0_1 + 1)))) none) none)
      (some (true))
noncomputable def LP74_0 (n : Nat)  (x : A74_0) : Option (Bool) := lpN (r74_0 n ) n x
noncomputable def MP74_0 (n : Nat)  (x : A74_0) : Option (Bool) := iter (fun rec S => run X74 (F74 n) (codeAt (bodyOf Go.Proofs.Try.f74) [1, 1, 0, 1, 0, 0]) 0 S (lopK rec (blkK 0 (seqK (run X74 (F74 n) (codeAt (bodyOf Go.Proofs.Try.f74) [1, 1, 1]) 0) (kTop X74 Go.Proofs.Try.f74 dec74))))) [0, 3] n (s74_0 x)
theorem m74_0 (n : Nat)  (x : A74_0) : MP74_0 n  x = LP74_0 n  x := by
  refine iter_eq s74_0 (r74_0 n ) (fun rec0 x => ?_) n x
  obtain ⟨x0_0, x0_1⟩ := x
  kernel_rfl
noncomputable def G74n (n : Nat) (a0 : ByteArray) : Option (Bool) :=
      Option.bind (G104 (a0.size : Int) 1 16) fun r1 =>
      cond (!r1)
      (some (false))
      (LP74_0 n  (a0, 0))
theorem t74 (n : Nat) (a0 : ByteArray) : runFn X74 (F74 n) Go.Proofs.Try.f74 [.one (.str a0)] dec74 = G74n n a0 := by
  have h : runFn X74 (F74 n) Go.Proofs.Try.f74 [.one (.str a0)] dec74 =
      Option.bind (G104 (a0.size : Int) 1 16) fun r1 =>
      cond (!r1)
      (some (false))
      (MP74_0 n  (a0, 0)) := by kernel_rfl
  simp only [h, G74n, m74_0]
noncomputable def G74 (a0 : ByteArray) : Option (Bool) := G74n fuel a0
noncomputable def con74 : Con C := { R0 := Bool, ret := fun r => [(false, [.bool r])], g := fun vs => match vs with
  | [.one (.str y0)] => G74 y0
  | _ => none }
theorem x74 : XOk Go.Proofs.Try.prog X74 := ⟨tks_ok, els_ok, mps_ok, meths_ok⟩
theorem q74 : Cons Go.Proofs.Try.prog X74 := ⟨lkR_ok (l := [(104, con104), (105, con105)]) ⟨c104, c105, trivial⟩, lkW_ok (l := []) trivial, lkI_ok (l := []) trivial⟩
theorem c74 : ConOk Go.Proofs.Try.prog KK 74 con74 := by
  refine con_dec x74 q74 (by kernel_rfl) (f := 74) (fn := Go.Proofs.Try.f74) (c := bodyOf Go.Proofs.Try.f74) (by kernel_rfl) (by kernel_rfl) (by kernel_rfl) (nameB (by kernel_rfl)) con74 dec74 (fun rs r0 h => ?_) (fun vs r0 h => ?_)
  · unfold dec74 at h
    split at h
    · cases h; rfl
    · cases h
  · simp only [con74] at h
    split at h
    · rename_i y0
      exact ⟨Nat.le_of_ble_eq_true (by kernel_rfl), F74 fuel, (t74 fuel y0).trans h⟩
    · cases h
/-! ### f83 loop.example/wharfdesk/spec.l1Shape -/
noncomputable def X83 : Cx C := { K := KK, tk := lk tks, con := lkC [], conw := lkC [], inl := lkA [], hold := [], mp := lk mps, meth := lkS meths, off := 5439488 }
def F83 (n : Nat) : Cf := { N := n, keep := [0, 1, 4, 5, 9, 18], live := lk [(0, [0, 1, 5])] }
def dec83 (rs : List (Bool × List (Lf C))) : Option (Int) := match rs with
  | [(false, [.int .i64 z0])] => some z0
  | _ => none
abbrev A83_0 : Type := List (C .e81) × ByteArray × Int
def s83_0 : A83_0 → St C := fun (x0_0, x0_1, x0_2) => { env := [(0, .one (.row .e81 x0_0)), (1, .one (.str x0_1)), (5, .one (.int .i64 x0_2))], objs := [], base := 0 }
noncomputable def r83_0 (n : Nat)  (rec0 : A83_0 → Option (Int)) : A83_0 → Option (Int) := fun (x0_0, x0_1, x0_2) =>
      cond (decide (x0_2 < (x0_0.length : Int)))
      (cond (decide (0 ≤ x0_2)) (Option.bind x0_0[x0_2.toNat]? fun x1 => cond (decide (x1.Kind = x0_1))
      (some (x0_2))
      (rec0 (x0_0, x0_1, IntKind.i64.wrap (x0_2 + 1)))) none)
      (some ((-1)))
noncomputable def LP83_0 (n : Nat)  (x : A83_0) : Option (Int) := lpN (r83_0 n ) n x
noncomputable def MP83_0 (n : Nat)  (x : A83_0) : Option (Int) := iter (fun rec S => run X83 (F83 n) (codeAt (bodyOf Go.Proofs.Try.f83) [1, 0, 1, 0, 0]) 0 S (lopK rec (blkK 0 (seqK (run X83 (F83 n) (codeAt (bodyOf Go.Proofs.Try.f83) [1, 1]) 0) (kTop X83 Go.Proofs.Try.f83 dec83))))) [0, 1, 5] n (s83_0 x)
theorem m83_0 (n : Nat)  (x : A83_0) : MP83_0 n  x = LP83_0 n  x := by
  refine iter_eq s83_0 (r83_0 n ) (fun rec0 x => ?_) n x
  obtain ⟨x0_0, x0_1, x0_2⟩ := x
  kernel_rfl
noncomputable def G83n (n : Nat) (a0 : List (C .e81)) (a1 : ByteArray) : Option (Int) :=
      LP83_0 n  (a0, a1, 0)
theorem t83 (n : Nat) (a0 : List (C .e81)) (a1 : ByteArray) : runFn X83 (F83 n) Go.Proofs.Try.f83 [.one (.row .e81 a0), .one (.str a1)] dec83 = G83n n a0 a1 := by
  have h : runFn X83 (F83 n) Go.Proofs.Try.f83 [.one (.row .e81 a0), .one (.str a1)] dec83 =
      MP83_0 n  (a0, a1, 0) := by kernel_rfl
  simp only [h, G83n, m83_0]
noncomputable def G83 (a0 : List (C .e81)) (a1 : ByteArray) : Option (Int) := G83n fuel a0 a1
noncomputable def con83 : Con C := { R0 := Int, ret := fun r => [(false, [.int .i64 r])], g := fun vs => match vs with
  | [.one (.row .e81 y0), .one (.str y1)] => G83 y0 y1
  | _ => none }
theorem x83 : XOk Go.Proofs.Try.prog X83 := ⟨tks_ok, els_ok, mps_ok, meths_ok⟩
theorem q83 : Cons Go.Proofs.Try.prog X83 := ⟨lkR_ok (l := []) trivial, lkW_ok (l := []) trivial, lkI_ok (l := []) trivial⟩
theorem c83 : ConOk Go.Proofs.Try.prog KK 83 con83 := by
  refine con_dec x83 q83 (by kernel_rfl) (f := 83) (fn := Go.Proofs.Try.f83) (c := bodyOf Go.Proofs.Try.f83) (by kernel_rfl) (by kernel_rfl) (by kernel_rfl) (nameB (by kernel_rfl)) con83 dec83 (fun rs r0 h => ?_) (fun vs r0 h => ?_)
  · unfold dec83 at h
    split at h
    · cases h; rfl
    · cases h
  · simp only [con83] at h
    split at h
    · rename_i y0 y1
      exact ⟨Nat.le_of_ble_eq_true (by kernel_rfl), F83 fuel, (t83 fuel y0 y1).trans h⟩
    · cases h
/-! ### f102 loop.example/wharfdesk/spec.l1Has -/
noncomputable def X102 : Cx C := { K := KK, tk := lk tks, con := lkC [], conw := lkC [], inl := lkA [], hold := [], mp := lk mps, meth := lkS meths, off := 6684672 }
def F102 (n : Nat) : Cf := { N := n, keep := [0, 1, 4, 5, 9, 17], live := lk [(0, [0, 1, 5])] }
def dec102 (rs : List (Bool × List (Lf C))) : Option (Bool) := match rs with
  | [(false, [.bool z0])] => some z0
  | _ => none
abbrev A102_0 : Type := List (C .e9) × ByteArray × Int
def s102_0 : A102_0 → St C := fun (x0_0, x0_1, x0_2) => { env := [(0, .one (.row .e9 x0_0)), (1, .one (.str x0_1)), (5, .one (.int .i64 x0_2))], objs := [], base := 0 }
noncomputable def r102_0 (n : Nat)  (rec0 : A102_0 → Option (Bool)) : A102_0 → Option (Bool) := fun (x0_0, x0_1, x0_2) =>
      cond (decide (x0_2 < (x0_0.length : Int)))
      (cond (decide (0 ≤ x0_2)) (Option.bind x0_0[x0_2.toNat]? fun x1 => cond (decide (x1 = x0_1))
      (some (true))
      (rec0 (x0_0, x0_1, IntKind.i64.wrap (x0_2 + 1)))) none)
      (some (false))
noncomputable def LP102_0 (n : Nat)  (x : A102_0) : Option (Bool) := lpN (r102_0 n ) n x
noncomputable def MP102_0 (n : Nat)  (x : A102_0) : Option (Bool) := iter (fun rec S => run X102 (F102 n) (codeAt (bodyOf Go.Proofs.Try.f102) [1, 0, 1, 0, 0]) 0 S (lopK rec (blkK 0 (seqK (run X102 (F102 n) (codeAt (bodyOf Go.Proofs.Try.f102) [1, 1]) 0) (kTop X102 Go.Proofs.Try.f102 dec102))))) [0, 1, 5] n (s102_0 x)
theorem m102_0 (n : Nat)  (x : A102_0) : MP102_0 n  x = LP102_0 n  x := by
  refine iter_eq s102_0 (r102_0 n ) (fun rec0 x => ?_) n x
  obtain ⟨x0_0, x0_1, x0_2⟩ := x
  kernel_rfl
noncomputable def G102n (n : Nat) (a0 : List (C .e9)) (a1 : ByteArray) : Option (Bool) :=
      LP102_0 n  (a0, a1, 0)
theorem t102 (n : Nat) (a0 : List (C .e9)) (a1 : ByteArray) : runFn X102 (F102 n) Go.Proofs.Try.f102 [.one (.row .e9 a0), .one (.str a1)] dec102 = G102n n a0 a1 := by
  have h : runFn X102 (F102 n) Go.Proofs.Try.f102 [.one (.row .e9 a0), .one (.str a1)] dec102 =
      MP102_0 n  (a0, a1, 0) := by kernel_rfl
  simp only [h, G102n, m102_0]
noncomputable def G102 (a0 : List (C .e9)) (a1 : ByteArray) : Option (Bool) := G102n fuel a0 a1
noncomputable def con102 : Con C := { R0 := Bool, ret := fun r => [(false, [.bool r])], g := fun vs => match vs with
  | [.one (.row .e9 y0), .one (.str y1)] => G102 y0 y1
  | _ => none }
theorem x102 : XOk Go.Proofs.Try.prog X102 := ⟨tks_ok, els_ok, mps_ok, meths_ok⟩
theorem q102 : Cons Go.Proofs.Try.prog X102 := ⟨lkR_ok (l := []) trivial, lkW_ok (l := []) trivial, lkI_ok (l := []) trivial⟩
theorem c102 : ConOk Go.Proofs.Try.prog KK 102 con102 := by
  refine con_dec x102 q102 (by kernel_rfl) (f := 102) (fn := Go.Proofs.Try.f102) (c := bodyOf Go.Proofs.Try.f102) (by kernel_rfl) (by kernel_rfl) (by kernel_rfl) (nameB (by kernel_rfl)) con102 dec102 (fun rs r0 h => ?_) (fun vs r0 h => ?_)
  · unfold dec102 at h
    split at h
    · cases h; rfl
    · cases h
  · simp only [con102] at h
    split at h
    · rename_i y0 y1
      exact ⟨Nat.le_of_ble_eq_true (by kernel_rfl), F102 fuel, (t102 fuel y0 y1).trans h⟩
    · cases h
/-! ### f123 loop.example/wharfdesk/spec.l1Number -/
noncomputable def X123 : Cx C := { K := KK, tk := lk tks, con := lkC [(104, con104)], conw := lkC [], inl := lkA [], hold := [], mp := lk mps, meth := lkS meths, off := 8060928 }
def F123 (n : Nat) : Cf := { N := n, keep := [0, 2, 3, 4, 18, 22, 34], live := lk [(0, [0, 3, 4])] }
def dec123 (rs : List (Bool × List (Lf C))) : Option (Int) := match rs with
  | [(false, [.int .i64 z0])] => some z0
  | _ => none
abbrev A123_0 : Type := ByteArray × Int × Int
def s123_0 : A123_0 → St C := fun (x0_0, x0_1, x0_2) => { env := [(0, .one (.str x0_0)), (3, .one (.int .i64 x0_1)), (4, .one (.int .i64 x0_2))], objs := [], base := 0 }
noncomputable def r123_0 (n : Nat)  (rec0 : A123_0 → Option (Int)) : A123_0 → Option (Int) := fun (x0_0, x0_1, x0_2) =>
      cond (decide (x0_2 < (x0_0.size : Int)))
      (cond (decide (0 ≤ x0_2)) (cond (decide (x0_2 < (x0_0.size : Int))) (cond (decide ((sbt x0_0 x0_2) < 48))
      (some ((-1)))
      (cond (decide (0 ≤ x0_2)) (cond (decide (x0_2 < (x0_0.size : Int))) (cond (decide ((sbt x0_0 x0_2) > 57))
      (some ((-1)))
      (cond (decide (0 ≤ x0_2)) (cond (decide (x0_2 < (x0_0.size : Int))) (rec0 (x0_0, IntKind.i64.wrap ((IntKind.i64.wrap ((IntKind.i64.wrap (x0_1 * 10)) + (IntKind.i64.wrap (sbt x0_0 x0_2)))) - 48), IntKind.i64.wrap (x0_2 + 1))) none) none)) none) none)) none) none)
      (some (x0_1))
noncomputable def LP123_0 (n : Nat)  (x : A123_0) : Option (Int) := lpN (r123_0 n ) n x
noncomputable def MP123_0 (n : Nat)  (x : A123_0) : Option (Int) := iter (fun rec S => run X123 (F123 n) (codeAt (bodyOf Go.Proofs.Try.f123) [1, 1, 1, 0, 1, 0, 0]) 0 S (lopK rec (blkK 0 (seqK (run X123 (F123 n) (codeAt (bodyOf Go.Proofs.Try.f123) [1, 1, 1, 1]) 0) (kTop X123 Go.Proofs.Try.f123 dec123))))) [0, 3, 4] n (s123_0 x)
theorem m123_0 (n : Nat)  (x : A123_0) : MP123_0 n  x = LP123_0 n  x := by
  refine iter_eq s123_0 (r123_0 n ) (fun rec0 x => ?_) n x
  obtain ⟨x0_0, x0_1, x0_2⟩ := x
  kernel_rfl
noncomputable def G123n (n : Nat) (a0 : ByteArray) : Option (Int) :=
      Option.bind (G104 (a0.size : Int) 1 7) fun r1 =>
      cond (!r1)
      (some ((-1)))
      (cond (decide ((a0.size : Int) > 1))
      (cond (decide (0 ≤ 0)) (cond (decide (0 < (a0.size : Int))) (cond ((sbt a0 0) == 48)
      (some ((-1)))
      (LP123_0 n  (a0, 0, 0))) none) none)
      (LP123_0 n  (a0, 0, 0)))
theorem t123 (n : Nat) (a0 : ByteArray) : runFn X123 (F123 n) Go.Proofs.Try.f123 [.one (.str a0)] dec123 = G123n n a0 := by
  have h : runFn X123 (F123 n) Go.Proofs.Try.f123 [.one (.str a0)] dec123 =
      Option.bind (G104 (a0.size : Int) 1 7) fun r1 =>
      cond (!r1)
      (some ((-1)))
      (cond (decide ((a0.size : Int) > 1))
      (cond (decide (0 ≤ 0)) (cond (decide (0 < (a0.size : Int))) (cond ((sbt a0 0) == 48)
      (some ((-1)))
      (MP123_0 n  (a0, 0, 0))) none) none)
      (MP123_0 n  (a0, 0, 0))) := by kernel_rfl
  simp only [h, G123n, m123_0]
noncomputable def G123 (a0 : ByteArray) : Option (Int) := G123n fuel a0
noncomputable def con123 : Con C := { R0 := Int, ret := fun r => [(false, [.int .i64 r])], g := fun vs => match vs with
  | [.one (.str y0)] => G123 y0
  | _ => none }
theorem x123 : XOk Go.Proofs.Try.prog X123 := ⟨tks_ok, els_ok, mps_ok, meths_ok⟩
theorem q123 : Cons Go.Proofs.Try.prog X123 := ⟨lkR_ok (l := [(104, con104)]) ⟨c104, trivial⟩, lkW_ok (l := []) trivial, lkI_ok (l := []) trivial⟩
theorem c123 : ConOk Go.Proofs.Try.prog KK 123 con123 := by
  refine con_dec x123 q123 (by kernel_rfl) (f := 123) (fn := Go.Proofs.Try.f123) (c := bodyOf Go.Proofs.Try.f123) (by kernel_rfl) (by kernel_rfl) (by kernel_rfl) (nameB (by kernel_rfl)) con123 dec123 (fun rs r0 h => ?_) (fun vs r0 h => ?_)
  · unfold dec123 at h
    split at h
    · cases h; rfl
    · cases h
  · simp only [con123] at h
    split at h
    · rename_i y0
      exact ⟨Nat.le_of_ble_eq_true (by kernel_rfl), F123 fuel, (t123 fuel y0).trans h⟩
    · cases h
/-! ### f101 loop.example/wharfdesk/spec.GateFits -/
noncomputable def X101 : Cx C := { K := KK, tk := lk tks, con := lkC [(74, con74), (102, con102), (104, con104), (123, con123)], conw := lkC [], inl := lkA [], hold := [], mp := lk mps, meth := lkS meths, off := 6619136 }
def F101 (n : Nat) : Cf := { N := n, keep := [0, 1, 2, 4, 5, 6, 8, 9, 23, 33, 38, 46, 58], live := lk [(1, [1, 2, 6])] }
def dec101 (rs : List (Bool × List (Lf C))) : Option (Bool) := match rs with
  | [(false, [.bool z0])] => some z0
  | _ => none
abbrev A101_0 : Type := ByteArray × Int × ByteArray × Int × Int × Int × List (C .e9) × ByteArray × Int × Bool × Bool × ByteArray × ByteArray
def s101_0 : A101_0 → St C := fun (x0_0, x0_1, x0_2, x0_3, x0_4, x0_5, x0_6, x0_7, x0_8, x0_9, x0_10, x0_11, x0_12) => { env := [(1, .one (.str x0_0)), (2, .one (.ptr 6619264 0)), (6, .one (.int .i64 x0_1))], objs := [(6619264, .box .mem [.str x0_2, .int .i64 x0_3, .int .i64 x0_4, .int .i64 x0_5, .row .e9 x0_6, .str x0_7, .int .i64 x0_8, .bool x0_9, .bool x0_10, .str x0_11, .str x0_12])], base := 0 }
noncomputable def r101_0 (n : Nat)  (rec0 : A101_0 → Option (Bool)) : A101_0 → Option (Bool) := fun (x0_0, x0_1, x0_2, x0_3, x0_4, x0_5, x0_6, x0_7, x0_8, x0_9, x0_10, x0_11, x0_12) =>
      cond (decide (x0_1 < (x0_0.size : Int)))
      (cond (decide (0 ≤ x0_1)) (cond (decide (x0_1 < (x0_0.size : Int))) (Option.bind (G104 (IntKind.i64.wrap (sbt x0_0 x0_1)) 33 126) fun r4 =>
      cond (!r4)
      (some (false))
      (rec0 (x0_0, IntKind.i64.wrap (x0_1 + 1), x0_2, x0_3, x0_4, x0_5, x0_6, x0_7, x0_8, x0_9, x0_10, x0_11, x0_12))) none) none)
      (cond (!decide (x0_0 = (⟨#[]⟩ : ByteArray)))
      (Option.bind (G104 (x0_0.size : Int) x0_4 x0_5) fun r5 =>
      some (r5))
      (some (false)))
noncomputable def LP101_0 (n : Nat)  (x : A101_0) : Option (Bool) := lpN (r101_0 n ) n x
noncomputable def MP101_0 (n : Nat)  (x : A101_0) : Option (Bool) := iter (fun rec S => run X101 (F101 n) (codeAt (bodyOf Go.Proofs.Try.f101) [1, 0, 1, 0, 1, 1, 1, 1, 1, 0, 0, 1, 0, 0]) 1 S (lopK rec (blkK 1 (seqK (run X101 (F101 n) (codeAt (bodyOf Go.Proofs.Try.f101) [1, 0, 1, 0, 1, 1, 1, 1, 1, 0, 1]) 0) (blkK 0 (seqK (run X101 (F101 n) (codeAt (bodyOf Go.Proofs.Try.f101) [1, 1]) 0) (kTop X101 Go.Proofs.Try.f101 dec101))))))) [1, 2, 6] n (s101_0 x)
theorem m101_0 (n : Nat)  (x : A101_0) : MP101_0 n  x = LP101_0 n  x := by
  refine iter_eq s101_0 (r101_0 n ) (fun rec0 x => ?_) n x
  obtain ⟨x0_0, x0_1, x0_2, x0_3, x0_4, x0_5, x0_6, x0_7, x0_8, x0_9, x0_10, x0_11, x0_12⟩ := x
  kernel_rfl
noncomputable def G101n (n : Nat) (a0 : VGateField) (a1 : ByteArray) : Option (Bool) :=
      cond (a0.Kind == 1)
      (Option.bind (G123 a1) fun r1 =>
      cond (decide (r1 ≥ 0))
      (Option.bind (G104 r1 a0.Least a0.Most) fun r2 =>
      some (r2))
      (some (false)))
      (cond (a0.Kind == 2)
      (cond (!decide (a1 = (⟨#[]⟩ : ByteArray)))
      (Option.bind (G102 a0.Words a1) fun r3 =>
      some (r3))
      (some (false)))
      (cond (a0.Kind == 3)
      (LP101_0 n  (a1, 0, a0.Name, a0.Kind, a0.Least, a0.Most, a0.Words, a0.To, a0.Role, a0.Must, a0.Fixed, a0.Default, a0.Weighs))
      (cond (a0.Kind == 4)
      (Option.bind (G74 a1) fun r6 =>
      some (r6))
      (some (false)))))
theorem t101 (n : Nat) (a0 : VGateField) (a1 : ByteArray) : runFn X101 (F101 n) Go.Proofs.Try.f101 [.agg [.str a0.Name, .int .i64 a0.Kind, .int .i64 a0.Least, .int .i64 a0.Most, .row .e9 a0.Words, .str a0.To, .int .i64 a0.Role, .bool a0.Must, .bool a0.Fixed, .str a0.Default, .str a0.Weighs], .one (.str a1)] dec101 = G101n n a0 a1 := by
  have h : runFn X101 (F101 n) Go.Proofs.Try.f101 [.agg [.str a0.Name, .int .i64 a0.Kind, .int .i64 a0.Least, .int .i64 a0.Most, .row .e9 a0.Words, .str a0.To, .int .i64 a0.Role, .bool a0.Must, .bool a0.Fixed, .str a0.Default, .str a0.Weighs], .one (.str a1)] dec101 =
      cond (a0.Kind == 1)
      (Option.bind (G123 a1) fun r1 =>
      cond (decide (r1 ≥ 0))
      (Option.bind (G104 r1 a0.Least a0.Most) fun r2 =>
      some (r2))
      (some (false)))
      (cond (a0.Kind == 2)
      (cond (!decide (a1 = (⟨#[]⟩ : ByteArray)))
      (Option.bind (G102 a0.Words a1) fun r3 =>
      some (r3))
      (some (false)))
      (cond (a0.Kind == 3)
      (MP101_0 n  (a1, 0, a0.Name, a0.Kind, a0.Least, a0.Most, a0.Words, a0.To, a0.Role, a0.Must, a0.Fixed, a0.Default, a0.Weighs))
      (cond (a0.Kind == 4)
      (Option.bind (G74 a1) fun r6 =>
      some (r6))
      (some (false))))) := by kernel_rfl
  simp only [h, G101n, m101_0]
noncomputable def G101 (a0 : VGateField) (a1 : ByteArray) : Option (Bool) := G101n fuel a0 a1
noncomputable def con101 : Con C := { R0 := Bool, ret := fun r => [(false, [.bool r])], g := fun vs => match vs with
  | [.agg [.str y0_0, .int .i64 y0_1, .int .i64 y0_2, .int .i64 y0_3, .row .e9 y0_4, .str y0_5, .int .i64 y0_6, .bool y0_7, .bool y0_8, .str y0_9, .str y0_10], .one (.str y1)] => G101 ⟨y0_0, y0_1, y0_2, y0_3, y0_4, y0_5, y0_6, y0_7, y0_8, y0_9, y0_10⟩ y1
  | _ => none }
theorem x101 : XOk Go.Proofs.Try.prog X101 := ⟨tks_ok, els_ok, mps_ok, meths_ok⟩
theorem q101 : Cons Go.Proofs.Try.prog X101 := ⟨lkR_ok (l := [(74, con74), (102, con102), (104, con104), (123, con123)]) ⟨c74, c102, c104, c123, trivial⟩, lkW_ok (l := []) trivial, lkI_ok (l := []) trivial⟩
theorem c101 : ConOk Go.Proofs.Try.prog KK 101 con101 := by
  refine con_dec x101 q101 (by kernel_rfl) (f := 101) (fn := Go.Proofs.Try.f101) (c := bodyOf Go.Proofs.Try.f101) (by kernel_rfl) (by kernel_rfl) (by kernel_rfl) (nameB (by kernel_rfl)) con101 dec101 (fun rs r0 h => ?_) (fun vs r0 h => ?_)
  · unfold dec101 at h
    split at h
    · cases h; rfl
    · cases h
  · simp only [con101] at h
    split at h
    · rename_i y0_0 y0_1 y0_2 y0_3 y0_4 y0_5 y0_6 y0_7 y0_8 y0_9 y0_10 y1
      exact ⟨Nat.le_of_ble_eq_true (by kernel_rfl), F101 fuel, (t101 fuel ⟨y0_0, y0_1, y0_2, y0_3, y0_4, y0_5, y0_6, y0_7, y0_8, y0_9, y0_10⟩ y1).trans h⟩
    · cases h
/-! ### f121 loop.example/wharfdesk/spec.l1Bare -/
noncomputable def X121 : Cx C := { K := KK, tk := lk tks, con := lkC [], conw := lkC [], inl := lkA [], hold := [], mp := lk mps, meth := lkS meths, off := 7929856 }
def F121 (n : Nat) : Cf := { N := n, keep := [0, 1, 2, 3, 33, 42], live := lk [] }
def dec121 (rs : List (Bool × List (Lf C))) : Option (Bool) := match rs with
  | [(false, [.bool z0])] => some z0
  | _ => none
noncomputable def G121n (n : Nat) (a0 : VGateField) : Option (Bool) :=
      cond (a0.Kind == 1)
      (cond (a0.Kind != 1)
      (cond (!decide (a0.Weighs = (⟨#[]⟩ : ByteArray)))
      (some (false))
      (cond (a0.Kind != 2)
      (cond (decide ((a0.Words.length : Int) > 0))
      (some (false))
      (cond (a0.Kind == 4)
      (some (true))
      (cond (decide (a0.To = (⟨#[]⟩ : ByteArray)))
      (some (a0.Role == 0))
      (some (false)))))
      (cond (a0.Kind == 4)
      (some (true))
      (cond (decide (a0.To = (⟨#[]⟩ : ByteArray)))
      (some (a0.Role == 0))
      (some (false))))))
      (cond (a0.Kind != 2)
      (cond (decide ((a0.Words.length : Int) > 0))
      (some (false))
      (cond (a0.Kind == 4)
      (some (true))
      (cond (decide (a0.To = (⟨#[]⟩ : ByteArray)))
      (some (a0.Role == 0))
      (some (false)))))
      (cond (a0.Kind == 4)
      (some (true))
      (cond (decide (a0.To = (⟨#[]⟩ : ByteArray)))
      (some (a0.Role == 0))
      (some (false))))))
      (cond (!(a0.Kind == 3))
      (cond (a0.Least != 0)
      (some (false))
      (cond (a0.Most != 0)
      (some (false))
      (cond (a0.Kind != 1)
      (cond (!decide (a0.Weighs = (⟨#[]⟩ : ByteArray)))
      (some (false))
      (cond (a0.Kind != 2)
      (cond (decide ((a0.Words.length : Int) > 0))
      (some (false))
      (cond (a0.Kind == 4)
      (some (true))
      (cond (decide (a0.To = (⟨#[]⟩ : ByteArray)))
      (some (a0.Role == 0))
      (some (false)))))
      (cond (a0.Kind == 4)
      (some (true))
      (cond (decide (a0.To = (⟨#[]⟩ : ByteArray)))
      (some (a0.Role == 0))
      (some (false))))))
      (cond (a0.Kind != 2)
      (cond (decide ((a0.Words.length : Int) > 0))
      (some (false))
      (cond (a0.Kind == 4)
      (some (true))
      (cond (decide (a0.To = (⟨#[]⟩ : ByteArray)))
      (some (a0.Role == 0))
      (some (false)))))
      (cond (a0.Kind == 4)
      (some (true))
      (cond (decide (a0.To = (⟨#[]⟩ : ByteArray)))
      (some (a0.Role == 0))
      (some (false))))))))
      (cond (a0.Kind != 1)
      (cond (!decide (a0.Weighs = (⟨#[]⟩ : ByteArray)))
      (some (false))
      (cond (a0.Kind != 2)
      (cond (decide ((a0.Words.length : Int) > 0))
      (some (false))
      (cond (a0.Kind == 4)
      (some (true))
      (cond (decide (a0.To = (⟨#[]⟩ : ByteArray)))
      (some (a0.Role == 0))
      (some (false)))))
      (cond (a0.Kind == 4)
      (some (true))
      (cond (decide (a0.To = (⟨#[]⟩ : ByteArray)))
      (some (a0.Role == 0))
      (some (false))))))
      (cond (a0.Kind != 2)
      (cond (decide ((a0.Words.length : Int) > 0))
      (some (false))
      (cond (a0.Kind == 4)
      (some (true))
      (cond (decide (a0.To = (⟨#[]⟩ : ByteArray)))
      (some (a0.Role == 0))
      (some (false)))))
      (cond (a0.Kind == 4)
      (some (true))
      (cond (decide (a0.To = (⟨#[]⟩ : ByteArray)))
      (some (a0.Role == 0))
      (some (false)))))))
theorem t121 (n : Nat) (a0 : VGateField) : runFn X121 (F121 n) Go.Proofs.Try.f121 [.agg [.str a0.Name, .int .i64 a0.Kind, .int .i64 a0.Least, .int .i64 a0.Most, .row .e9 a0.Words, .str a0.To, .int .i64 a0.Role, .bool a0.Must, .bool a0.Fixed, .str a0.Default, .str a0.Weighs]] dec121 = G121n n a0 := by
  kernel_rfl
noncomputable def G121 (a0 : VGateField) : Option (Bool) := G121n fuel a0
noncomputable def con121 : Con C := { R0 := Bool, ret := fun r => [(false, [.bool r])], g := fun vs => match vs with
  | [.agg [.str y0_0, .int .i64 y0_1, .int .i64 y0_2, .int .i64 y0_3, .row .e9 y0_4, .str y0_5, .int .i64 y0_6, .bool y0_7, .bool y0_8, .str y0_9, .str y0_10]] => G121 ⟨y0_0, y0_1, y0_2, y0_3, y0_4, y0_5, y0_6, y0_7, y0_8, y0_9, y0_10⟩
  | _ => none }
theorem x121 : XOk Go.Proofs.Try.prog X121 := ⟨tks_ok, els_ok, mps_ok, meths_ok⟩
theorem q121 : Cons Go.Proofs.Try.prog X121 := ⟨lkR_ok (l := []) trivial, lkW_ok (l := []) trivial, lkI_ok (l := []) trivial⟩
theorem c121 : ConOk Go.Proofs.Try.prog KK 121 con121 := by
  refine con_dec x121 q121 (by kernel_rfl) (f := 121) (fn := Go.Proofs.Try.f121) (c := bodyOf Go.Proofs.Try.f121) (by kernel_rfl) (by kernel_rfl) (by kernel_rfl) (nameB (by kernel_rfl)) con121 dec121 (fun rs r0 h => ?_) (fun vs r0 h => ?_)
  · unfold dec121 at h
    split at h
    · cases h; rfl
    · cases h
  · simp only [con121] at h
    split at h
    · rename_i y0_0 y0_1 y0_2 y0_3 y0_4 y0_5 y0_6 y0_7 y0_8 y0_9 y0_10
      exact ⟨Nat.le_of_ble_eq_true (by kernel_rfl), F121 fuel, (t121 fuel ⟨y0_0, y0_1, y0_2, y0_3, y0_4, y0_5, y0_6, y0_7, y0_8, y0_9, y0_10⟩).trans h⟩
    · cases h
/-! ### f122 loop.example/wharfdesk/spec.l1Ascending -/
noncomputable def X122 : Cx C := { K := KK, tk := lk tks, con := lkC [(74, con74)], conw := lkC [], inl := lkA [], hold := [], mp := lk mps, meth := lkS meths, off := 7995392 }
def F122 (n : Nat) : Cf := { N := n, keep := [0, 2, 3, 7, 31], live := lk [(0, [0, 3])] }
def dec122 (rs : List (Bool × List (Lf C))) : Option (Bool) := match rs with
  | [(false, [.bool z0])] => some z0
  | _ => none
abbrev A122_0 : Type := List (C .e9) × Int
def s122_0 : A122_0 → St C := fun (x0_0, x0_1) => { env := [(0, .one (.row .e9 x0_0)), (3, .one (.int .i64 x0_1))], objs := [], base := 0 }
noncomputable def r122_0 (n : Nat)  (rec0 : A122_0 → Option (Bool)) : A122_0 → Option (Bool) := fun (x0_0, x0_1) =>
      cond (decide (x0_1 < (x0_0.length : Int)))
      (cond (decide (0 ≤ x0_1)) (Option.bind x0_0[x0_1.toNat]? fun x1 => Option.bind (G74 x1) fun r2 =>
      cond (!r2)
      (some (false))
      (cond (decide (x0_1 > 0))
      (cond (decide (0 ≤ IntKind.i64.wrap (x0_1 - 1))) (Option.bind x0_0[(IntKind.i64.wrap (x0_1 - 1)).toNat]? fun x3 => cond (decide (0 ≤ x0_1)) (Option.bind x0_0[x0_1.toNat]? fun x4 => cond (!slt x3 x4)
      (some (false))
      (rec0 (x0_0, IntKind.i64.wrap (x0_1 + 1)))) none) none)
      (rec0 (x0_0, IntKind.i64.wrap (x0_1 + 1))))) none)
      (some (true))
noncomputable def LP122_0 (n : Nat)  (x : A122_0) : Option (Bool) := lpN (r122_0 n ) n x
noncomputable def MP122_0 (n : Nat)  (x : A122_0) : Option (Bool) := iter (fun rec S => run X122 (F122 n) (codeAt (bodyOf Go.Proofs.Try.f122) [1, 0, 1, 0, 0]) 0 S (lopK rec (blkK 0 (seqK (run X122 (F122 n) (codeAt (bodyOf Go.Proofs.Try.f122) [1, 1]) 0) (kTop X122 Go.Proofs.Try.f122 dec122))))) [0, 3] n (s122_0 x)
theorem m122_0 (n : Nat)  (x : A122_0) : MP122_0 n  x = LP122_0 n  x := by
  refine iter_eq s122_0 (r122_0 n ) (fun rec0 x => ?_) n x
  obtain ⟨x0_0, x0_1⟩ := x
  kernel_rfl
noncomputable def G122n (n : Nat) (a0 : List (C .e9)) : Option (Bool) :=
      LP122_0 n  (a0, 0)
theorem t122 (n : Nat) (a0 : List (C .e9)) : runFn X122 (F122 n) Go.Proofs.Try.f122 [.one (.row .e9 a0)] dec122 = G122n n a0 := by
  have h : runFn X122 (F122 n) Go.Proofs.Try.f122 [.one (.row .e9 a0)] dec122 =
      MP122_0 n  (a0, 0) := by kernel_rfl
  simp only [h, G122n, m122_0]
noncomputable def G122 (a0 : List (C .e9)) : Option (Bool) := G122n fuel a0
noncomputable def con122 : Con C := { R0 := Bool, ret := fun r => [(false, [.bool r])], g := fun vs => match vs with
  | [.one (.row .e9 y0)] => G122 y0
  | _ => none }
theorem x122 : XOk Go.Proofs.Try.prog X122 := ⟨tks_ok, els_ok, mps_ok, meths_ok⟩
theorem q122 : Cons Go.Proofs.Try.prog X122 := ⟨lkR_ok (l := [(74, con74)]) ⟨c74, trivial⟩, lkW_ok (l := []) trivial, lkI_ok (l := []) trivial⟩
theorem c122 : ConOk Go.Proofs.Try.prog KK 122 con122 := by
  refine con_dec x122 q122 (by kernel_rfl) (f := 122) (fn := Go.Proofs.Try.f122) (c := bodyOf Go.Proofs.Try.f122) (by kernel_rfl) (by kernel_rfl) (by kernel_rfl) (nameB (by kernel_rfl)) con122 dec122 (fun rs r0 h => ?_) (fun vs r0 h => ?_)
  · unfold dec122 at h
    split at h
    · cases h; rfl
    · cases h
  · simp only [con122] at h
    split at h
    · rename_i y0
      exact ⟨Nat.le_of_ble_eq_true (by kernel_rfl), F122 fuel, (t122 fuel y0).trans h⟩
    · cases h
/-! ### f99 loop.example/wharfdesk/spec.l1FieldOk -/
noncomputable def X99 : Cx C := { K := KK, tk := lk tks, con := lkC [(74, con74), (83, con83), (101, con101), (104, con104), (121, con121), (122, con122)], conw := lkC [], inl := lkA [], hold := [], mp := lk mps, meth := lkS meths, off := 6488064 }
def F99 (n : Nat) : Cf := { N := n, keep := [0, 1, 3, 4, 25, 27, 28, 55, 66, 83], live := lk [] }
def dec99 (rs : List (Bool × List (Lf C))) : Option (Bool) := match rs with
  | [(false, [.bool z0])] => some z0
  | _ => none
noncomputable def G99n (n : Nat) (a0 : List (C .e81)) (a1 : VGateField) : Option (Bool) :=
      Option.bind (G74 a1.Name) fun r1 =>
      cond (!r1)
      (some (false))
      (Option.bind (G121 a1) fun r2 =>
      cond (!r2)
      (some (false))
      (cond (!decide (a1.Default = (⟨#[]⟩ : ByteArray)))
      (Option.bind (G101 a1 a1.Default) fun r3 =>
      cond (!r3)
      (some (false))
      (cond (a1.Kind == 1)
      (cond (decide (a1.Least ≥ 0))
      (cond (decide (a1.Least ≤ a1.Most))
      (cond (decide (a1.Most ≤ 1000000))
      (cond (decide (a1.Weighs = (⟨#[]⟩ : ByteArray)))
      (some (true))
      (Option.bind (G74 a1.Weighs) fun r4 =>
      some (r4)))
      (some (false)))
      (some (false)))
      (some (false)))
      (cond (a1.Kind == 2)
      (Option.bind (G104 (a1.Words.length : Int) 1 6) fun r5 =>
      cond r5
      (Option.bind (G122 a1.Words) fun r6 =>
      some (r6))
      (some (false)))
      (cond (a1.Kind == 3)
      (cond (decide (a1.Least ≥ 1))
      (cond (decide (a1.Least ≤ a1.Most))
      (some (decide (a1.Most ≤ 40)))
      (some (false)))
      (some (false)))
      (cond (a1.Kind == 4)
      (Option.bind (G83 a0 a1.To) fun r7 =>
      cond (decide (r7 ≥ 0))
      (Option.bind (G104 a1.Role 1 3) fun r8 =>
      cond r8
      (cond (decide (a1.Default = (⟨#[]⟩ : ByteArray)))
      (cond (a1.Role != 2)
      (some (true))
      (some (!a1.Must)))
      (some (false)))
      (some (false)))
      (some (false)))
      (some (false)))))))
      (cond (a1.Kind == 1)
      (cond (decide (a1.Least ≥ 0))
      (cond (decide (a1.Least ≤ a1.Most))
      (cond (decide (a1.Most ≤ 1000000))
      (cond (decide (a1.Weighs = (⟨#[]⟩ : ByteArray)))
      (some (true))
      (Option.bind (G74 a1.Weighs) fun r9 =>
      some (r9)))
      (some (false)))
      (some (false)))
      (some (false)))
      (cond (a1.Kind == 2)
      (Option.bind (G104 (a1.Words.length : Int) 1 6) fun r10 =>
      cond r10
      (Option.bind (G122 a1.Words) fun r11 =>
      some (r11))
      (some (false)))
      (cond (a1.Kind == 3)
      (cond (decide (a1.Least ≥ 1))
      (cond (decide (a1.Least ≤ a1.Most))
      (some (decide (a1.Most ≤ 40)))
      (some (false)))
      (some (false)))
      (cond (a1.Kind == 4)
      (Option.bind (G83 a0 a1.To) fun r12 =>
      cond (decide (r12 ≥ 0))
      (Option.bind (G104 a1.Role 1 3) fun r13 =>
      cond r13
      (cond (decide (a1.Default = (⟨#[]⟩ : ByteArray)))
      (cond (a1.Role != 2)
      (some (true))
      (some (!a1.Must)))
      (some (false)))
      (some (false)))
      (some (false)))
      (some (false))))))))
theorem t99 (n : Nat) (a0 : List (C .e81)) (a1 : VGateField) : runFn X99 (F99 n) Go.Proofs.Try.f99 [.one (.row .e81 a0), .agg [.str a1.Name, .int .i64 a1.Kind, .int .i64 a1.Least, .int .i64 a1.Most, .row .e9 a1.Words, .str a1.To, .int .i64 a1.Role, .bool a1.Must, .bool a1.Fixed, .str a1.Default, .str a1.Weighs]] dec99 = G99n n a0 a1 := by
  kernel_rfl
noncomputable def G99 (a0 : List (C .e81)) (a1 : VGateField) : Option (Bool) := G99n fuel a0 a1
noncomputable def con99 : Con C := { R0 := Bool, ret := fun r => [(false, [.bool r])], g := fun vs => match vs with
  | [.one (.row .e81 y0), .agg [.str y1_0, .int .i64 y1_1, .int .i64 y1_2, .int .i64 y1_3, .row .e9 y1_4, .str y1_5, .int .i64 y1_6, .bool y1_7, .bool y1_8, .str y1_9, .str y1_10]] => G99 y0 ⟨y1_0, y1_1, y1_2, y1_3, y1_4, y1_5, y1_6, y1_7, y1_8, y1_9, y1_10⟩
  | _ => none }
theorem x99 : XOk Go.Proofs.Try.prog X99 := ⟨tks_ok, els_ok, mps_ok, meths_ok⟩
theorem q99 : Cons Go.Proofs.Try.prog X99 := ⟨lkR_ok (l := [(74, con74), (83, con83), (101, con101), (104, con104), (121, con121), (122, con122)]) ⟨c74, c83, c101, c104, c121, c122, trivial⟩, lkW_ok (l := []) trivial, lkI_ok (l := []) trivial⟩
theorem c99 : ConOk Go.Proofs.Try.prog KK 99 con99 := by
  refine con_dec x99 q99 (by kernel_rfl) (f := 99) (fn := Go.Proofs.Try.f99) (c := bodyOf Go.Proofs.Try.f99) (by kernel_rfl) (by kernel_rfl) (by kernel_rfl) (nameB (by kernel_rfl)) con99 dec99 (fun rs r0 h => ?_) (fun vs r0 h => ?_)
  · unfold dec99 at h
    split at h
    · cases h; rfl
    · cases h
  · simp only [con99] at h
    split at h
    · rename_i y0 y1_0 y1_1 y1_2 y1_3 y1_4 y1_5 y1_6 y1_7 y1_8 y1_9 y1_10
      exact ⟨Nat.le_of_ble_eq_true (by kernel_rfl), F99 fuel, (t99 fuel y0 ⟨y1_0, y1_1, y1_2, y1_3, y1_4, y1_5, y1_6, y1_7, y1_8, y1_9, y1_10⟩).trans h⟩
    · cases h
/-! ### f71 loop.example/wharfdesk/spec.GateShapesOk -/
noncomputable def X71 : Cx C := { K := KK, tk := lk tks, con := lkC [(74, con74), (99, con99)], conw := lkC [], inl := lkA [], hold := [], mp := lk mps, meth := lkS meths, off := 4653056 }
def F71 (n : Nat) : Cf := { N := n, keep := [0, 2, 3, 4, 5, 6, 9, 13, 44, 49, 59, 62, 77], live := lk [(0, [0, 3]), (2, [0, 3, 4, 5]), (4, [0, 3, 4, 5, 6])] }
def dec71 (rs : List (Bool × List (Lf C))) : Option (Bool) := match rs with
  | [(false, [.bool z0])] => some z0
  | _ => none
abbrev A71_2 : Type := List (C .e81) × Int × Int × Int × ByteArray × List (C .e100)
def s71_2 : A71_2 → St C := fun (x2_0, x2_1, x2_2, x2_3, x2_4, x2_5) => { env := [(0, .one (.row .e81 x2_0)), (3, .one (.int .i64 x2_1)), (4, .one (.ptr 4653312 0)), (5, .one (.int .i64 x2_2)), (6, .one (.int .i64 x2_3))], objs := [(4653312, .box .mem [.str x2_4, .row .e100 x2_5])], base := 0 }
abbrev A71_1 : Type := List (C .e81) × Int × Int × ByteArray × List (C .e100)
def s71_1 : A71_1 → St C := fun (x1_0, x1_1, x1_2, x1_3, x1_4) => { env := [(0, .one (.row .e81 x1_0)), (3, .one (.int .i64 x1_1)), (4, .one (.ptr 4653312 0)), (5, .one (.int .i64 x1_2))], objs := [(4653312, .box .mem [.str x1_3, .row .e100 x1_4])], base := 0 }
abbrev A71_0 : Type := List (C .e81) × Int
def s71_0 : A71_0 → St C := fun (x0_0, x0_1) => { env := [(0, .one (.row .e81 x0_0)), (3, .one (.int .i64 x0_1))], objs := [], base := 0 }
noncomputable def r71_2 (n : Nat) (rec0 : A71_0 → Option (Bool)) (rec1 : A71_1 → Option (Bool)) (rec2 : A71_2 → Option (Bool)) : A71_2 → Option (Bool) := fun (x2_0, x2_1, x2_2, x2_3, x2_4, x2_5) =>
      cond (decide (x2_3 < x2_2))
      (cond (decide (0 ≤ x2_3)) (Option.bind x2_5[x2_3.toNat]? fun x6 => cond (decide (0 ≤ x2_2)) (Option.bind x2_5[x2_2.toNat]? fun x7 => cond (decide (x6.Name = x7.Name))
      (some (false))
      (rec2 (x2_0, x2_1, x2_2, IntKind.i64.wrap (x2_3 + 1), x2_4, x2_5))) none) none)
      (rec1 (x2_0, x2_1, IntKind.i64.wrap (x2_2 + 1), x2_4, x2_5))
noncomputable def LP71_2 (n : Nat) (rec0 : A71_0 → Option (Bool)) (rec1 : A71_1 → Option (Bool)) (x : A71_2) : Option (Bool) := lpN (r71_2 n rec0 rec1) n x
noncomputable def MP71_2 (n : Nat) (rec0 : St C → Option (Bool)) (rec1 : St C → Option (Bool)) (x : A71_2) : Option (Bool) := iter (fun rec S => run X71 (F71 n) (codeAt (bodyOf Go.Proofs.Try.f71) [1, 1, 0, 1, 0, 0, 1, 0, 0, 1, 1, 1, 0, 0, 1, 0, 0, 1, 1, 0, 0]) 4 S (lopK rec (blkK 4 (blkK 3 (seqK (run X71 (F71 n) (codeAt (bodyOf Go.Proofs.Try.f71) [1, 1, 0, 1, 0, 0, 1, 0, 0, 1, 1, 1, 0, 0, 1, 1]) 2) (lopK (canThen [0, 3, 4, 5] rec1) (blkK 2 (blkK 1 (seqK (run X71 (F71 n) (codeAt (bodyOf Go.Proofs.Try.f71) [1, 1, 0, 1, 0, 0, 1, 1]) 0) (lopK (canThen [0, 3] rec0) (blkK 0 (seqK (run X71 (F71 n) (codeAt (bodyOf Go.Proofs.Try.f71) [1, 1, 1]) 0) (kTop X71 Go.Proofs.Try.f71 dec71))))))))))))) [0, 3, 4, 5, 6] n (s71_2 x)
theorem m71_2 (n : Nat) (rec0 : St C → Option (Bool)) (rec1 : St C → Option (Bool)) (x : A71_2) : MP71_2 n rec0 rec1 x = LP71_2 n (fun x => rec0 (s71_0 x)) (fun x => rec1 (s71_1 x)) x := by
  refine iter_eq s71_2 (r71_2 n (fun x => rec0 (s71_0 x)) (fun x => rec1 (s71_1 x))) (fun rec2 x => ?_) n x
  obtain ⟨x2_0, x2_1, x2_2, x2_3, x2_4, x2_5⟩ := x
  kernel_rfl
noncomputable def r71_1 (n : Nat) (rec0 : A71_0 → Option (Bool)) (rec1 : A71_1 → Option (Bool)) : A71_1 → Option (Bool) := fun (x1_0, x1_1, x1_2, x1_3, x1_4) =>
      cond (decide (x1_2 < (x1_4.length : Int)))
      (cond (decide (0 ≤ x1_2)) (Option.bind x1_4[x1_2.toNat]? fun x4 => Option.bind (G99 x1_0 x4) fun r5 =>
      cond (!r5)
      (some (false))
      (LP71_2 n rec0 rec1 (x1_0, x1_1, x1_2, 0, x1_3, x1_4))) none)
      (rec0 (x1_0, IntKind.i64.wrap (x1_1 + 1)))
noncomputable def LP71_1 (n : Nat) (rec0 : A71_0 → Option (Bool)) (x : A71_1) : Option (Bool) := lpN (r71_1 n rec0) n x
noncomputable def MP71_1 (n : Nat) (rec0 : St C → Option (Bool)) (x : A71_1) : Option (Bool) := iter (fun rec S => run X71 (F71 n) (codeAt (bodyOf Go.Proofs.Try.f71) [1, 1, 0, 1, 0, 0, 1, 0, 0, 1, 1, 1, 0, 0]) 2 S (lopK rec (blkK 2 (blkK 1 (seqK (run X71 (F71 n) (codeAt (bodyOf Go.Proofs.Try.f71) [1, 1, 0, 1, 0, 0, 1, 1]) 0) (lopK (canThen [0, 3] rec0) (blkK 0 (seqK (run X71 (F71 n) (codeAt (bodyOf Go.Proofs.Try.f71) [1, 1, 1]) 0) (kTop X71 Go.Proofs.Try.f71 dec71))))))))) [0, 3, 4, 5] n (s71_1 x)
theorem m71_1 (n : Nat) (rec0 : St C → Option (Bool)) (x : A71_1) : MP71_1 n rec0 x = LP71_1 n (fun x => rec0 (s71_0 x)) x := by
  refine iter_eq s71_1 (r71_1 n (fun x => rec0 (s71_0 x))) (fun rec1 x => ?_) n x
  obtain ⟨x1_0, x1_1, x1_2, x1_3, x1_4⟩ := x
  have h : run X71 (F71 n) (codeAt (bodyOf Go.Proofs.Try.f71) [1, 1, 0, 1, 0, 0, 1, 0, 0, 1, 1, 1, 0, 0]) 2 (s71_1 (x1_0, x1_1, x1_2, x1_3, x1_4)) (lopK (canThen [0, 3, 4, 5] rec1) (blkK 2 (blkK 1 (seqK (run X71 (F71 n) (codeAt (bodyOf Go.Proofs.Try.f71) [1, 1, 0, 1, 0, 0, 1, 1]) 0) (lopK (canThen [0, 3] rec0) (blkK 0 (seqK (run X71 (F71 n) (codeAt (bodyOf Go.Proofs.Try.f71) [1, 1, 1]) 0) (kTop X71 Go.Proofs.Try.f71 dec71)))))))) =
      cond (decide (x1_2 < (x1_4.length : Int)))
      (cond (decide (0 ≤ x1_2)) (Option.bind x1_4[x1_2.toNat]? fun x4 => Option.bind (G99 x1_0 x4) fun r5 =>
      cond (!r5)
      (some (false))
      (MP71_2 n rec0 rec1 (x1_0, x1_1, x1_2, 0, x1_3, x1_4))) none)
      ((fun x => rec0 (s71_0 x)) (x1_0, IntKind.i64.wrap (x1_1 + 1))) := by kernel_rfl
  simp only [m71_2] at h
  exact h
noncomputable def r71_0 (n : Nat)  (rec0 : A71_0 → Option (Bool)) : A71_0 → Option (Bool) := fun (x0_0, x0_1) =>
      cond (decide (x0_1 < (x0_0.length : Int)))
      (cond (decide (0 ≤ x0_1)) (Option.bind x0_0[x0_1.toNat]? fun x1 => Option.bind (G74 x1.Kind) fun r2 =>
      cond (!r2)
      (some (false))
      (cond (decide (x0_1 > 0))
      (cond (decide (0 ≤ IntKind.i64.wrap (x0_1 - 1))) (Option.bind x0_0[(IntKind.i64.wrap (x0_1 - 1)).toNat]? fun x3 => cond (!slt x3.Kind x1.Kind)
      (some (false))
      (cond (decide ((x1.Fields.length : Int) > 6))
      (some (false))
      (LP71_1 n rec0 (x0_0, x0_1, 0, x1.Kind, x1.Fields)))) none)
      (cond (decide ((x1.Fields.length : Int) > 6))
      (some (false))
      (LP71_1 n rec0 (x0_0, x0_1, 0, x1.Kind, x1.Fields))))) none)
      (some (true))
noncomputable def LP71_0 (n : Nat)  (x : A71_0) : Option (Bool) := lpN (r71_0 n ) n x
noncomputable def MP71_0 (n : Nat)  (x : A71_0) : Option (Bool) := iter (fun rec S => run X71 (F71 n) (codeAt (bodyOf Go.Proofs.Try.f71) [1, 1, 0, 1, 0, 0]) 0 S (lopK rec (blkK 0 (seqK (run X71 (F71 n) (codeAt (bodyOf Go.Proofs.Try.f71) [1, 1, 1]) 0) (kTop X71 Go.Proofs.Try.f71 dec71))))) [0, 3] n (s71_0 x)
theorem m71_0 (n : Nat)  (x : A71_0) : MP71_0 n  x = LP71_0 n  x := by
  refine iter_eq s71_0 (r71_0 n ) (fun rec0 x => ?_) n x
  obtain ⟨x0_0, x0_1⟩ := x
  have h : run X71 (F71 n) (codeAt (bodyOf Go.Proofs.Try.f71) [1, 1, 0, 1, 0, 0]) 0 (s71_0 (x0_0, x0_1)) (lopK (canThen [0, 3] rec0) (blkK 0 (seqK (run X71 (F71 n) (codeAt (bodyOf Go.Proofs.Try.f71) [1, 1, 1]) 0) (kTop X71 Go.Proofs.Try.f71 dec71)))) =
      cond (decide (x0_1 < (x0_0.length : Int)))
      (cond (decide (0 ≤ x0_1)) (Option.bind x0_0[x0_1.toNat]? fun x1 => Option.bind (G74 x1.Kind) fun r2 =>
      cond (!r2)
      (some (false))
      (cond (decide (x0_1 > 0))
      (cond (decide (0 ≤ IntKind.i64.wrap (x0_1 - 1))) (Option.bind x0_0[(IntKind.i64.wrap (x0_1 - 1)).toNat]? fun x3 => cond (!slt x3.Kind x1.Kind)
      (some (false))
      (cond (decide ((x1.Fields.length : Int) > 6))
      (some (false))
      (MP71_1 n rec0 (x0_0, x0_1, 0, x1.Kind, x1.Fields)))) none)
      (cond (decide ((x1.Fields.length : Int) > 6))
      (some (false))
      (MP71_1 n rec0 (x0_0, x0_1, 0, x1.Kind, x1.Fields))))) none)
      (some (true)) := by kernel_rfl
  simp only [m71_1] at h
  exact h
noncomputable def G71n (n : Nat) (a0 : List (C .e81)) : Option (Bool) :=
      cond (decide ((a0.length : Int) > 6))
      (some (false))
      (LP71_0 n  (a0, 0))
theorem t71 (n : Nat) (a0 : List (C .e81)) : runFn X71 (F71 n) Go.Proofs.Try.f71 [.one (.row .e81 a0)] dec71 = G71n n a0 := by
  have h : runFn X71 (F71 n) Go.Proofs.Try.f71 [.one (.row .e81 a0)] dec71 =
      cond (decide ((a0.length : Int) > 6))
      (some (false))
      (MP71_0 n  (a0, 0)) := by kernel_rfl
  simp only [h, G71n, m71_0]
noncomputable def G71 (a0 : List (C .e81)) : Option (Bool) := G71n fuel a0
noncomputable def con71 : Con C := { R0 := Bool, ret := fun r => [(false, [.bool r])], g := fun vs => match vs with
  | [.one (.row .e81 y0)] => G71 y0
  | _ => none }
theorem x71 : XOk Go.Proofs.Try.prog X71 := ⟨tks_ok, els_ok, mps_ok, meths_ok⟩
theorem q71 : Cons Go.Proofs.Try.prog X71 := ⟨lkR_ok (l := [(74, con74), (99, con99)]) ⟨c74, c99, trivial⟩, lkW_ok (l := []) trivial, lkI_ok (l := []) trivial⟩
theorem c71 : ConOk Go.Proofs.Try.prog KK 71 con71 := by
  refine con_dec x71 q71 (by kernel_rfl) (f := 71) (fn := Go.Proofs.Try.f71) (c := bodyOf Go.Proofs.Try.f71) (by kernel_rfl) (by kernel_rfl) (by kernel_rfl) (nameB (by kernel_rfl)) con71 dec71 (fun rs r0 h => ?_) (fun vs r0 h => ?_)
  · unfold dec71 at h
    split at h
    · cases h; rfl
    · cases h
  · simp only [con71] at h
    split at h
    · rename_i y0
      exact ⟨Nat.le_of_ble_eq_true (by kernel_rfl), F71 fuel, (t71 fuel y0).trans h⟩
    · cases h
/-! ### f85 loop.example/wharfdesk/spec.l3Field -/
noncomputable def X85 : Cx C := { K := KK, tk := lk tks, con := lkC [], conw := lkC [], inl := lkA [], hold := [], mp := lk mps, meth := lkS meths, off := 5570560 }
def F85 (n : Nat) : Cf := { N := n, keep := [0, 1, 4, 5, 9, 18], live := lk [(0, [0, 1, 5])] }
def dec85 (rs : List (Bool × List (Lf C))) : Option (Int) := match rs with
  | [(false, [.int .i64 z0])] => some z0
  | _ => none
abbrev A85_0 : Type := List (C .e100) × ByteArray × Int
def s85_0 : A85_0 → St C := fun (x0_0, x0_1, x0_2) => { env := [(0, .one (.row .e100 x0_0)), (1, .one (.str x0_1)), (5, .one (.int .i64 x0_2))], objs := [], base := 0 }
noncomputable def r85_0 (n : Nat)  (rec0 : A85_0 → Option (Int)) : A85_0 → Option (Int) := fun (x0_0, x0_1, x0_2) =>
      cond (decide (x0_2 < (x0_0.length : Int)))
      (cond (decide (0 ≤ x0_2)) (Option.bind x0_0[x0_2.toNat]? fun x1 => cond (decide (x1.Name = x0_1))
      (some (x0_2))
      (rec0 (x0_0, x0_1, IntKind.i64.wrap (x0_2 + 1)))) none)
      (some ((-1)))
noncomputable def LP85_0 (n : Nat)  (x : A85_0) : Option (Int) := lpN (r85_0 n ) n x
noncomputable def MP85_0 (n : Nat)  (x : A85_0) : Option (Int) := iter (fun rec S => run X85 (F85 n) (codeAt (bodyOf Go.Proofs.Try.f85) [1, 0, 1, 0, 0]) 0 S (lopK rec (blkK 0 (seqK (run X85 (F85 n) (codeAt (bodyOf Go.Proofs.Try.f85) [1, 1]) 0) (kTop X85 Go.Proofs.Try.f85 dec85))))) [0, 1, 5] n (s85_0 x)
theorem m85_0 (n : Nat)  (x : A85_0) : MP85_0 n  x = LP85_0 n  x := by
  refine iter_eq s85_0 (r85_0 n ) (fun rec0 x => ?_) n x
  obtain ⟨x0_0, x0_1, x0_2⟩ := x
  kernel_rfl
noncomputable def G85n (n : Nat) (a0 : List (C .e100)) (a1 : ByteArray) : Option (Int) :=
      LP85_0 n  (a0, a1, 0)
theorem t85 (n : Nat) (a0 : List (C .e100)) (a1 : ByteArray) : runFn X85 (F85 n) Go.Proofs.Try.f85 [.one (.row .e100 a0), .one (.str a1)] dec85 = G85n n a0 a1 := by
  have h : runFn X85 (F85 n) Go.Proofs.Try.f85 [.one (.row .e100 a0), .one (.str a1)] dec85 =
      MP85_0 n  (a0, a1, 0) := by kernel_rfl
  simp only [h, G85n, m85_0]
noncomputable def G85 (a0 : List (C .e100)) (a1 : ByteArray) : Option (Int) := G85n fuel a0 a1
noncomputable def con85 : Con C := { R0 := Int, ret := fun r => [(false, [.int .i64 r])], g := fun vs => match vs with
  | [.one (.row .e100 y0), .one (.str y1)] => G85 y0 y1
  | _ => none }
theorem x85 : XOk Go.Proofs.Try.prog X85 := ⟨tks_ok, els_ok, mps_ok, meths_ok⟩
theorem q85 : Cons Go.Proofs.Try.prog X85 := ⟨lkR_ok (l := []) trivial, lkW_ok (l := []) trivial, lkI_ok (l := []) trivial⟩
theorem c85 : ConOk Go.Proofs.Try.prog KK 85 con85 := by
  refine con_dec x85 q85 (by kernel_rfl) (f := 85) (fn := Go.Proofs.Try.f85) (c := bodyOf Go.Proofs.Try.f85) (by kernel_rfl) (by kernel_rfl) (by kernel_rfl) (nameB (by kernel_rfl)) con85 dec85 (fun rs r0 h => ?_) (fun vs r0 h => ?_)
  · unfold dec85 at h
    split at h
    · cases h; rfl
    · cases h
  · simp only [con85] at h
    split at h
    · rename_i y0 y1
      exact ⟨Nat.le_of_ble_eq_true (by kernel_rfl), F85 fuel, (t85 fuel y0 y1).trans h⟩
    · cases h
/-! ### f100 loop.example/wharfdesk/spec.l3Plain -/
noncomputable def X100 : Cx C := { K := KK, tk := lk tks, con := lkC [(85, con85)], conw := lkC [], inl := lkA [], hold := [], mp := lk mps, meth := lkS meths, off := 6553600 }
def F100 (n : Nat) : Cf := { N := n, keep := [0, 1, 4, 5], live := lk [] }
def dec100 (rs : List (Bool × List (Lf C))) : Option (Bool) := match rs with
  | [(false, [.bool z0])] => some z0
  | _ => none
noncomputable def G100n (n : Nat) (a0 : List (C .e100)) (a1 : ByteArray) : Option (Bool) :=
      Option.bind (G85 a0 a1) fun r1 =>
      cond (decide (r1 ≥ 0))
      (cond (decide (0 ≤ r1)) (Option.bind a0[r1.toNat]? fun x2 => some (x2.Kind != 4)) none)
      (some (false))
theorem t100 (n : Nat) (a0 : List (C .e100)) (a1 : ByteArray) : runFn X100 (F100 n) Go.Proofs.Try.f100 [.one (.row .e100 a0), .one (.str a1)] dec100 = G100n n a0 a1 := by
  kernel_rfl
noncomputable def G100 (a0 : List (C .e100)) (a1 : ByteArray) : Option (Bool) := G100n fuel a0 a1
noncomputable def con100 : Con C := { R0 := Bool, ret := fun r => [(false, [.bool r])], g := fun vs => match vs with
  | [.one (.row .e100 y0), .one (.str y1)] => G100 y0 y1
  | _ => none }
theorem x100 : XOk Go.Proofs.Try.prog X100 := ⟨tks_ok, els_ok, mps_ok, meths_ok⟩
theorem q100 : Cons Go.Proofs.Try.prog X100 := ⟨lkR_ok (l := [(85, con85)]) ⟨c85, trivial⟩, lkW_ok (l := []) trivial, lkI_ok (l := []) trivial⟩
theorem c100 : ConOk Go.Proofs.Try.prog KK 100 con100 := by
  refine con_dec x100 q100 (by kernel_rfl) (f := 100) (fn := Go.Proofs.Try.f100) (c := bodyOf Go.Proofs.Try.f100) (by kernel_rfl) (by kernel_rfl) (by kernel_rfl) (nameB (by kernel_rfl)) con100 dec100 (fun rs r0 h => ?_) (fun vs r0 h => ?_)
  · unfold dec100 at h
    split at h
    · cases h; rfl
    · cases h
  · simp only [con100] at h
    split at h
    · rename_i y0 y1
      exact ⟨Nat.le_of_ble_eq_true (by kernel_rfl), F100 fuel, (t100 fuel y0 y1).trans h⟩
    · cases h
/-! ### f72 loop.example/wharfdesk/spec.l3MendOk -/
noncomputable def X72 : Cx C := { K := KK, tk := lk tks, con := lkC [(83, con83), (85, con85), (100, con100), (101, con101)], conw := lkC [], inl := lkA [], hold := [], mp := lk mps, meth := lkS meths, off := 4718592 }
def F72 (n : Nat) : Cf := { N := n, keep := [0, 1, 3, 4, 5, 6, 12, 46, 77], live := lk [] }
def dec72 (rs : List (Bool × List (Lf C))) : Option (Bool) := match rs with
  | [(false, [.bool z0])] => some z0
  | _ => none
noncomputable def G72n (n : Nat) (a0 : List (C .e81)) (a1 : VGateMend) : Option (Bool) :=
      Option.bind (G83 a0 a1.Kind) fun r1 =>
      cond (decide (r1 < 0))
      (some (false))
      (cond (decide (0 ≤ r1)) (Option.bind a0[r1.toNat]? fun x2 => Option.bind (G100 x2.Fields a1.Field) fun r3 =>
      cond (!r3)
      (some (false))
      (cond (!decide (a1.When = (⟨#[]⟩ : ByteArray)))
      (Option.bind (G100 x2.Fields a1.When) fun r4 =>
      cond (!r4)
      (some (false))
      (cond (!decide (a1.From = (⟨#[]⟩ : ByteArray)))
      (Option.bind (G100 x2.Fields a1.From) fun r5 =>
      cond (!r5)
      (some (false))
      (cond (decide (a1.When = a1.Field))
      (some (false))
      (cond (decide (a1.From = a1.Field))
      (some (false))
      (cond (decide (a1.When = (⟨#[]⟩ : ByteArray)))
      (cond (!decide (a1.Is = (⟨#[]⟩ : ByteArray)))
      (some (false))
      (cond ((decide (a1.Put = (⟨#[]⟩ : ByteArray))) == (decide (a1.From = (⟨#[]⟩ : ByteArray))))
      (some (false))
      (cond (decide (a1.Put = (⟨#[]⟩ : ByteArray)))
      (some (true))
      (Option.bind (G85 x2.Fields a1.Field) fun r6 =>
      cond (decide (0 ≤ r6)) (Option.bind x2.Fields[r6.toNat]? fun x7 => Option.bind (G101 x7 a1.Put) fun r8 =>
      some (r8)) none))))
      (cond ((decide (a1.Put = (⟨#[]⟩ : ByteArray))) == (decide (a1.From = (⟨#[]⟩ : ByteArray))))
      (some (false))
      (cond (decide (a1.Put = (⟨#[]⟩ : ByteArray)))
      (some (true))
      (Option.bind (G85 x2.Fields a1.Field) fun r9 =>
      cond (decide (0 ≤ r9)) (Option.bind x2.Fields[r9.toNat]? fun x10 => Option.bind (G101 x10 a1.Put) fun r11 =>
      some (r11)) none)))))))
      (cond (decide (a1.When = a1.Field))
      (some (false))
      (cond (decide (a1.From = a1.Field))
      (some (false))
      (cond (decide (a1.When = (⟨#[]⟩ : ByteArray)))
      (cond (!decide (a1.Is = (⟨#[]⟩ : ByteArray)))
      (some (false))
      (cond ((decide (a1.Put = (⟨#[]⟩ : ByteArray))) == (decide (a1.From = (⟨#[]⟩ : ByteArray))))
      (some (false))
      (cond (decide (a1.Put = (⟨#[]⟩ : ByteArray)))
      (some (true))
      (Option.bind (G85 x2.Fields a1.Field) fun r12 =>
      cond (decide (0 ≤ r12)) (Option.bind x2.Fields[r12.toNat]? fun x13 => Option.bind (G101 x13 a1.Put) fun r14 =>
      some (r14)) none))))
      (cond ((decide (a1.Put = (⟨#[]⟩ : ByteArray))) == (decide (a1.From = (⟨#[]⟩ : ByteArray))))
      (some (false))
      (cond (decide (a1.Put = (⟨#[]⟩ : ByteArray)))
      (some (true))
      (Option.bind (G85 x2.Fields a1.Field) fun r15 =>
      cond (decide (0 ≤ r15)) (Option.bind x2.Fields[r15.toNat]? fun x16 => Option.bind (G101 x16 a1.Put) fun r17 =>
      some (r17)) none))))))))
      (cond (!decide (a1.From = (⟨#[]⟩ : ByteArray)))
      (Option.bind (G100 x2.Fields a1.From) fun r18 =>
      cond (!r18)
      (some (false))
      (cond (decide (a1.When = a1.Field))
      (some (false))
      (cond (decide (a1.From = a1.Field))
      (some (false))
      (cond (decide (a1.When = (⟨#[]⟩ : ByteArray)))
      (cond (!decide (a1.Is = (⟨#[]⟩ : ByteArray)))
      (some (false))
      (cond ((decide (a1.Put = (⟨#[]⟩ : ByteArray))) == (decide (a1.From = (⟨#[]⟩ : ByteArray))))
      (some (false))
      (cond (decide (a1.Put = (⟨#[]⟩ : ByteArray)))
      (some (true))
      (Option.bind (G85 x2.Fields a1.Field) fun r19 =>
      cond (decide (0 ≤ r19)) (Option.bind x2.Fields[r19.toNat]? fun x20 => Option.bind (G101 x20 a1.Put) fun r21 =>
      some (r21)) none))))
      (cond ((decide (a1.Put = (⟨#[]⟩ : ByteArray))) == (decide (a1.From = (⟨#[]⟩ : ByteArray))))
      (some (false))
      (cond (decide (a1.Put = (⟨#[]⟩ : ByteArray)))
      (some (true))
      (Option.bind (G85 x2.Fields a1.Field) fun r22 =>
      cond (decide (0 ≤ r22)) (Option.bind x2.Fields[r22.toNat]? fun x23 => Option.bind (G101 x23 a1.Put) fun r24 =>
      some (r24)) none)))))))
      (cond (decide (a1.When = a1.Field))
      (some (false))
      (cond (decide (a1.From = a1.Field))
      (some (false))
      (cond (decide (a1.When = (⟨#[]⟩ : ByteArray)))
      (cond (!decide (a1.Is = (⟨#[]⟩ : ByteArray)))
      (some (false))
      (cond ((decide (a1.Put = (⟨#[]⟩ : ByteArray))) == (decide (a1.From = (⟨#[]⟩ : ByteArray))))
      (some (false))
      (cond (decide (a1.Put = (⟨#[]⟩ : ByteArray)))
      (some (true))
      (Option.bind (G85 x2.Fields a1.Field) fun r25 =>
      cond (decide (0 ≤ r25)) (Option.bind x2.Fields[r25.toNat]? fun x26 => Option.bind (G101 x26 a1.Put) fun r27 =>
      some (r27)) none))))
      (cond ((decide (a1.Put = (⟨#[]⟩ : ByteArray))) == (decide (a1.From = (⟨#[]⟩ : ByteArray))))
      (some (false))
      (cond (decide (a1.Put = (⟨#[]⟩ : ByteArray)))
      (some (true))
      (Option.bind (G85 x2.Fields a1.Field) fun r28 =>
      cond (decide (0 ≤ r28)) (Option.bind x2.Fields[r28.toNat]? fun x29 => Option.bind (G101 x29 a1.Put) fun r30 =>
      some (r30)) none))))))))) none)
theorem t72 (n : Nat) (a0 : List (C .e81)) (a1 : VGateMend) : runFn X72 (F72 n) Go.Proofs.Try.f72 [.one (.row .e81 a0), .agg [.str a1.Kind, .str a1.Field, .str a1.When, .str a1.Is, .str a1.Put, .str a1.From]] dec72 = G72n n a0 a1 := by
  kernel_rfl
noncomputable def G72 (a0 : List (C .e81)) (a1 : VGateMend) : Option (Bool) := G72n fuel a0 a1
noncomputable def con72 : Con C := { R0 := Bool, ret := fun r => [(false, [.bool r])], g := fun vs => match vs with
  | [.one (.row .e81 y0), .agg [.str y1_0, .str y1_1, .str y1_2, .str y1_3, .str y1_4, .str y1_5]] => G72 y0 ⟨y1_0, y1_1, y1_2, y1_3, y1_4, y1_5⟩
  | _ => none }
theorem x72 : XOk Go.Proofs.Try.prog X72 := ⟨tks_ok, els_ok, mps_ok, meths_ok⟩
theorem q72 : Cons Go.Proofs.Try.prog X72 := ⟨lkR_ok (l := [(83, con83), (85, con85), (100, con100), (101, con101)]) ⟨c83, c85, c100, c101, trivial⟩, lkW_ok (l := []) trivial, lkI_ok (l := []) trivial⟩
theorem c72 : ConOk Go.Proofs.Try.prog KK 72 con72 := by
  refine con_dec x72 q72 (by kernel_rfl) (f := 72) (fn := Go.Proofs.Try.f72) (c := bodyOf Go.Proofs.Try.f72) (by kernel_rfl) (by kernel_rfl) (by kernel_rfl) (nameB (by kernel_rfl)) con72 dec72 (fun rs r0 h => ?_) (fun vs r0 h => ?_)
  · unfold dec72 at h
    split at h
    · cases h; rfl
    · cases h
  · simp only [con72] at h
    split at h
    · rename_i y0 y1_0 y1_1 y1_2 y1_3 y1_4 y1_5
      exact ⟨Nat.le_of_ble_eq_true (by kernel_rfl), F72 fuel, (t72 fuel y0 ⟨y1_0, y1_1, y1_2, y1_3, y1_4, y1_5⟩).trans h⟩
    · cases h
/-! ### f103 loop.example/wharfdesk/spec.l3Ready -/
noncomputable def X103 : Cx C := { K := KK, tk := lk tks, con := lkC [(102, con102)], conw := lkC [], inl := lkA [], hold := [], mp := lk mps, meth := lkS meths, off := 6750208 }
def F103 (n : Nat) : Cf := { N := n, keep := [0, 1, 2, 3, 8, 9, 10, 14, 54], live := lk [(0, [0, 1, 2, 3, 9])] }
def dec103 (rs : List (Bool × List (Lf C))) : Option (Bool) := match rs with
  | [(false, [.bool z0])] => some z0
  | _ => none
abbrev A103_0 : Type := List (C .e83) × ByteArray × ByteArray × List (C .e9) × Int
def s103_0 : A103_0 → St C := fun (x0_0, x0_1, x0_2, x0_3, x0_4) => { env := [(0, .one (.row .e83 x0_0)), (1, .one (.str x0_1)), (2, .one (.str x0_2)), (3, .one (.row .e9 x0_3)), (9, .one (.int .i64 x0_4))], objs := [], base := 0 }
noncomputable def r103_0 (n : Nat)  (rec0 : A103_0 → Option (Bool)) : A103_0 → Option (Bool) := fun (x0_0, x0_1, x0_2, x0_3, x0_4) =>
      cond (decide (x0_4 < (x0_0.length : Int)))
      (cond (decide (0 ≤ x0_4)) (Option.bind x0_0[x0_4.toNat]? fun x1 => cond (decide (x1.Kind = x0_1))
      (cond (decide (x1.Field = x0_2))
      (cond (!decide (x1.When = (⟨#[]⟩ : ByteArray)))
      (Option.bind (G102 x0_3 x1.When) fun r2 =>
      cond (!r2)
      (some (false))
      (cond (!decide (x1.From = (⟨#[]⟩ : ByteArray)))
      (Option.bind (G102 x0_3 x1.From) fun r3 =>
      cond (!r3)
      (some (false))
      (rec0 (x0_0, x0_1, x0_2, x0_3, IntKind.i64.wrap (x0_4 + 1))))
      (rec0 (x0_0, x0_1, x0_2, x0_3, IntKind.i64.wrap (x0_4 + 1)))))
      (cond (!decide (x1.From = (⟨#[]⟩ : ByteArray)))
      (Option.bind (G102 x0_3 x1.From) fun r4 =>
      cond (!r4)
      (some (false))
      (rec0 (x0_0, x0_1, x0_2, x0_3, IntKind.i64.wrap (x0_4 + 1))))
      (rec0 (x0_0, x0_1, x0_2, x0_3, IntKind.i64.wrap (x0_4 + 1)))))
      (rec0 (x0_0, x0_1, x0_2, x0_3, IntKind.i64.wrap (x0_4 + 1))))
      (rec0 (x0_0, x0_1, x0_2, x0_3, IntKind.i64.wrap (x0_4 + 1)))) none)
      (some (true))
noncomputable def LP103_0 (n : Nat)  (x : A103_0) : Option (Bool) := lpN (r103_0 n ) n x
noncomputable def MP103_0 (n : Nat)  (x : A103_0) : Option (Bool) := iter (fun rec S => run X103 (F103 n) (codeAt (bodyOf Go.Proofs.Try.f103) [1, 0, 1, 0, 0]) 0 S (lopK rec (blkK 0 (seqK (run X103 (F103 n) (codeAt (bodyOf Go.Proofs.Try.f103) [1, 1]) 0) (kTop X103 Go.Proofs.Try.f103 dec103))))) [0, 1, 2, 3, 9] n (s103_0 x)
theorem m103_0 (n : Nat)  (x : A103_0) : MP103_0 n  x = LP103_0 n  x := by
  refine iter_eq s103_0 (r103_0 n ) (fun rec0 x => ?_) n x
  obtain ⟨x0_0, x0_1, x0_2, x0_3, x0_4⟩ := x
  kernel_rfl
noncomputable def G103n (n : Nat) (a0 : List (C .e83)) (a1 : ByteArray) (a2 : ByteArray) (a3 : List (C .e9)) : Option (Bool) :=
      LP103_0 n  (a0, a1, a2, a3, 0)
theorem t103 (n : Nat) (a0 : List (C .e83)) (a1 : ByteArray) (a2 : ByteArray) (a3 : List (C .e9)) : runFn X103 (F103 n) Go.Proofs.Try.f103 [.one (.row .e83 a0), .one (.str a1), .one (.str a2), .one (.row .e9 a3)] dec103 = G103n n a0 a1 a2 a3 := by
  have h : runFn X103 (F103 n) Go.Proofs.Try.f103 [.one (.row .e83 a0), .one (.str a1), .one (.str a2), .one (.row .e9 a3)] dec103 =
      MP103_0 n  (a0, a1, a2, a3, 0) := by kernel_rfl
  simp only [h, G103n, m103_0]
noncomputable def G103 (a0 : List (C .e83)) (a1 : ByteArray) (a2 : ByteArray) (a3 : List (C .e9)) : Option (Bool) := G103n fuel a0 a1 a2 a3
noncomputable def con103 : Con C := { R0 := Bool, ret := fun r => [(false, [.bool r])], g := fun vs => match vs with
  | [.one (.row .e83 y0), .one (.str y1), .one (.str y2), .one (.row .e9 y3)] => G103 y0 y1 y2 y3
  | _ => none }
theorem x103 : XOk Go.Proofs.Try.prog X103 := ⟨tks_ok, els_ok, mps_ok, meths_ok⟩
theorem q103 : Cons Go.Proofs.Try.prog X103 := ⟨lkR_ok (l := [(102, con102)]) ⟨c102, trivial⟩, lkW_ok (l := []) trivial, lkI_ok (l := []) trivial⟩
theorem c103 : ConOk Go.Proofs.Try.prog KK 103 con103 := by
  refine con_dec x103 q103 (by kernel_rfl) (f := 103) (fn := Go.Proofs.Try.f103) (c := bodyOf Go.Proofs.Try.f103) (by kernel_rfl) (by kernel_rfl) (by kernel_rfl) (nameB (by kernel_rfl)) con103 dec103 (fun rs r0 h => ?_) (fun vs r0 h => ?_)
  · unfold dec103 at h
    split at h
    · cases h; rfl
    · cases h
  · simp only [con103] at h
    split at h
    · rename_i y0 y1 y2 y3
      exact ⟨Nat.le_of_ble_eq_true (by kernel_rfl), F103 fuel, (t103 fuel y0 y1 y2 y3).trans h⟩
    · cases h
/-! ### f73 loop.example/wharfdesk/spec.l3Row -/
noncomputable def X73 : Cx C := { K := KK, tk := lk tks, con := lkC [(102, con102), (103, con103)], conw := lkC [], inl := lkA [], hold := [], mp := lk mps, meth := lkS meths, off := 4784128 }
def F73 (n : Nat) : Cf := { N := n, keep := [0, 1, 2, 4, 5, 6, 7, 8, 14, 21, 41], live := lk [(0, [1, 2, 5, 6]), (2, [1, 2, 5, 6, 7])] }
def dec73 (rs : List (Bool × List (Lf C))) : Option (List (C .e9)) := match rs with
  | [(false, [.row .e9 z0])] => some z0
  | _ => none
abbrev A73_1 : Type := List (C .e83) × List (C .e9) × Int × Int × ByteArray × List (C .e100)
def s73_1 : A73_1 → St C := fun (x1_0, x1_1, x1_2, x1_3, x1_4, x1_5) => { env := [(1, .one (.row .e83 x1_0)), (2, .one (.ptr 4784256 0)), (5, .one (.ref 100005 [])), (6, .one (.int .i64 x1_2)), (7, .one (.int .i64 x1_3))], objs := [(100005, .row .e9 x1_1 false), (4784256, .box .mem [.str x1_4, .row .e100 x1_5])], base := 0 }
abbrev A73_0 : Type := List (C .e83) × List (C .e9) × Int × ByteArray × List (C .e100)
def s73_0 : A73_0 → St C := fun (x0_0, x0_1, x0_2, x0_3, x0_4) => { env := [(1, .one (.row .e83 x0_0)), (2, .one (.ptr 4784256 0)), (5, .one (.ref 100005 [])), (6, .one (.int .i64 x0_2))], objs := [(100005, .row .e9 x0_1 false), (4784256, .box .mem [.str x0_3, .row .e100 x0_4])], base := 0 }
noncomputable def r73_1 (n : Nat) (rec0 : A73_0 → Option (List (C .e9))) (rec1 : A73_1 → Option (List (C .e9))) : A73_1 → Option (List (C .e9)) := fun (x1_0, x1_1, x1_2, x1_3, x1_4, x1_5) =>
      cond (decide (x1_3 < (x1_5.length : Int)))
      (cond (decide (0 ≤ x1_3)) (Option.bind x1_5[x1_3.toNat]? fun x1 => Option.bind (G102 x1_1 x1.Name) fun r2 =>
      cond (!r2)
      (Option.bind (G103 x1_0 x1_4 x1.Name x1_1) fun r3 =>
      cond r3
      (cond (decide ((x1_1.length + (([x1.Name] : List (C .e9))).length) * 16 ≤ 140737488355328)) (rec0 (x1_0, x1_1 ++ (([x1.Name] : List (C .e9))), IntKind.i64.wrap (x1_2 + 1), x1_4, x1_5)) none)
      (rec1 (x1_0, x1_1, x1_2, IntKind.i64.wrap (x1_3 + 1), x1_4, x1_5)))
      (rec1 (x1_0, x1_1, x1_2, IntKind.i64.wrap (x1_3 + 1), x1_4, x1_5))) none)
      (rec0 (x1_0, x1_1, IntKind.i64.wrap (x1_2 + 1), x1_4, x1_5))
noncomputable def LP73_1 (n : Nat) (rec0 : A73_0 → Option (List (C .e9))) (x : A73_1) : Option (List (C .e9)) := lpN (r73_1 n rec0) n x
noncomputable def MP73_1 (n : Nat) (rec0 : St C → Option (List (C .e9))) (x : A73_1) : Option (List (C .e9)) := iter (fun rec S => run X73 (F73 n) (codeAt (bodyOf Go.Proofs.Try.f73) [1, 1, 0, 1, 0, 0, 1, 0, 0, 1, 0, 0]) 2 S (lopK rec (blkK 2 (blkK 1 (seqK (run X73 (F73 n) (codeAt (bodyOf Go.Proofs.Try.f73) [1, 1, 0, 1, 0, 0, 1, 1]) 0) (lopK (canThen [1, 2, 5, 6] rec0) (blkK 0 (seqK (run X73 (F73 n) (codeAt (bodyOf Go.Proofs.Try.f73) [1, 1, 1]) 0) (kTop X73 Go.Proofs.Try.f73 dec73))))))))) [1, 2, 5, 6, 7] n (s73_1 x)
theorem m73_1 (n : Nat) (rec0 : St C → Option (List (C .e9))) (x : A73_1) : MP73_1 n rec0 x = LP73_1 n (fun x => rec0 (s73_0 x)) x := by
  refine iter_eq s73_1 (r73_1 n (fun x => rec0 (s73_0 x))) (fun rec1 x => ?_) n x
  obtain ⟨x1_0, x1_1, x1_2, x1_3, x1_4, x1_5⟩ := x
  kernel_rfl
noncomputable def r73_0 (n : Nat)  (rec0 : A73_0 → Option (List (C .e9))) : A73_0 → Option (List (C .e9)) := fun (x0_0, x0_1, x0_2, x0_3, x0_4) =>
      cond (decide (x0_2 < (x0_4.length : Int)))
      (LP73_1 n rec0 (x0_0, x0_1, x0_2, 0, x0_3, x0_4))
      (some (x0_1))
noncomputable def LP73_0 (n : Nat)  (x : A73_0) : Option (List (C .e9)) := lpN (r73_0 n ) n x
noncomputable def MP73_0 (n : Nat)  (x : A73_0) : Option (List (C .e9)) := iter (fun rec S => run X73 (F73 n) (codeAt (bodyOf Go.Proofs.Try.f73) [1, 1, 0, 1, 0, 0]) 0 S (lopK rec (blkK 0 (seqK (run X73 (F73 n) (codeAt (bodyOf Go.Proofs.Try.f73) [1, 1, 1]) 0) (kTop X73 Go.Proofs.Try.f73 dec73))))) [1, 2, 5, 6] n (s73_0 x)
theorem m73_0 (n : Nat)  (x : A73_0) : MP73_0 n  x = LP73_0 n  x := by
  refine iter_eq s73_0 (r73_0 n ) (fun rec0 x => ?_) n x
  obtain ⟨x0_0, x0_1, x0_2, x0_3, x0_4⟩ := x
  have h : run X73 (F73 n) (codeAt (bodyOf Go.Proofs.Try.f73) [1, 1, 0, 1, 0, 0]) 0 (s73_0 (x0_0, x0_1, x0_2, x0_3, x0_4)) (lopK (canThen [1, 2, 5, 6] rec0) (blkK 0 (seqK (run X73 (F73 n) (codeAt (bodyOf Go.Proofs.Try.f73) [1, 1, 1]) 0) (kTop X73 Go.Proofs.Try.f73 dec73)))) =
      cond (decide (x0_2 < (x0_4.length : Int)))
      (MP73_1 n rec0 (x0_0, x0_1, x0_2, 0, x0_3, x0_4))
      (some (x0_1)) := by kernel_rfl
  simp only [m73_1] at h
  exact h
noncomputable def G73n (n : Nat) (a0 : VGateShape) (a1 : List (C .e83)) : Option (List (C .e9)) :=
      LP73_0 n  (a1, ([] : List (C .e9)), 0, a0.Kind, a0.Fields)
theorem t73 (n : Nat) (a0 : VGateShape) (a1 : List (C .e83)) : runFn X73 (F73 n) Go.Proofs.Try.f73 [.agg [.str a0.Kind, .row .e100 a0.Fields], .one (.row .e83 a1)] dec73 = G73n n a0 a1 := by
  have h : runFn X73 (F73 n) Go.Proofs.Try.f73 [.agg [.str a0.Kind, .row .e100 a0.Fields], .one (.row .e83 a1)] dec73 =
      MP73_0 n  (a1, ([] : List (C .e9)), 0, a0.Kind, a0.Fields) := by kernel_rfl
  simp only [h, G73n, m73_0]
noncomputable def G73 (a0 : VGateShape) (a1 : List (C .e83)) : Option (List (C .e9)) := G73n fuel a0 a1
noncomputable def con73 : Con C := { R0 := List (C .e9), ret := fun r => [(false, [.row .e9 r])], g := fun vs => match vs with
  | [.agg [.str y0_0, .row .e100 y0_1], .one (.row .e83 y1)] => G73 ⟨y0_0, y0_1⟩ y1
  | _ => none }
theorem x73 : XOk Go.Proofs.Try.prog X73 := ⟨tks_ok, els_ok, mps_ok, meths_ok⟩
theorem q73 : Cons Go.Proofs.Try.prog X73 := ⟨lkR_ok (l := [(102, con102), (103, con103)]) ⟨c102, c103, trivial⟩, lkW_ok (l := []) trivial, lkI_ok (l := []) trivial⟩
theorem c73 : ConOk Go.Proofs.Try.prog KK 73 con73 := by
  refine con_dec x73 q73 (by kernel_rfl) (f := 73) (fn := Go.Proofs.Try.f73) (c := bodyOf Go.Proofs.Try.f73) (by kernel_rfl) (by kernel_rfl) (by kernel_rfl) (nameB (by kernel_rfl)) con73 dec73 (fun rs r0 h => ?_) (fun vs r0 h => ?_)
  · unfold dec73 at h
    split at h
    · cases h; rfl
    · cases h
  · simp only [con73] at h
    split at h
    · rename_i y0_0 y0_1 y1
      exact ⟨Nat.le_of_ble_eq_true (by kernel_rfl), F73 fuel, (t73 fuel ⟨y0_0, y0_1⟩ y1).trans h⟩
    · cases h
/-! ### f39 loop.example/wharfdesk/spec.GateMendsOk -/
noncomputable def X39 : Cx C := { K := KK, tk := lk tks, con := lkC [(71, con71), (72, con72), (73, con73)], conw := lkC [], inl := lkA [], hold := [], mp := lk mps, meth := lkS meths, off := 2555904 }
def F39 (n : Nat) : Cf := { N := n, keep := [0, 1, 4, 5, 6, 14, 18, 27, 31, 47], live := lk [(0, [0, 1, 5]), (2, [0, 1, 6])] }
def dec39 (rs : List (Bool × List (Lf C))) : Option (Bool) := match rs with
  | [(false, [.bool z0])] => some z0
  | _ => none
abbrev A39_1 : Type := List (C .e81) × List (C .e83) × Int
def s39_1 : A39_1 → St C := fun (x1_0, x1_1, x1_2) => { env := [(0, .one (.row .e81 x1_0)), (1, .one (.row .e83 x1_1)), (6, .one (.int .i64 x1_2))], objs := [], base := 0 }
abbrev A39_0 : Type := List (C .e81) × List (C .e83) × Int
def s39_0 : A39_0 → St C := fun (x0_0, x0_1, x0_2) => { env := [(0, .one (.row .e81 x0_0)), (1, .one (.row .e83 x0_1)), (5, .one (.int .i64 x0_2))], objs := [], base := 0 }
noncomputable def r39_1 (n : Nat)  (rec1 : A39_1 → Option (Bool)) : A39_1 → Option (Bool) := fun (x1_0, x1_1, x1_2) =>
      cond (decide (x1_2 < (x1_0.length : Int)))
      (cond (decide (0 ≤ x1_2)) (Option.bind x1_0[x1_2.toNat]? fun x4 => Option.bind (G73 x4 x1_1) fun r5 =>
      cond (decide (0 ≤ x1_2)) (Option.bind x1_0[x1_2.toNat]? fun x6 => cond ((r5.length : Int) != (x6.Fields.length : Int))
      (some (false))
      (rec1 (x1_0, x1_1, IntKind.i64.wrap (x1_2 + 1)))) none) none)
      (some (true))
noncomputable def LP39_1 (n : Nat)  (x : A39_1) : Option (Bool) := lpN (r39_1 n ) n x
noncomputable def MP39_1 (n : Nat)  (x : A39_1) : Option (Bool) := iter (fun rec S => run X39 (F39 n) (codeAt (bodyOf Go.Proofs.Try.f39) [1, 1, 1, 0, 1, 0, 0]) 2 S (lopK rec (blkK 2 (seqK (run X39 (F39 n) (codeAt (bodyOf Go.Proofs.Try.f39) [1, 1, 1, 1]) 0) (kTop X39 Go.Proofs.Try.f39 dec39))))) [0, 1, 6] n (s39_1 x)
theorem m39_1 (n : Nat)  (x : A39_1) : MP39_1 n  x = LP39_1 n  x := by
  refine iter_eq s39_1 (r39_1 n ) (fun rec1 x => ?_) n x
  obtain ⟨x1_0, x1_1, x1_2⟩ := x
  kernel_rfl
noncomputable def r39_0 (n : Nat)  (rec0 : A39_0 → Option (Bool)) : A39_0 → Option (Bool) := fun (x0_0, x0_1, x0_2) =>
      cond (decide (x0_2 < (x0_1.length : Int)))
      (cond (decide (0 ≤ x0_2)) (Option.bind x0_1[x0_2.toNat]? fun x2 => Option.bind (G72 x0_0 x2) fun r3 =>
      cond (!r3)
      (some (false))
      (rec0 (x0_0, x0_1, IntKind.i64.wrap (x0_2 + 1)))) none)
      (LP39_1 n  (x0_0, x0_1, 0))
noncomputable def LP39_0 (n : Nat)  (x : A39_0) : Option (Bool) := lpN (r39_0 n ) n x
noncomputable def MP39_0 (n : Nat)  (x : A39_0) : Option (Bool) := iter (fun rec S => run X39 (F39 n) (codeAt (bodyOf Go.Proofs.Try.f39) [1, 1, 0, 1, 0, 0]) 0 S (lopK rec (blkK 0 (seqK (run X39 (F39 n) (codeAt (bodyOf Go.Proofs.Try.f39) [1, 1, 1]) 0) (kTop X39 Go.Proofs.Try.f39 dec39))))) [0, 1, 5] n (s39_0 x)
theorem m39_0 (n : Nat)  (x : A39_0) : MP39_0 n  x = LP39_0 n  x := by
  refine iter_eq s39_0 (r39_0 n ) (fun rec0 x => ?_) n x
  obtain ⟨x0_0, x0_1, x0_2⟩ := x
  have h : run X39 (F39 n) (codeAt (bodyOf Go.Proofs.Try.f39) [1, 1, 0, 1, 0, 0]) 0 (s39_0 (x0_0, x0_1, x0_2)) (lopK (canThen [0, 1, 5] rec0) (blkK 0 (seqK (run X39 (F39 n) (codeAt (bodyOf Go.Proofs.Try.f39) [1, 1, 1]) 0) (kTop X39 Go.Proofs.Try.f39 dec39)))) =
      cond (decide (x0_2 < (x0_1.length : Int)))
      (cond (decide (0 ≤ x0_2)) (Option.bind x0_1[x0_2.toNat]? fun x2 => Option.bind (G72 x0_0 x2) fun r3 =>
      cond (!r3)
      (some (false))
      ((fun x => rec0 (s39_0 x)) (x0_0, x0_1, IntKind.i64.wrap (x0_2 + 1)))) none)
      (MP39_1 n  (x0_0, x0_1, 0)) := by kernel_rfl
  simp only [m39_1] at h
  exact h
noncomputable def G39n (n : Nat) (a0 : List (C .e81)) (a1 : List (C .e83)) : Option (Bool) :=
      Option.bind (G71 a0) fun r1 =>
      cond (!r1)
      (some (false))
      (cond (decide ((a1.length : Int) > 12))
      (some (false))
      (LP39_0 n  (a0, a1, 0)))
theorem t39 (n : Nat) (a0 : List (C .e81)) (a1 : List (C .e83)) : runFn X39 (F39 n) Go.Proofs.Try.f39 [.one (.row .e81 a0), .one (.row .e83 a1)] dec39 = G39n n a0 a1 := by
  have h : runFn X39 (F39 n) Go.Proofs.Try.f39 [.one (.row .e81 a0), .one (.row .e83 a1)] dec39 =
      Option.bind (G71 a0) fun r1 =>
      cond (!r1)
      (some (false))
      (cond (decide ((a1.length : Int) > 12))
      (some (false))
      (MP39_0 n  (a0, a1, 0))) := by kernel_rfl
  simp only [h, G39n, m39_0]
noncomputable def G39 (a0 : List (C .e81)) (a1 : List (C .e83)) : Option (Bool) := G39n fuel a0 a1
noncomputable def con39 : Con C := { R0 := Bool, ret := fun r => [(false, [.bool r])], g := fun vs => match vs with
  | [.one (.row .e81 y0), .one (.row .e83 y1)] => G39 y0 y1
  | _ => none }
theorem x39 : XOk Go.Proofs.Try.prog X39 := ⟨tks_ok, els_ok, mps_ok, meths_ok⟩
theorem q39 : Cons Go.Proofs.Try.prog X39 := ⟨lkR_ok (l := [(71, con71), (72, con72), (73, con73)]) ⟨c71, c72, c73, trivial⟩, lkW_ok (l := []) trivial, lkI_ok (l := []) trivial⟩
theorem c39 : ConOk Go.Proofs.Try.prog KK 39 con39 := by
  refine con_dec x39 q39 (by kernel_rfl) (f := 39) (fn := Go.Proofs.Try.f39) (c := bodyOf Go.Proofs.Try.f39) (by kernel_rfl) (by kernel_rfl) (by kernel_rfl) (nameB (by kernel_rfl)) con39 dec39 (fun rs r0 h => ?_) (fun vs r0 h => ?_)
  · unfold dec39 at h
    split at h
    · cases h; rfl
    · cases h
  · simp only [con39] at h
    split at h
    · rename_i y0 y1
      exact ⟨Nat.le_of_ble_eq_true (by kernel_rfl), F39 fuel, (t39 fuel y0 y1).trans h⟩
    · cases h
/-! ### f75 loop.example/wharfdesk/spec.l4Team -/
noncomputable def X75 : Cx C := { K := KK, tk := lk tks, con := lkC [], conw := lkC [], inl := lkA [], hold := [], mp := lk mps, meth := lkS meths, off := 4915200 }
def F75 (n : Nat) : Cf := { N := n, keep := [0, 1, 4, 5, 9, 18], live := lk [(0, [0, 1, 5])] }
def dec75 (rs : List (Bool × List (Lf C))) : Option (Bool) := match rs with
  | [(false, [.bool z0])] => some z0
  | _ => none
abbrev A75_0 : Type := List (C .e106) × ByteArray × Int
def s75_0 : A75_0 → St C := fun (x0_0, x0_1, x0_2) => { env := [(0, .one (.row .e106 x0_0)), (1, .one (.str x0_1)), (5, .one (.int .i64 x0_2))], objs := [], base := 0 }
noncomputable def r75_0 (n : Nat)  (rec0 : A75_0 → Option (Bool)) : A75_0 → Option (Bool) := fun (x0_0, x0_1, x0_2) =>
      cond (decide (x0_2 < (x0_0.length : Int)))
      (cond (decide (0 ≤ x0_2)) (Option.bind x0_0[x0_2.toNat]? fun x1 => cond (decide (x1.Name = x0_1))
      (some (true))
      (rec0 (x0_0, x0_1, IntKind.i64.wrap (x0_2 + 1)))) none)
      (some (false))
noncomputable def LP75_0 (n : Nat)  (x : A75_0) : Option (Bool) := lpN (r75_0 n ) n x
noncomputable def MP75_0 (n : Nat)  (x : A75_0) : Option (Bool) := iter (fun rec S => run X75 (F75 n) (codeAt (bodyOf Go.Proofs.Try.f75) [1, 0, 1, 0, 0]) 0 S (lopK rec (blkK 0 (seqK (run X75 (F75 n) (codeAt (bodyOf Go.Proofs.Try.f75) [1, 1]) 0) (kTop X75 Go.Proofs.Try.f75 dec75))))) [0, 1, 5] n (s75_0 x)
theorem m75_0 (n : Nat)  (x : A75_0) : MP75_0 n  x = LP75_0 n  x := by
  refine iter_eq s75_0 (r75_0 n ) (fun rec0 x => ?_) n x
  obtain ⟨x0_0, x0_1, x0_2⟩ := x
  kernel_rfl
noncomputable def G75n (n : Nat) (a0 : List (C .e106)) (a1 : ByteArray) : Option (Bool) :=
      LP75_0 n  (a0, a1, 0)
theorem t75 (n : Nat) (a0 : List (C .e106)) (a1 : ByteArray) : runFn X75 (F75 n) Go.Proofs.Try.f75 [.one (.row .e106 a0), .one (.str a1)] dec75 = G75n n a0 a1 := by
  have h : runFn X75 (F75 n) Go.Proofs.Try.f75 [.one (.row .e106 a0), .one (.str a1)] dec75 =
      MP75_0 n  (a0, a1, 0) := by kernel_rfl
  simp only [h, G75n, m75_0]
noncomputable def G75 (a0 : List (C .e106)) (a1 : ByteArray) : Option (Bool) := G75n fuel a0 a1
noncomputable def con75 : Con C := { R0 := Bool, ret := fun r => [(false, [.bool r])], g := fun vs => match vs with
  | [.one (.row .e106 y0), .one (.str y1)] => G75 y0 y1
  | _ => none }
theorem x75 : XOk Go.Proofs.Try.prog X75 := ⟨tks_ok, els_ok, mps_ok, meths_ok⟩
theorem q75 : Cons Go.Proofs.Try.prog X75 := ⟨lkR_ok (l := []) trivial, lkW_ok (l := []) trivial, lkI_ok (l := []) trivial⟩
theorem c75 : ConOk Go.Proofs.Try.prog KK 75 con75 := by
  refine con_dec x75 q75 (by kernel_rfl) (f := 75) (fn := Go.Proofs.Try.f75) (c := bodyOf Go.Proofs.Try.f75) (by kernel_rfl) (by kernel_rfl) (by kernel_rfl) (nameB (by kernel_rfl)) con75 dec75 (fun rs r0 h => ?_) (fun vs r0 h => ?_)
  · unfold dec75 at h
    split at h
    · cases h; rfl
    · cases h
  · simp only [con75] at h
    split at h
    · rename_i y0 y1
      exact ⟨Nat.le_of_ble_eq_true (by kernel_rfl), F75 fuel, (t75 fuel y0 y1).trans h⟩
    · cases h
/-! ### f76 loop.example/wharfdesk/spec.l4Over -/
noncomputable def X76 : Cx C := { K := KK, tk := lk tks, con := lkC [], conw := lkC [], inl := lkA [], hold := [], mp := lk mps, meth := lkS meths, off := 4980736 }
def F76 (n : Nat) : Cf := { N := n, keep := [0, 1, 4, 5, 9, 18], live := lk [(0, [0, 1, 5])] }
def dec76 (rs : List (Bool × List (Lf C))) : Option (ByteArray) := match rs with
  | [(false, [.str z0])] => some z0
  | _ => none
abbrev A76_0 : Type := List (C .e106) × ByteArray × Int
def s76_0 : A76_0 → St C := fun (x0_0, x0_1, x0_2) => { env := [(0, .one (.row .e106 x0_0)), (1, .one (.str x0_1)), (5, .one (.int .i64 x0_2))], objs := [], base := 0 }
noncomputable def r76_0 (n : Nat)  (rec0 : A76_0 → Option (ByteArray)) : A76_0 → Option (ByteArray) := fun (x0_0, x0_1, x0_2) =>
      cond (decide (x0_2 < (x0_0.length : Int)))
      (cond (decide (0 ≤ x0_2)) (Option.bind x0_0[x0_2.toNat]? fun x1 => cond (decide (x1.Name = x0_1))
      (cond (decide (0 ≤ x0_2)) (Option.bind x0_0[x0_2.toNat]? fun x2 => some (x2.Over)) none)
      (rec0 (x0_0, x0_1, IntKind.i64.wrap (x0_2 + 1)))) none)
      (some ((⟨#[]⟩ : ByteArray)))
noncomputable def LP76_0 (n : Nat)  (x : A76_0) : Option (ByteArray) := lpN (r76_0 n ) n x
noncomputable def MP76_0 (n : Nat)  (x : A76_0) : Option (ByteArray) := iter (fun rec S => run X76 (F76 n) (codeAt (bodyOf Go.Proofs.Try.f76) [1, 0, 1, 0, 0]) 0 S (lopK rec (blkK 0 (seqK (run X76 (F76 n) (codeAt (bodyOf Go.Proofs.Try.f76) [1, 1]) 0) (kTop X76 Go.Proofs.Try.f76 dec76))))) [0, 1, 5] n (s76_0 x)
theorem m76_0 (n : Nat)  (x : A76_0) : MP76_0 n  x = LP76_0 n  x := by
  refine iter_eq s76_0 (r76_0 n ) (fun rec0 x => ?_) n x
  obtain ⟨x0_0, x0_1, x0_2⟩ := x
  kernel_rfl
noncomputable def G76n (n : Nat) (a0 : List (C .e106)) (a1 : ByteArray) : Option (ByteArray) :=
      LP76_0 n  (a0, a1, 0)
theorem t76 (n : Nat) (a0 : List (C .e106)) (a1 : ByteArray) : runFn X76 (F76 n) Go.Proofs.Try.f76 [.one (.row .e106 a0), .one (.str a1)] dec76 = G76n n a0 a1 := by
  have h : runFn X76 (F76 n) Go.Proofs.Try.f76 [.one (.row .e106 a0), .one (.str a1)] dec76 =
      MP76_0 n  (a0, a1, 0) := by kernel_rfl
  simp only [h, G76n, m76_0]
noncomputable def G76 (a0 : List (C .e106)) (a1 : ByteArray) : Option (ByteArray) := G76n fuel a0 a1
noncomputable def con76 : Con C := { R0 := ByteArray, ret := fun r => [(false, [.str r])], g := fun vs => match vs with
  | [.one (.row .e106 y0), .one (.str y1)] => G76 y0 y1
  | _ => none }
theorem x76 : XOk Go.Proofs.Try.prog X76 := ⟨tks_ok, els_ok, mps_ok, meths_ok⟩
theorem q76 : Cons Go.Proofs.Try.prog X76 := ⟨lkR_ok (l := []) trivial, lkW_ok (l := []) trivial, lkI_ok (l := []) trivial⟩
theorem c76 : ConOk Go.Proofs.Try.prog KK 76 con76 := by
  refine con_dec x76 q76 (by kernel_rfl) (f := 76) (fn := Go.Proofs.Try.f76) (c := bodyOf Go.Proofs.Try.f76) (by kernel_rfl) (by kernel_rfl) (by kernel_rfl) (nameB (by kernel_rfl)) con76 dec76 (fun rs r0 h => ?_) (fun vs r0 h => ?_)
  · unfold dec76 at h
    split at h
    · cases h; rfl
    · cases h
  · simp only [con76] at h
    split at h
    · rename_i y0 y1
      exact ⟨Nat.le_of_ble_eq_true (by kernel_rfl), F76 fuel, (t76 fuel y0 y1).trans h⟩
    · cases h
/-! ### f40 loop.example/wharfdesk/spec.GateTeamsOk -/
noncomputable def X40 : Cx C := { K := KK, tk := lk tks, con := lkC [(74, con74), (75, con75), (76, con76)], conw := lkC [], inl := lkA [], hold := [], mp := lk mps, meth := lkS meths, off := 2621440 }
def F40 (n : Nat) : Cf := { N := n, keep := [0, 2, 3, 4, 5, 6, 9, 13, 50, 58, 65], live := lk [(0, [0, 3]), (2, [0, 3, 5, 6])] }
def dec40 (rs : List (Bool × List (Lf C))) : Option (Bool) := match rs with
  | [(false, [.bool z0])] => some z0
  | _ => none
abbrev A40_1 : Type := List (C .e106) × Int × ByteArray × Int
def s40_1 : A40_1 → St C := fun (x1_0, x1_1, x1_2, x1_3) => { env := [(0, .one (.row .e106 x1_0)), (3, .one (.int .i64 x1_1)), (5, .one (.str x1_2)), (6, .one (.int .i64 x1_3))], objs := [], base := 0 }
abbrev A40_0 : Type := List (C .e106) × Int
def s40_0 : A40_0 → St C := fun (x0_0, x0_1) => { env := [(0, .one (.row .e106 x0_0)), (3, .one (.int .i64 x0_1))], objs := [], base := 0 }
noncomputable def r40_1 (n : Nat) (rec0 : A40_0 → Option (Bool)) (rec1 : A40_1 → Option (Bool)) : A40_1 → Option (Bool) := fun (x1_0, x1_1, x1_2, x1_3) =>
      cond (decide (x1_3 ≤ 4))
      (cond (!decide (x1_2 = (⟨#[]⟩ : ByteArray)))
      (Option.bind (G76 x1_0 x1_2) fun r5 =>
      rec1 (x1_0, x1_1, r5, IntKind.i64.wrap (x1_3 + 1)))
      (cond (!decide (x1_2 = (⟨#[]⟩ : ByteArray)))
      (some (false))
      (rec0 (x1_0, IntKind.i64.wrap (x1_1 + 1)))))
      (cond (!decide (x1_2 = (⟨#[]⟩ : ByteArray)))
      (some (false))
      (rec0 (x1_0, IntKind.i64.wrap (x1_1 + 1))))
noncomputable def LP40_1 (n : Nat) (rec0 : A40_0 → Option (Bool)) (x : A40_1) : Option (Bool) := lpN (r40_1 n rec0) n x
noncomputable def MP40_1 (n : Nat) (rec0 : St C → Option (Bool)) (x : A40_1) : Option (Bool) := iter (fun rec S => run X40 (F40 n) (codeAt (bodyOf Go.Proofs.Try.f40) [1, 1, 0, 1, 0, 0, 1, 0, 0, 1, 1, 1, 0, 1, 0, 0]) 2 S (lopK rec (blkK 2 (seqK (run X40 (F40 n) (codeAt (bodyOf Go.Proofs.Try.f40) [1, 1, 0, 1, 0, 0, 1, 0, 0, 1, 1, 1, 1]) 1) (blkK 1 (seqK (run X40 (F40 n) (codeAt (bodyOf Go.Proofs.Try.f40) [1, 1, 0, 1, 0, 0, 1, 1]) 0) (lopK (canThen [0, 3] rec0) (blkK 0 (seqK (run X40 (F40 n) (codeAt (bodyOf Go.Proofs.Try.f40) [1, 1, 1]) 0) (kTop X40 Go.Proofs.Try.f40 dec40)))))))))) [0, 3, 5, 6] n (s40_1 x)
theorem m40_1 (n : Nat) (rec0 : St C → Option (Bool)) (x : A40_1) : MP40_1 n rec0 x = LP40_1 n (fun x => rec0 (s40_0 x)) x := by
  refine iter_eq s40_1 (r40_1 n (fun x => rec0 (s40_0 x))) (fun rec1 x => ?_) n x
  obtain ⟨x1_0, x1_1, x1_2, x1_3⟩ := x
  kernel_rfl
noncomputable def r40_0 (n : Nat)  (rec0 : A40_0 → Option (Bool)) : A40_0 → Option (Bool) := fun (x0_0, x0_1) =>
      cond (decide (x0_1 < (x0_0.length : Int)))
      (cond (decide (0 ≤ x0_1)) (Option.bind x0_0[x0_1.toNat]? fun x1 => Option.bind (G74 x1.Name) fun r2 =>
      cond (!r2)
      (some (false))
      (cond (decide (x0_1 > 0))
      (cond (decide (0 ≤ IntKind.i64.wrap (x0_1 - 1))) (Option.bind x0_0[(IntKind.i64.wrap (x0_1 - 1)).toNat]? fun x3 => cond (!slt x3.Name x1.Name)
      (some (false))
      (cond (!decide (x1.Over = (⟨#[]⟩ : ByteArray)))
      (Option.bind (G75 x0_0 x1.Over) fun r4 =>
      cond (!r4)
      (some (false))
      (LP40_1 n rec0 (x0_0, x0_1, x1.Name, 0)))
      (LP40_1 n rec0 (x0_0, x0_1, x1.Name, 0)))) none)
      (cond (!decide (x1.Over = (⟨#[]⟩ : ByteArray)))
      (Option.bind (G75 x0_0 x1.Over) fun r6 =>
      cond (!r6)
      (some (false))
      (LP40_1 n rec0 (x0_0, x0_1, x1.Name, 0)))
      (LP40_1 n rec0 (x0_0, x0_1, x1.Name, 0))))) none)
      (some (true))
noncomputable def LP40_0 (n : Nat)  (x : A40_0) : Option (Bool) := lpN (r40_0 n ) n x
noncomputable def MP40_0 (n : Nat)  (x : A40_0) : Option (Bool) := iter (fun rec S => run X40 (F40 n) (codeAt (bodyOf Go.Proofs.Try.f40) [1, 1, 0, 1, 0, 0]) 0 S (lopK rec (blkK 0 (seqK (run X40 (F40 n) (codeAt (bodyOf Go.Proofs.Try.f40) [1, 1, 1]) 0) (kTop X40 Go.Proofs.Try.f40 dec40))))) [0, 3] n (s40_0 x)
theorem m40_0 (n : Nat)  (x : A40_0) : MP40_0 n  x = LP40_0 n  x := by
  refine iter_eq s40_0 (r40_0 n ) (fun rec0 x => ?_) n x
  obtain ⟨x0_0, x0_1⟩ := x
  have h : run X40 (F40 n) (codeAt (bodyOf Go.Proofs.Try.f40) [1, 1, 0, 1, 0, 0]) 0 (s40_0 (x0_0, x0_1)) (lopK (canThen [0, 3] rec0) (blkK 0 (seqK (run X40 (F40 n) (codeAt (bodyOf Go.Proofs.Try.f40) [1, 1, 1]) 0) (kTop X40 Go.Proofs.Try.f40 dec40)))) =
      cond (decide (x0_1 < (x0_0.length : Int)))
      (cond (decide (0 ≤ x0_1)) (Option.bind x0_0[x0_1.toNat]? fun x1 => Option.bind (G74 x1.Name) fun r2 =>
      cond (!r2)
      (some (false))
      (cond (decide (x0_1 > 0))
      (cond (decide (0 ≤ IntKind.i64.wrap (x0_1 - 1))) (Option.bind x0_0[(IntKind.i64.wrap (x0_1 - 1)).toNat]? fun x3 => cond (!slt x3.Name x1.Name)
      (some (false))
      (cond (!decide (x1.Over = (⟨#[]⟩ : ByteArray)))
      (Option.bind (G75 x0_0 x1.Over) fun r4 =>
      cond (!r4)
      (some (false))
      (MP40_1 n rec0 (x0_0, x0_1, x1.Name, 0)))
      (MP40_1 n rec0 (x0_0, x0_1, x1.Name, 0)))) none)
      (cond (!decide (x1.Over = (⟨#[]⟩ : ByteArray)))
      (Option.bind (G75 x0_0 x1.Over) fun r6 =>
      cond (!r6)
      (some (false))
      (MP40_1 n rec0 (x0_0, x0_1, x1.Name, 0)))
      (MP40_1 n rec0 (x0_0, x0_1, x1.Name, 0))))) none)
      (some (true)) := by kernel_rfl
  simp only [m40_1] at h
  exact h
noncomputable def G40n (n : Nat) (a0 : List (C .e106)) : Option (Bool) :=
      cond (decide ((a0.length : Int) > 12))
      (some (false))
      (LP40_0 n  (a0, 0))
theorem t40 (n : Nat) (a0 : List (C .e106)) : runFn X40 (F40 n) Go.Proofs.Try.f40 [.one (.row .e106 a0)] dec40 = G40n n a0 := by
  have h : runFn X40 (F40 n) Go.Proofs.Try.f40 [.one (.row .e106 a0)] dec40 =
      cond (decide ((a0.length : Int) > 12))
      (some (false))
      (MP40_0 n  (a0, 0)) := by kernel_rfl
  simp only [h, G40n, m40_0]
noncomputable def G40 (a0 : List (C .e106)) : Option (Bool) := G40n fuel a0
noncomputable def con40 : Con C := { R0 := Bool, ret := fun r => [(false, [.bool r])], g := fun vs => match vs with
  | [.one (.row .e106 y0)] => G40 y0
  | _ => none }
theorem x40 : XOk Go.Proofs.Try.prog X40 := ⟨tks_ok, els_ok, mps_ok, meths_ok⟩
theorem q40 : Cons Go.Proofs.Try.prog X40 := ⟨lkR_ok (l := [(74, con74), (75, con75), (76, con76)]) ⟨c74, c75, c76, trivial⟩, lkW_ok (l := []) trivial, lkI_ok (l := []) trivial⟩
theorem c40 : ConOk Go.Proofs.Try.prog KK 40 con40 := by
  refine con_dec x40 q40 (by kernel_rfl) (f := 40) (fn := Go.Proofs.Try.f40) (c := bodyOf Go.Proofs.Try.f40) (by kernel_rfl) (by kernel_rfl) (by kernel_rfl) (nameB (by kernel_rfl)) con40 dec40 (fun rs r0 h => ?_) (fun vs r0 h => ?_)
  · unfold dec40 at h
    split at h
    · cases h; rfl
    · cases h
  · simp only [con40] at h
    split at h
    · rename_i y0
      exact ⟨Nat.le_of_ble_eq_true (by kernel_rfl), F40 fuel, (t40 fuel y0).trans h⟩
    · cases h
/-! ### f8 loop.example/wharfdesk/spec.GateLawOk -/
noncomputable def X8 : Cx C := { K := KK, tk := lk tks, con := lkC [(39, con39), (40, con40)], conw := lkC [], inl := lkA [], hold := [], mp := lk mps, meth := lkS meths, off := 524288 }
def F8 (n : Nat) : Cf := { N := n, keep := [0, 1, 2], live := lk [] }
def dec8 (rs : List (Bool × List (Lf C))) : Option (Bool) := match rs with
  | [(false, [.bool z0])] => some z0
  | _ => none
noncomputable def G8n (n : Nat) (a0 : VGateLaw) : Option (Bool) :=
      Option.bind (G39 a0.Shapes a0.Mends) fun r1 =>
      cond r1
      (Option.bind (G40 a0.Teams) fun r2 =>
      some (r2))
      (some (false))
theorem t8 (n : Nat) (a0 : VGateLaw) : runFn X8 (F8 n) Go.Proofs.Try.f8 [.agg [.row .e81 a0.Shapes, .row .e83 a0.Mends, .row .e106 a0.Teams]] dec8 = G8n n a0 := by
  kernel_rfl
noncomputable def G8 (a0 : VGateLaw) : Option (Bool) := G8n fuel a0
noncomputable def con8 : Con C := { R0 := Bool, ret := fun r => [(false, [.bool r])], g := fun vs => match vs with
  | [.agg [.row .e81 y0_0, .row .e83 y0_1, .row .e106 y0_2]] => G8 ⟨y0_0, y0_1, y0_2⟩
  | _ => none }
theorem x8 : XOk Go.Proofs.Try.prog X8 := ⟨tks_ok, els_ok, mps_ok, meths_ok⟩
theorem q8 : Cons Go.Proofs.Try.prog X8 := ⟨lkR_ok (l := [(39, con39), (40, con40)]) ⟨c39, c40, trivial⟩, lkW_ok (l := []) trivial, lkI_ok (l := []) trivial⟩
theorem c8 : ConOk Go.Proofs.Try.prog KK 8 con8 := by
  refine con_dec x8 q8 (by kernel_rfl) (f := 8) (fn := Go.Proofs.Try.f8) (c := bodyOf Go.Proofs.Try.f8) (by kernel_rfl) (by kernel_rfl) (by kernel_rfl) (nameB (by kernel_rfl)) con8 dec8 (fun rs r0 h => ?_) (fun vs r0 h => ?_)
  · unfold dec8 at h
    split at h
    · cases h; rfl
    · cases h
  · simp only [con8] at h
    split at h
    · rename_i y0_0 y0_1 y0_2
      exact ⟨Nat.le_of_ble_eq_true (by kernel_rfl), F8 fuel, (t8 fuel ⟨y0_0, y0_1, y0_2⟩).trans h⟩
    · cases h

end Go.Proofs.Ytkiognopoigbhaa.Ab
