/- The functions that the law calls, written plainly, and their contracts: each call answers what its plain function answers. No conditions. -/
import Derived.Test.YtkiognopoigbhaaP4
set_option linter.unusedVariables false
set_option linter.unusedSimpArgs false
set_option maxRecDepth 100000
namespace Go.Proofs.Ytkiognopoigbhaa.Ab
open Go Go.RowKit
/-! ### f165 (loop.example/wharfdesk/impl.linkField).fits -/
noncomputable def X165 : Cx C := { K := KK, tk := lk tks, con := lkC [(78, con78)], conw := lkC [], inl := lkA [], hold := [], mp := lk mps, meth := lkS meths, off := 10813440 }
def F165 (n : Nat) : Cf := { N := n, keep := [0, 1, 4], live := lk [] }
def dec165 (rs : List (Bool × List (Lf C))) : Option (Bool) := match rs with
  | [(false, [.bool z0])] => some z0
  | _ => none
noncomputable def G165n (n : Nat) (a0 : VlinkField) (a1 : ByteArray) : Option (Bool) :=
      Option.bind (G78 a1) fun r1 =>
      some (r1)
theorem t165 (n : Nat) (a0 : VlinkField) (a1 : ByteArray) : runFn X165 (F165 n) Go.Proofs.Try.f165 [.agg [.str a0.GateField_Name, .int .i64 a0.GateField_Kind, .int .i64 a0.GateField_Least, .int .i64 a0.GateField_Most, .row .e9 a0.GateField_Words, .str a0.GateField_To, .int .i64 a0.GateField_Role, .bool a0.GateField_Must, .bool a0.GateField_Fixed, .str a0.GateField_Default, .str a0.GateField_Weighs], .one (.str a1)] dec165 = G165n n a0 a1 := by
  kernel_rfl
noncomputable def G165 (a0 : VlinkField) (a1 : ByteArray) : Option (Bool) := G165n fuel a0 a1
noncomputable def con165 : Con C := { R0 := Bool, ret := fun r => [(false, [.bool r])], g := fun vs => match vs with
  | [.agg [.str y0_0, .int .i64 y0_1, .int .i64 y0_2, .int .i64 y0_3, .row .e9 y0_4, .str y0_5, .int .i64 y0_6, .bool y0_7, .bool y0_8, .str y0_9, .str y0_10], .one (.str y1)] => G165 ⟨y0_0, y0_1, y0_2, y0_3, y0_4, y0_5, y0_6, y0_7, y0_8, y0_9, y0_10⟩ y1
  | _ => none }
theorem x165 : XOk Go.Proofs.Try.prog X165 := ⟨tks_ok, els_ok, mps_ok, meths_ok⟩
theorem q165 : Cons Go.Proofs.Try.prog X165 := ⟨lkR_ok (l := [(78, con78)]) ⟨c78, trivial⟩, lkW_ok (l := []) trivial, lkI_ok (l := []) trivial⟩
theorem c165 : ConOk Go.Proofs.Try.prog KK 165 con165 := by
  refine con_dec x165 q165 (by kernel_rfl) (f := 165) (fn := Go.Proofs.Try.f165) (c := bodyOf Go.Proofs.Try.f165) (by kernel_rfl) (by kernel_rfl) (by kernel_rfl) (nameB (by kernel_rfl)) con165 dec165 (fun rs r0 h => ?_) (fun vs r0 h => ?_)
  · unfold dec165 at h
    split at h
    · cases h; rfl
    · cases h
  · simp only [con165] at h
    split at h
    · rename_i y0_0 y0_1 y0_2 y0_3 y0_4 y0_5 y0_6 y0_7 y0_8 y0_9 y0_10 y1
      exact ⟨Nat.le_of_ble_eq_true (by kernel_rfl), F165 fuel, (t165 fuel ⟨y0_0, y0_1, y0_2, y0_3, y0_4, y0_5, y0_6, y0_7, y0_8, y0_9, y0_10⟩ y1).trans h⟩
    · cases h
/-! ### f166 (loop.example/wharfdesk/impl.linkField).sound -/
noncomputable def X166 : Cx C := { K := KK, tk := lk tks, con := lkC [], conw := lkC [], inl := lkA [], hold := [], mp := lk mps, meth := lkS meths, off := 10878976 }
def F166 (n : Nat) : Cf := { N := n, keep := [0, 1, 2, 4, 5, 7, 8, 9, 10, 11], live := lk [(0, [2, 5, 8, 9, 10])] }
def dec166 (rs : List (Bool × List (Lf C))) : Option (Bool) := match rs with
  | [(false, [.bool z0])] => some z0
  | _ => none
abbrev A166_0 : Type := Bool × List (C .e9) × Int × Int × ByteArray × Int × Int × Int × List (C .e9) × ByteArray × Int × Bool × Bool × ByteArray × ByteArray
def s166_0 : A166_0 → St C := fun (x0_0, x0_1, x0_2, x0_3, x0_4, x0_5, x0_6, x0_7, x0_8, x0_9, x0_10, x0_11, x0_12, x0_13, x0_14) => { env := [(2, .one (.ptr 10879104 0)), (5, .one (.bool x0_0)), (8, .one (.row .e9 x0_1)), (9, .one (.int .i64 x0_2)), (10, .one (.int .i64 x0_3))], objs := [(10879104, .box .mem [.str x0_4, .int .i64 x0_5, .int .i64 x0_6, .int .i64 x0_7, .row .e9 x0_8, .str x0_9, .int .i64 x0_10, .bool x0_11, .bool x0_12, .str x0_13, .str x0_14])], base := 0 }
noncomputable def r166_0 (n : Nat)  (rec0 : A166_0 → Option (Bool)) : A166_0 → Option (Bool) := fun (x0_0, x0_1, x0_2, x0_3, x0_4, x0_5, x0_6, x0_7, x0_8, x0_9, x0_10, x0_11, x0_12, x0_13, x0_14) =>
      cond (decide (x0_3 < x0_2))
      (cond (decide (0 ≤ x0_3)) (Option.bind x0_1[x0_3.toNat]? fun x1 => cond x0_0
      (rec0 (true, x0_1, x0_2, IntKind.i64.wrap (x0_3 + 1), x0_4, x0_5, x0_6, x0_7, x0_8, x0_9, x0_10, x0_11, x0_12, x0_13, x0_14))
      (rec0 (decide (x1 = x0_9), x0_1, x0_2, IntKind.i64.wrap (x0_3 + 1), x0_4, x0_5, x0_6, x0_7, x0_8, x0_9, x0_10, x0_11, x0_12, x0_13, x0_14))) none)
      (cond x0_0
      (cond (decide (x0_10 ≥ 1))
      (cond (decide (x0_10 ≤ 3))
      (cond (decide (x0_13 = (⟨#[]⟩ : ByteArray)))
      (cond (x0_10 == 2)
      (some (!x0_11))
      (some (true)))
      (some (false)))
      (some (false)))
      (some (false)))
      (some (false)))
noncomputable def LP166_0 (n : Nat)  (x : A166_0) : Option (Bool) := lpN (r166_0 n ) n x
noncomputable def MP166_0 (n : Nat)  (x : A166_0) : Option (Bool) := iter (fun rec S => run X166 (F166 n) (codeAt (bodyOf Go.Proofs.Try.f166) [1, 1, 0, 1, 0, 0]) 0 S (lopK rec (blkK 0 (seqK (run X166 (F166 n) (codeAt (bodyOf Go.Proofs.Try.f166) [1, 1, 1]) 0) (kTop X166 Go.Proofs.Try.f166 dec166))))) [2, 5, 8, 9, 10] n (s166_0 x)
theorem m166_0 (n : Nat)  (x : A166_0) : MP166_0 n  x = LP166_0 n  x := by
  refine iter_eq s166_0 (r166_0 n ) (fun rec0 x => ?_) n x
  obtain ⟨x0_0, x0_1, x0_2, x0_3, x0_4, x0_5, x0_6, x0_7, x0_8, x0_9, x0_10, x0_11, x0_12, x0_13, x0_14⟩ := x
  kernel_rfl
noncomputable def G166n (n : Nat) (a0 : VlinkField) (a1 : List (C .e9)) : Option (Bool) :=
      LP166_0 n  (false, a1, (a1.length : Int), 0, a0.GateField_Name, a0.GateField_Kind, a0.GateField_Least, a0.GateField_Most, a0.GateField_Words, a0.GateField_To, a0.GateField_Role, a0.GateField_Must, a0.GateField_Fixed, a0.GateField_Default, a0.GateField_Weighs)
theorem t166 (n : Nat) (a0 : VlinkField) (a1 : List (C .e9)) : runFn X166 (F166 n) Go.Proofs.Try.f166 [.agg [.str a0.GateField_Name, .int .i64 a0.GateField_Kind, .int .i64 a0.GateField_Least, .int .i64 a0.GateField_Most, .row .e9 a0.GateField_Words, .str a0.GateField_To, .int .i64 a0.GateField_Role, .bool a0.GateField_Must, .bool a0.GateField_Fixed, .str a0.GateField_Default, .str a0.GateField_Weighs], .one (.row .e9 a1)] dec166 = G166n n a0 a1 := by
  have h : runFn X166 (F166 n) Go.Proofs.Try.f166 [.agg [.str a0.GateField_Name, .int .i64 a0.GateField_Kind, .int .i64 a0.GateField_Least, .int .i64 a0.GateField_Most, .row .e9 a0.GateField_Words, .str a0.GateField_To, .int .i64 a0.GateField_Role, .bool a0.GateField_Must, .bool a0.GateField_Fixed, .str a0.GateField_Default, .str a0.GateField_Weighs], .one (.row .e9 a1)] dec166 =
      MP166_0 n  (false, a1, (a1.length : Int), 0, a0.GateField_Name, a0.GateField_Kind, a0.GateField_Least, a0.GateField_Most, a0.GateField_Words, a0.GateField_To, a0.GateField_Role, a0.GateField_Must, a0.GateField_Fixed, a0.GateField_Default, a0.GateField_Weighs) := by kernel_rfl
  simp only [h, G166n, m166_0]
noncomputable def G166 (a0 : VlinkField) (a1 : List (C .e9)) : Option (Bool) := G166n fuel a0 a1
noncomputable def con166 : Con C := { R0 := Bool, ret := fun r => [(false, [.bool r])], g := fun vs => match vs with
  | [.agg [.str y0_0, .int .i64 y0_1, .int .i64 y0_2, .int .i64 y0_3, .row .e9 y0_4, .str y0_5, .int .i64 y0_6, .bool y0_7, .bool y0_8, .str y0_9, .str y0_10], .one (.row .e9 y1)] => G166 ⟨y0_0, y0_1, y0_2, y0_3, y0_4, y0_5, y0_6, y0_7, y0_8, y0_9, y0_10⟩ y1
  | _ => none }
theorem x166 : XOk Go.Proofs.Try.prog X166 := ⟨tks_ok, els_ok, mps_ok, meths_ok⟩
theorem q166 : Cons Go.Proofs.Try.prog X166 := ⟨lkR_ok (l := []) trivial, lkW_ok (l := []) trivial, lkI_ok (l := []) trivial⟩
theorem c166 : ConOk Go.Proofs.Try.prog KK 166 con166 := by
  refine con_dec x166 q166 (by kernel_rfl) (f := 166) (fn := Go.Proofs.Try.f166) (c := bodyOf Go.Proofs.Try.f166) (by kernel_rfl) (by kernel_rfl) (by kernel_rfl) (nameB (by kernel_rfl)) con166 dec166 (fun rs r0 h => ?_) (fun vs r0 h => ?_)
  · unfold dec166 at h
    split at h
    · cases h; rfl
    · cases h
  · simp only [con166] at h
    split at h
    · rename_i y0_0 y0_1 y0_2 y0_3 y0_4 y0_5 y0_6 y0_7 y0_8 y0_9 y0_10 y1
      exact ⟨Nat.le_of_ble_eq_true (by kernel_rfl), F166 fuel, (t166 fuel ⟨y0_0, y0_1, y0_2, y0_3, y0_4, y0_5, y0_6, y0_7, y0_8, y0_9, y0_10⟩ y1).trans h⟩
    · cases h
/-! ### f133 loop.example/wharfdesk/impl.sortOf$1, run in place -/
noncomputable def X133 : Cx C := { K := KK, tk := lk tks, con := lkC [], conw := lkC [], inl := lkA [], hold := [], mp := lk mps, meth := lkS meths, off := 8716288 }
def F133 (n : Nat) : Cf := { N := n, keep := [0, 1, 2], live := lk [] }
noncomputable def I133 (n : Nat) : Inl C := inlOf X133 (F133 n) Go.Proofs.Try.f133
theorem x133 : XOk Go.Proofs.Try.prog X133 := ⟨tks_ok, els_ok, mps_ok, meths_ok⟩
theorem q133 : Cons Go.Proofs.Try.prog X133 := ⟨lkR_ok (l := []) trivial, lkW_ok (l := []) trivial, lkI_ok (l := []) trivial⟩
theorem i133 (n : Nat) : InlOk Go.Proofs.Try.prog KK 133 (I133 n) := inl_of x133 q133 (by kernel_rfl) (F133 n) (f := 133) (fn := Go.Proofs.Try.f133) (c := bodyOf Go.Proofs.Try.f133) (by kernel_rfl) (by kernel_rfl) (by kernel_rfl) (nameB (by kernel_rfl))
/-! ### f134 loop.example/wharfdesk/impl.sortOf$2, run in place -/
noncomputable def X134 : Cx C := { K := KK, tk := lk tks, con := lkC [], conw := lkC [], inl := lkA [], hold := [], mp := lk mps, meth := lkS meths, off := 8781824 }
def F134 (n : Nat) : Cf := { N := n, keep := [0, 1, 2], live := lk [] }
noncomputable def I134 (n : Nat) : Inl C := inlOf X134 (F134 n) Go.Proofs.Try.f134
theorem x134 : XOk Go.Proofs.Try.prog X134 := ⟨tks_ok, els_ok, mps_ok, meths_ok⟩
theorem q134 : Cons Go.Proofs.Try.prog X134 := ⟨lkR_ok (l := []) trivial, lkW_ok (l := []) trivial, lkI_ok (l := []) trivial⟩
theorem i134 (n : Nat) : InlOk Go.Proofs.Try.prog KK 134 (I134 n) := inl_of x134 q134 (by kernel_rfl) (F134 n) (f := 134) (fn := Go.Proofs.Try.f134) (c := bodyOf Go.Proofs.Try.f134) (by kernel_rfl) (by kernel_rfl) (by kernel_rfl) (nameB (by kernel_rfl))
/-! ### f135 loop.example/wharfdesk/impl.sortOf$3, run in place -/
noncomputable def X135 : Cx C := { K := KK, tk := lk tks, con := lkC [], conw := lkC [], inl := lkA [], hold := [], mp := lk mps, meth := lkS meths, off := 8847360 }
def F135 (n : Nat) : Cf := { N := n, keep := [0, 1, 2], live := lk [] }
noncomputable def I135 (n : Nat) : Inl C := inlOf X135 (F135 n) Go.Proofs.Try.f135
theorem x135 : XOk Go.Proofs.Try.prog X135 := ⟨tks_ok, els_ok, mps_ok, meths_ok⟩
theorem q135 : Cons Go.Proofs.Try.prog X135 := ⟨lkR_ok (l := []) trivial, lkW_ok (l := []) trivial, lkI_ok (l := []) trivial⟩
theorem i135 (n : Nat) : InlOk Go.Proofs.Try.prog KK 135 (I135 n) := inl_of x135 q135 (by kernel_rfl) (F135 n) (f := 135) (fn := Go.Proofs.Try.f135) (c := bodyOf Go.Proofs.Try.f135) (by kernel_rfl) (by kernel_rfl) (by kernel_rfl) (nameB (by kernel_rfl))
/-! ### f136 loop.example/wharfdesk/impl.sortOf$4, run in place -/
noncomputable def X136 : Cx C := { K := KK, tk := lk tks, con := lkC [], conw := lkC [], inl := lkA [], hold := [], mp := lk mps, meth := lkS meths, off := 8912896 }
def F136 (n : Nat) : Cf := { N := n, keep := [0, 1, 2], live := lk [] }
noncomputable def I136 (n : Nat) : Inl C := inlOf X136 (F136 n) Go.Proofs.Try.f136
theorem x136 : XOk Go.Proofs.Try.prog X136 := ⟨tks_ok, els_ok, mps_ok, meths_ok⟩
theorem q136 : Cons Go.Proofs.Try.prog X136 := ⟨lkR_ok (l := []) trivial, lkW_ok (l := []) trivial, lkI_ok (l := []) trivial⟩
theorem i136 (n : Nat) : InlOk Go.Proofs.Try.prog KK 136 (I136 n) := inl_of x136 q136 (by kernel_rfl) (F136 n) (f := 136) (fn := Go.Proofs.Try.f136) (c := bodyOf Go.Proofs.Try.f136) (by kernel_rfl) (by kernel_rfl) (by kernel_rfl) (nameB (by kernel_rfl))
/-! ### f120 loop.example/wharfdesk/impl.sortOf, run in place -/
noncomputable def X120 (n : Nat) : Cx C := { K := KK, tk := lk tks, con := lkC [], conw := lkC [], inl := lkA [(133, I133 n), (134, I134 n), (135, I135 n), (136, I136 n)], hold := [1, 2, 3, 4, 7, 8, 20], mp := lk mps, meth := lkS meths, off := 7864320 }
def F120 (n : Nat) : Cf := { N := n, keep := [0, 1, 2, 3, 4, 5, 6, 17], live := lk [] }
noncomputable def I120 (n : Nat) : Inl C := inlOf (X120 n) (F120 n) Go.Proofs.Try.f120
theorem x120 (n : Nat) : XOk Go.Proofs.Try.prog (X120 n) := ⟨tks_ok, els_ok, mps_ok, meths_ok⟩
theorem q120 (n : Nat) : Cons Go.Proofs.Try.prog (X120 n) := ⟨lkR_ok (l := []) trivial, lkW_ok (l := []) trivial, lkI_ok (l := [(133, I133 n), (134, I134 n), (135, I135 n), (136, I136 n)]) ⟨i133 n, i134 n, i135 n, i136 n, trivial⟩⟩
theorem i120 (n : Nat) : InlOk Go.Proofs.Try.prog KK 120 (I120 n) := inl_of (x120 n) (q120 n) (by kernel_rfl) (F120 n) (f := 120) (fn := Go.Proofs.Try.f120) (c := bodyOf Go.Proofs.Try.f120) (by kernel_rfl) (by kernel_rfl) (by kernel_rfl) (nameB (by kernel_rfl))
/-! ### f98 loop.example/wharfdesk/impl.GateFits -/
noncomputable def X98 (n : Nat) : Cx C := { K := KK, tk := lk tks, con := lkC [(155, con155), (159, con159), (162, con162), (165, con165)], conw := lkC [], inl := lkA [(120, I120 n)], hold := [1, 4, 5, 6, 7, 9, 10, 11, 17, 20, 21], mp := lk mps, meth := lkS meths, off := 6422528 }
def F98 (n : Nat) : Cf := { N := n, keep := [0, 1, 2, 4, 5, 6], live := lk [] }
def dec98 (rs : List (Bool × List (Lf C))) : Option (Bool) := match rs with
  | [(false, [.bool z0])] => some z0
  | _ => none
noncomputable def G98n (n : Nat) (a0 : VGateField) (a1 : ByteArray) : Option (Bool) :=
      cond (decide (1 = a0.Kind))
      (cond (!decide (a1 = (⟨#[]⟩ : ByteArray)))
      (Option.bind (G155 (⟨a0.Name, a0.Kind, a0.Least, a0.Most, a0.Words, a0.To, a0.Role, a0.Must, a0.Fixed, a0.Default, a0.Weighs⟩ : VnumberField) a1) fun r1 =>
      some (r1))
      (some (false)))
      (cond (decide (2 = a0.Kind))
      (cond (!decide (a1 = (⟨#[]⟩ : ByteArray)))
      (Option.bind (G159 (⟨a0.Name, a0.Kind, a0.Least, a0.Most, a0.Words, a0.To, a0.Role, a0.Must, a0.Fixed, a0.Default, a0.Weighs⟩ : VwordField) a1) fun r2 =>
      some (r2))
      (some (false)))
      (cond (decide (3 = a0.Kind))
      (cond (!decide (a1 = (⟨#[]⟩ : ByteArray)))
      (Option.bind (G162 (⟨a0.Name, a0.Kind, a0.Least, a0.Most, a0.Words, a0.To, a0.Role, a0.Must, a0.Fixed, a0.Default, a0.Weighs⟩ : VtextField) a1) fun r3 =>
      some (r3))
      (some (false)))
      (cond (decide (4 = a0.Kind))
      (cond (!decide (a1 = (⟨#[]⟩ : ByteArray)))
      (Option.bind (G165 (⟨a0.Name, a0.Kind, a0.Least, a0.Most, a0.Words, a0.To, a0.Role, a0.Must, a0.Fixed, a0.Default, a0.Weighs⟩ : VlinkField) a1) fun r4 =>
      some (r4))
      (some (false)))
      (some (false)))))
theorem t98 (n : Nat) (a0 : VGateField) (a1 : ByteArray) : runFn (X98 n) (F98 n) Go.Proofs.Try.f98 [.agg [.str a0.Name, .int .i64 a0.Kind, .int .i64 a0.Least, .int .i64 a0.Most, .row .e9 a0.Words, .str a0.To, .int .i64 a0.Role, .bool a0.Must, .bool a0.Fixed, .str a0.Default, .str a0.Weighs], .one (.str a1)] dec98 = G98n n a0 a1 := by
  kernel_rfl
noncomputable def G98 (a0 : VGateField) (a1 : ByteArray) : Option (Bool) := G98n fuel a0 a1
noncomputable def con98 : Con C := { R0 := Bool, ret := fun r => [(false, [.bool r])], g := fun vs => match vs with
  | [.agg [.str y0_0, .int .i64 y0_1, .int .i64 y0_2, .int .i64 y0_3, .row .e9 y0_4, .str y0_5, .int .i64 y0_6, .bool y0_7, .bool y0_8, .str y0_9, .str y0_10], .one (.str y1)] => G98 ⟨y0_0, y0_1, y0_2, y0_3, y0_4, y0_5, y0_6, y0_7, y0_8, y0_9, y0_10⟩ y1
  | _ => none }
theorem x98 (n : Nat) : XOk Go.Proofs.Try.prog (X98 n) := ⟨tks_ok, els_ok, mps_ok, meths_ok⟩
theorem q98 (n : Nat) : Cons Go.Proofs.Try.prog (X98 n) := ⟨lkR_ok (l := [(155, con155), (159, con159), (162, con162), (165, con165)]) ⟨c155, c159, c162, c165, trivial⟩, lkW_ok (l := []) trivial, lkI_ok (l := [(120, I120 n)]) ⟨i120 n, trivial⟩⟩
theorem c98 : ConOk Go.Proofs.Try.prog KK 98 con98 := by
  refine con_dec (x98 fuel) (q98 fuel) (by kernel_rfl) (f := 98) (fn := Go.Proofs.Try.f98) (c := bodyOf Go.Proofs.Try.f98) (by kernel_rfl) (by kernel_rfl) (by kernel_rfl) (nameB (by kernel_rfl)) con98 dec98 (fun rs r0 h => ?_) (fun vs r0 h => ?_)
  · unfold dec98 at h
    split at h
    · cases h; rfl
    · cases h
  · simp only [con98] at h
    split at h
    · rename_i y0_0 y0_1 y0_2 y0_3 y0_4 y0_5 y0_6 y0_7 y0_8 y0_9 y0_10 y1
      exact ⟨Nat.le_of_ble_eq_true (by kernel_rfl), F98 fuel, (t98 fuel ⟨y0_0, y0_1, y0_2, y0_3, y0_4, y0_5, y0_6, y0_7, y0_8, y0_9, y0_10⟩ y1).trans h⟩
    · cases h
/-! ### f55 loop.example/wharfdesk/impl.shapeOf -/
noncomputable def X55 : Cx C := { K := KK, tk := lk tks, con := lkC [], conw := lkC [], inl := lkA [], hold := [], mp := lk mps, meth := lkS meths, off := 3604480 }
def F55 (n : Nat) : Cf := { N := n, keep := [0, 1, 4, 5, 6, 7, 8, 9, 10, 17], live := lk [(0, [1, 7, 8, 9])] }
def dec55 (rs : List (Bool × List (Lf C))) : Option (Int) := match rs with
  | [(false, [.int .i64 z0])] => some z0
  | _ => none
abbrev A55_0 : Type := ByteArray × List (C .e81) × Int × Int
def s55_0 : A55_0 → St C := fun (x0_0, x0_1, x0_2, x0_3) => { env := [(1, .one (.str x0_0)), (7, .one (.row .e81 x0_1)), (8, .one (.int .i64 x0_2)), (9, .one (.int .i64 x0_3))], objs := [], base := 0 }
noncomputable def r55_0 (n : Nat)  (rec0 : A55_0 → Option (Int)) : A55_0 → Option (Int) := fun (x0_0, x0_1, x0_2, x0_3) =>
      cond (decide (x0_3 < x0_2))
      (cond (decide (0 ≤ x0_3)) (Option.bind x0_1[x0_3.toNat]? fun x1 => cond (decide (x1.Kind = x0_0))
      (some (x0_3))
      (rec0 (x0_0, x0_1, x0_2, IntKind.i64.wrap (x0_3 + 1)))) none)
      (some ((-1)))
noncomputable def LP55_0 (n : Nat)  (x : A55_0) : Option (Int) := lpN (r55_0 n ) n x
noncomputable def MP55_0 (n : Nat)  (x : A55_0) : Option (Int) := iter (fun rec S => run X55 (F55 n) (codeAt (bodyOf Go.Proofs.Try.f55) [1, 0, 1, 0, 0]) 0 S (lopK rec (blkK 0 (seqK (run X55 (F55 n) (codeAt (bodyOf Go.Proofs.Try.f55) [1, 1]) 0) (kTop X55 Go.Proofs.Try.f55 dec55))))) [1, 7, 8, 9] n (s55_0 x)
theorem m55_0 (n : Nat)  (x : A55_0) : MP55_0 n  x = LP55_0 n  x := by
  refine iter_eq s55_0 (r55_0 n ) (fun rec0 x => ?_) n x
  obtain ⟨x0_0, x0_1, x0_2, x0_3⟩ := x
  kernel_rfl
noncomputable def G55n (n : Nat) (a0 : List (C .e81)) (a1 : ByteArray) : Option (Int) :=
      LP55_0 n  (a1, a0, (a0.length : Int), 0)
theorem t55 (n : Nat) (a0 : List (C .e81)) (a1 : ByteArray) : runFn X55 (F55 n) Go.Proofs.Try.f55 [.one (.row .e81 a0), .one (.str a1)] dec55 = G55n n a0 a1 := by
  have h : runFn X55 (F55 n) Go.Proofs.Try.f55 [.one (.row .e81 a0), .one (.str a1)] dec55 =
      MP55_0 n  (a1, a0, (a0.length : Int), 0) := by kernel_rfl
  simp only [h, G55n, m55_0]
noncomputable def G55 (a0 : List (C .e81)) (a1 : ByteArray) : Option (Int) := G55n fuel a0 a1
noncomputable def con55 : Con C := { R0 := Int, ret := fun r => [(false, [.int .i64 r])], g := fun vs => match vs with
  | [.one (.row .e81 y0), .one (.str y1)] => G55 y0 y1
  | _ => none }
theorem x55 : XOk Go.Proofs.Try.prog X55 := ⟨tks_ok, els_ok, mps_ok, meths_ok⟩
theorem q55 : Cons Go.Proofs.Try.prog X55 := ⟨lkR_ok (l := []) trivial, lkW_ok (l := []) trivial, lkI_ok (l := []) trivial⟩
theorem c55 : ConOk Go.Proofs.Try.prog KK 55 con55 := by
  refine con_dec x55 q55 (by kernel_rfl) (f := 55) (fn := Go.Proofs.Try.f55) (c := bodyOf Go.Proofs.Try.f55) (by kernel_rfl) (by kernel_rfl) (by kernel_rfl) (nameB (by kernel_rfl)) con55 dec55 (fun rs r0 h => ?_) (fun vs r0 h => ?_)
  · unfold dec55 at h
    split at h
    · cases h; rfl
    · cases h
  · simp only [con55] at h
    split at h
    · rename_i y0 y1
      exact ⟨Nat.le_of_ble_eq_true (by kernel_rfl), F55 fuel, (t55 fuel y0 y1).trans h⟩
    · cases h
/-! ### f96 loop.example/wharfdesk/impl.shapeOk -/
noncomputable def X96 (n : Nat) : Cx C := { K := KK, tk := lk tks, con := lkC [(78, con78), (98, con98), (154, con154), (156, con156), (158, con158), (160, con160), (161, con161), (163, con163), (164, con164), (166, con166)], conw := lkC [], inl := lkA [(120, I120 n)], hold := [1, 5, 7, 8, 9, 16, 17, 18, 38, 40, 41, 42, 45, 47, 48, 49, 50, 51, 52, 53, 54, 55], mp := lk mps, meth := lkS meths, off := 6291456 }
def F96 (n : Nat) : Cf := { N := n, keep := [0, 1, 2, 4, 5, 7, 8, 9, 13, 16, 17, 18, 19, 37, 55, 65], live := lk [(0, [1, 5, 16, 17, 18])] }
def dec96 (rs : List (Bool × List (Lf C))) : Option (Bool) := match rs with
  | [(false, [.bool z0])] => some z0
  | _ => none
abbrev A96_0 : Type := List (C .e9) × List (C .e100) × Int × Int × List (Nat × C .e9 × C .e3) × Nat
def s96_0 : A96_0 → St C := fun (x0_0, x0_1, x0_2, x0_3, x0_4, x0_5) => { env := [(1, .one (.row .e9 x0_0)), (5, .one (.vo 6292352)), (16, .one (.row .e100 x0_1)), (17, .one (.int .i64 x0_2)), (18, .one (.int .i64 x0_3))], objs := [(6292352, .map ⟨false, false, false, false⟩ .e9 .e3 x0_4 x0_5)], base := 0 }
noncomputable def r96_0 (n : Nat)  (rec0 : A96_0 → Option (Bool)) : A96_0 → Option (Bool) := fun (x0_0, x0_1, x0_2, x0_3, x0_4, x0_5) =>
      cond (decide (x0_3 < x0_2))
      (cond (decide (0 ≤ x0_3)) (Option.bind x0_1[x0_3.toNat]? fun x1 => Option.bind (G78 x1.Name) fun r2 =>
      cond (!r2)
      (some (false))
      (cond (decide ((mval KK .e9 .e3 x1.Name (mput KK .e9 .e3 x1.Name (IntKind.i64.wrap ((mval KK .e9 .e3 x1.Name x0_4) + 1)) x0_5 x0_4)) > 1))
      (some (false))
      (cond (decide (1 = x1.Kind))
      (Option.bind (G154 (⟨x1.Name, x1.Kind, x1.Least, x1.Most, x1.Words, x1.To, x1.Role, x1.Must, x1.Fixed, x1.Default, x1.Weighs⟩ : VnumberField)) fun r3 =>
      cond (!r3)
      (some (false))
      (Option.bind (G156 (⟨x1.Name, x1.Kind, x1.Least, x1.Most, x1.Words, x1.To, x1.Role, x1.Must, x1.Fixed, x1.Default, x1.Weighs⟩ : VnumberField) x0_0) fun r4 =>
      cond (!r4)
      (some (false))
      (cond (!decide (x1.Default = (⟨#[]⟩ : ByteArray)))
      (Option.bind (G98 x1 x1.Default) fun r5 =>
      cond (!r5)
      (some (false))
      (rec0 (x0_0, x0_1, x0_2, IntKind.i64.wrap (x0_3 + 1), mput KK .e9 .e3 x1.Name (IntKind.i64.wrap ((mval KK .e9 .e3 x1.Name x0_4) + 1)) x0_5 x0_4, mclk KK .e9 .e3 x1.Name x0_5 x0_4)))
      (rec0 (x0_0, x0_1, x0_2, IntKind.i64.wrap (x0_3 + 1), mput KK .e9 .e3 x1.Name (IntKind.i64.wrap ((mval KK .e9 .e3 x1.Name x0_4) + 1)) x0_5 x0_4, mclk KK .e9 .e3 x1.Name x0_5 x0_4)))))
      (cond (decide (2 = x1.Kind))
      (Option.bind (G158 (⟨x1.Name, x1.Kind, x1.Least, x1.Most, x1.Words, x1.To, x1.Role, x1.Must, x1.Fixed, x1.Default, x1.Weighs⟩ : VwordField)) fun r6 =>
      cond (!r6)
      (some (false))
      (Option.bind (G160 (⟨x1.Name, x1.Kind, x1.Least, x1.Most, x1.Words, x1.To, x1.Role, x1.Must, x1.Fixed, x1.Default, x1.Weighs⟩ : VwordField) x0_0) fun r7 =>
      cond (!r7)
      (some (false))
      (cond (!decide (x1.Default = (⟨#[]⟩ : ByteArray)))
      (Option.bind (G98 x1 x1.Default) fun r8 =>
      cond (!r8)
      (some (false))
      (rec0 (x0_0, x0_1, x0_2, IntKind.i64.wrap (x0_3 + 1), mput KK .e9 .e3 x1.Name (IntKind.i64.wrap ((mval KK .e9 .e3 x1.Name x0_4) + 1)) x0_5 x0_4, mclk KK .e9 .e3 x1.Name x0_5 x0_4)))
      (rec0 (x0_0, x0_1, x0_2, IntKind.i64.wrap (x0_3 + 1), mput KK .e9 .e3 x1.Name (IntKind.i64.wrap ((mval KK .e9 .e3 x1.Name x0_4) + 1)) x0_5 x0_4, mclk KK .e9 .e3 x1.Name x0_5 x0_4)))))
      (cond (decide (3 = x1.Kind))
      (Option.bind (G161 (⟨x1.Name, x1.Kind, x1.Least, x1.Most, x1.Words, x1.To, x1.Role, x1.Must, x1.Fixed, x1.Default, x1.Weighs⟩ : VtextField)) fun r9 =>
      cond (!r9)
      (some (false))
      (Option.bind (G163 (⟨x1.Name, x1.Kind, x1.Least, x1.Most, x1.Words, x1.To, x1.Role, x1.Must, x1.Fixed, x1.Default, x1.Weighs⟩ : VtextField) x0_0) fun r10 =>
      cond (!r10)
      (some (false))
      (cond (!decide (x1.Default = (⟨#[]⟩ : ByteArray)))
      (Option.bind (G98 x1 x1.Default) fun r11 =>
      cond (!r11)
      (some (false))
      (rec0 (x0_0, x0_1, x0_2, IntKind.i64.wrap (x0_3 + 1), mput KK .e9 .e3 x1.Name (IntKind.i64.wrap ((mval KK .e9 .e3 x1.Name x0_4) + 1)) x0_5 x0_4, mclk KK .e9 .e3 x1.Name x0_5 x0_4)))
      (rec0 (x0_0, x0_1, x0_2, IntKind.i64.wrap (x0_3 + 1), mput KK .e9 .e3 x1.Name (IntKind.i64.wrap ((mval KK .e9 .e3 x1.Name x0_4) + 1)) x0_5 x0_4, mclk KK .e9 .e3 x1.Name x0_5 x0_4)))))
      (cond (decide (4 = x1.Kind))
      (Option.bind (G164 (⟨x1.Name, x1.Kind, x1.Least, x1.Most, x1.Words, x1.To, x1.Role, x1.Must, x1.Fixed, x1.Default, x1.Weighs⟩ : VlinkField)) fun r12 =>
      cond (!r12)
      (some (false))
      (Option.bind (G166 (⟨x1.Name, x1.Kind, x1.Least, x1.Most, x1.Words, x1.To, x1.Role, x1.Must, x1.Fixed, x1.Default, x1.Weighs⟩ : VlinkField) x0_0) fun r13 =>
      cond (!r13)
      (some (false))
      (cond (!decide (x1.Default = (⟨#[]⟩ : ByteArray)))
      (Option.bind (G98 x1 x1.Default) fun r14 =>
      cond (!r14)
      (some (false))
      (rec0 (x0_0, x0_1, x0_2, IntKind.i64.wrap (x0_3 + 1), mput KK .e9 .e3 x1.Name (IntKind.i64.wrap ((mval KK .e9 .e3 x1.Name x0_4) + 1)) x0_5 x0_4, mclk KK .e9 .e3 x1.Name x0_5 x0_4)))
      (rec0 (x0_0, x0_1, x0_2, IntKind.i64.wrap (x0_3 + 1), mput KK .e9 .e3 x1.Name (IntKind.i64.wrap ((mval KK .e9 .e3 x1.Name x0_4) + 1)) x0_5 x0_4, mclk KK .e9 .e3 x1.Name x0_5 x0_4)))))
      (some (false)))))))) none)
      (some (true))
noncomputable def LP96_0 (n : Nat)  (x : A96_0) : Option (Bool) := lpN (r96_0 n ) n x
noncomputable def MP96_0 (n : Nat)  (x : A96_0) : Option (Bool) := iter (fun rec S => run (X96 n) (F96 n) (codeAt (bodyOf Go.Proofs.Try.f96) [1, 1, 1, 0, 1, 0, 0]) 0 S (lopK rec (blkK 0 (seqK (run (X96 n) (F96 n) (codeAt (bodyOf Go.Proofs.Try.f96) [1, 1, 1, 1]) 0) (kTop (X96 n) Go.Proofs.Try.f96 dec96))))) [1, 5, 16, 17, 18] n (s96_0 x)
theorem m96_0 (n : Nat)  (x : A96_0) : MP96_0 n  x = LP96_0 n  x := by
  refine iter_eq s96_0 (r96_0 n ) (fun rec0 x => ?_) n x
  obtain ⟨x0_0, x0_1, x0_2, x0_3, x0_4, x0_5⟩ := x
  kernel_rfl
noncomputable def G96n (n : Nat) (a0 : VGateShape) (a1 : List (C .e9)) : Option (Bool) :=
      cond (decide ((a0.Fields.length : Int) > 6))
      (some (false))
      (LP96_0 n  (a1, a0.Fields, (a0.Fields.length : Int), 0, ([] : List (Nat × C .e9 × C .e3)), 0))
theorem t96 (n : Nat) (a0 : VGateShape) (a1 : List (C .e9)) : runFn (X96 n) (F96 n) Go.Proofs.Try.f96 [.agg [.str a0.Kind, .row .e100 a0.Fields], .one (.row .e9 a1)] dec96 = G96n n a0 a1 := by
  have h : runFn (X96 n) (F96 n) Go.Proofs.Try.f96 [.agg [.str a0.Kind, .row .e100 a0.Fields], .one (.row .e9 a1)] dec96 =
      cond (decide ((a0.Fields.length : Int) > 6))
      (some (false))
      (MP96_0 n  (a1, a0.Fields, (a0.Fields.length : Int), 0, ([] : List (Nat × C .e9 × C .e3)), 0)) := by kernel_rfl
  simp only [h, G96n, m96_0]
noncomputable def G96 (a0 : VGateShape) (a1 : List (C .e9)) : Option (Bool) := G96n fuel a0 a1
noncomputable def con96 : Con C := { R0 := Bool, ret := fun r => [(false, [.bool r])], g := fun vs => match vs with
  | [.agg [.str y0_0, .row .e100 y0_1], .one (.row .e9 y1)] => G96 ⟨y0_0, y0_1⟩ y1
  | _ => none }
theorem x96 (n : Nat) : XOk Go.Proofs.Try.prog (X96 n) := ⟨tks_ok, els_ok, mps_ok, meths_ok⟩
theorem q96 (n : Nat) : Cons Go.Proofs.Try.prog (X96 n) := ⟨lkR_ok (l := [(78, con78), (98, con98), (154, con154), (156, con156), (158, con158), (160, con160), (161, con161), (163, con163), (164, con164), (166, con166)]) ⟨c78, c98, c154, c156, c158, c160, c161, c163, c164, c166, trivial⟩, lkW_ok (l := []) trivial, lkI_ok (l := [(120, I120 n)]) ⟨i120 n, trivial⟩⟩
theorem c96 : ConOk Go.Proofs.Try.prog KK 96 con96 := by
  refine con_dec (x96 fuel) (q96 fuel) (by kernel_rfl) (f := 96) (fn := Go.Proofs.Try.f96) (c := bodyOf Go.Proofs.Try.f96) (by kernel_rfl) (by kernel_rfl) (by kernel_rfl) (nameB (by kernel_rfl)) con96 dec96 (fun rs r0 h => ?_) (fun vs r0 h => ?_)
  · unfold dec96 at h
    split at h
    · cases h; rfl
    · cases h
  · simp only [con96] at h
    split at h
    · rename_i y0_0 y0_1 y1
      exact ⟨Nat.le_of_ble_eq_true (by kernel_rfl), F96 fuel, (t96 fuel ⟨y0_0, y0_1⟩ y1).trans h⟩
    · cases h
/-! ### f67 loop.example/wharfdesk/impl.GateShapesOk -/
noncomputable def X67 : Cx C := { K := KK, tk := lk tks, con := lkC [(95, con95), (96, con96)], conw := lkC [], inl := lkA [], hold := [], mp := lk mps, meth := lkS meths, off := 4390912 }
def F67 (n : Nat) : Cf := { N := n, keep := [0, 2, 3, 5, 7, 10, 14, 15, 16, 17, 28, 29, 30, 31, 32, 38], live := lk [(0, [0, 3, 14, 15, 16]), (2, [3, 29, 30, 31])] }
def dec67 (rs : List (Bool × List (Lf C))) : Option (Bool) := match rs with
  | [(false, [.bool z0])] => some z0
  | _ => none
abbrev A67_1 : Type := List (C .e9) × List (C .e81) × Int × Int
def s67_1 : A67_1 → St C := fun (x1_0, x1_1, x1_2, x1_3) => { env := [(3, .one (.ref 100003 [])), (29, .one (.row .e81 x1_1)), (30, .one (.int .i64 x1_2)), (31, .one (.int .i64 x1_3))], objs := [(100003, .row .e9 x1_0 false)], base := 0 }
abbrev A67_0 : Type := List (C .e81) × List (C .e9) × List (C .e81) × Int × Int
def s67_0 : A67_0 → St C := fun (x0_0, x0_1, x0_2, x0_3, x0_4) => { env := [(0, .one (.row .e81 x0_0)), (3, .one (.ref 100003 [])), (14, .one (.row .e81 x0_2)), (15, .one (.int .i64 x0_3)), (16, .one (.int .i64 x0_4))], objs := [(100003, .row .e9 x0_1 false)], base := 0 }
noncomputable def r67_1 (n : Nat)  (rec1 : A67_1 → Option (Bool)) : A67_1 → Option (Bool) := fun (x1_0, x1_1, x1_2, x1_3) =>
      cond (decide (x1_3 < x1_2))
      (cond (decide (0 ≤ x1_3)) (Option.bind x1_1[x1_3.toNat]? fun x3 => Option.bind (G96 x3 x1_0) fun r4 =>
      cond (!r4)
      (some (false))
      (rec1 (x1_0, x1_1, x1_2, IntKind.i64.wrap (x1_3 + 1)))) none)
      (some (true))
noncomputable def LP67_1 (n : Nat)  (x : A67_1) : Option (Bool) := lpN (r67_1 n ) n x
noncomputable def MP67_1 (n : Nat)  (x : A67_1) : Option (Bool) := iter (fun rec S => run X67 (F67 n) (codeAt (bodyOf Go.Proofs.Try.f67) [1, 1, 1, 1, 1, 0, 1, 0, 0]) 2 S (lopK rec (blkK 2 (seqK (run X67 (F67 n) (codeAt (bodyOf Go.Proofs.Try.f67) [1, 1, 1, 1, 1, 1]) 0) (kTop X67 Go.Proofs.Try.f67 dec67))))) [3, 29, 30, 31] n (s67_1 x)
theorem m67_1 (n : Nat)  (x : A67_1) : MP67_1 n  x = LP67_1 n  x := by
  refine iter_eq s67_1 (r67_1 n ) (fun rec1 x => ?_) n x
  obtain ⟨x1_0, x1_1, x1_2, x1_3⟩ := x
  kernel_rfl
noncomputable def r67_0 (n : Nat)  (rec0 : A67_0 → Option (Bool)) : A67_0 → Option (Bool) := fun (x0_0, x0_1, x0_2, x0_3, x0_4) =>
      cond (decide (x0_4 < x0_3))
      (cond (decide (0 ≤ x0_4)) (Option.bind x0_2[x0_4.toNat]? fun x1 => cond (decide ((x0_1.length + (([x1.Kind] : List (C .e9))).length) * 16 ≤ 140737488355328)) (rec0 (x0_0, x0_1 ++ (([x1.Kind] : List (C .e9))), x0_2, x0_3, IntKind.i64.wrap (x0_4 + 1))) none) none)
      (Option.bind (G95 x0_1) fun r2 =>
      cond (!r2)
      (some (false))
      (LP67_1 n  (x0_1, x0_0, (x0_0.length : Int), 0)))
noncomputable def LP67_0 (n : Nat)  (x : A67_0) : Option (Bool) := lpN (r67_0 n ) n x
noncomputable def MP67_0 (n : Nat)  (x : A67_0) : Option (Bool) := iter (fun rec S => run X67 (F67 n) (codeAt (bodyOf Go.Proofs.Try.f67) [1, 1, 1, 0, 1, 0, 0]) 0 S (lopK rec (blkK 0 (seqK (run X67 (F67 n) (codeAt (bodyOf Go.Proofs.Try.f67) [1, 1, 1, 1]) 0) (kTop X67 Go.Proofs.Try.f67 dec67))))) [0, 3, 14, 15, 16] n (s67_0 x)
theorem m67_0 (n : Nat)  (x : A67_0) : MP67_0 n  x = LP67_0 n  x := by
  refine iter_eq s67_0 (r67_0 n ) (fun rec0 x => ?_) n x
  obtain ⟨x0_0, x0_1, x0_2, x0_3, x0_4⟩ := x
  have h : run X67 (F67 n) (codeAt (bodyOf Go.Proofs.Try.f67) [1, 1, 1, 0, 1, 0, 0]) 0 (s67_0 (x0_0, x0_1, x0_2, x0_3, x0_4)) (lopK (canThen [0, 3, 14, 15, 16] rec0) (blkK 0 (seqK (run X67 (F67 n) (codeAt (bodyOf Go.Proofs.Try.f67) [1, 1, 1, 1]) 0) (kTop X67 Go.Proofs.Try.f67 dec67)))) =
      cond (decide (x0_4 < x0_3))
      (cond (decide (0 ≤ x0_4)) (Option.bind x0_2[x0_4.toNat]? fun x1 => cond (decide ((x0_1.length + (([x1.Kind] : List (C .e9))).length) * 16 ≤ 140737488355328)) ((fun x => rec0 (s67_0 x)) (x0_0, x0_1 ++ (([x1.Kind] : List (C .e9))), x0_2, x0_3, IntKind.i64.wrap (x0_4 + 1))) none) none)
      (Option.bind (G95 x0_1) fun r2 =>
      cond (!r2)
      (some (false))
      (MP67_1 n  (x0_1, x0_0, (x0_0.length : Int), 0))) := by kernel_rfl
  simp only [m67_1] at h
  exact h
noncomputable def G67n (n : Nat) (a0 : List (C .e81)) : Option (Bool) :=
      cond (decide ((a0.length : Int) > 6))
      (some (false))
      (cond (decide ((0 : Int) ≤ (a0.length : Int))) (cond (decide ((a0.length : Int) * 16 ≤ 140737488355328)) (LP67_0 n  (a0, ([] : List (C .e9)), a0, (a0.length : Int), 0)) none) none)
theorem t67 (n : Nat) (a0 : List (C .e81)) : runFn X67 (F67 n) Go.Proofs.Try.f67 [.one (.row .e81 a0)] dec67 = G67n n a0 := by
  have h : runFn X67 (F67 n) Go.Proofs.Try.f67 [.one (.row .e81 a0)] dec67 =
      cond (decide ((a0.length : Int) > 6))
      (some (false))
      (cond (decide ((0 : Int) ≤ (a0.length : Int))) (cond (decide ((a0.length : Int) * 16 ≤ 140737488355328)) (MP67_0 n  (a0, ([] : List (C .e9)), a0, (a0.length : Int), 0)) none) none) := by kernel_rfl
  simp only [h, G67n, m67_0]
noncomputable def G67 (a0 : List (C .e81)) : Option (Bool) := G67n fuel a0
noncomputable def con67 : Con C := { R0 := Bool, ret := fun r => [(false, [.bool r])], g := fun vs => match vs with
  | [.one (.row .e81 y0)] => G67 y0
  | _ => none }
theorem x67 : XOk Go.Proofs.Try.prog X67 := ⟨tks_ok, els_ok, mps_ok, meths_ok⟩
theorem q67 : Cons Go.Proofs.Try.prog X67 := ⟨lkR_ok (l := [(95, con95), (96, con96)]) ⟨c95, c96, trivial⟩, lkW_ok (l := []) trivial, lkI_ok (l := []) trivial⟩
theorem c67 : ConOk Go.Proofs.Try.prog KK 67 con67 := by
  refine con_dec x67 q67 (by kernel_rfl) (f := 67) (fn := Go.Proofs.Try.f67) (c := bodyOf Go.Proofs.Try.f67) (by kernel_rfl) (by kernel_rfl) (by kernel_rfl) (nameB (by kernel_rfl)) con67 dec67 (fun rs r0 h => ?_) (fun vs r0 h => ?_)
  · unfold dec67 at h
    split at h
    · cases h; rfl
    · cases h
  · simp only [con67] at h
    split at h
    · rename_i y0
      exact ⟨Nat.le_of_ble_eq_true (by kernel_rfl), F67 fuel, (t67 fuel y0).trans h⟩
    · cases h
/-! ### f57 loop.example/wharfdesk/impl.placeOf -/
noncomputable def X57 : Cx C := { K := KK, tk := lk tks, con := lkC [], conw := lkC [], inl := lkA [], hold := [], mp := lk mps, meth := lkS meths, off := 3735552 }
def F57 (n : Nat) : Cf := { N := n, keep := [0, 1, 4, 5, 6, 7, 8, 9, 10, 17], live := lk [(0, [1, 7, 8, 9])] }
def dec57 (rs : List (Bool × List (Lf C))) : Option (Int) := match rs with
  | [(false, [.int .i64 z0])] => some z0
  | _ => none
abbrev A57_0 : Type := ByteArray × List (C .e100) × Int × Int
def s57_0 : A57_0 → St C := fun (x0_0, x0_1, x0_2, x0_3) => { env := [(1, .one (.str x0_0)), (7, .one (.row .e100 x0_1)), (8, .one (.int .i64 x0_2)), (9, .one (.int .i64 x0_3))], objs := [], base := 0 }
noncomputable def r57_0 (n : Nat)  (rec0 : A57_0 → Option (Int)) : A57_0 → Option (Int) := fun (x0_0, x0_1, x0_2, x0_3) =>
      cond (decide (x0_3 < x0_2))
      (cond (decide (0 ≤ x0_3)) (Option.bind x0_1[x0_3.toNat]? fun x1 => cond (decide (x1.Name = x0_0))
      (some (x0_3))
      (rec0 (x0_0, x0_1, x0_2, IntKind.i64.wrap (x0_3 + 1)))) none)
      (some ((-1)))
noncomputable def LP57_0 (n : Nat)  (x : A57_0) : Option (Int) := lpN (r57_0 n ) n x
noncomputable def MP57_0 (n : Nat)  (x : A57_0) : Option (Int) := iter (fun rec S => run X57 (F57 n) (codeAt (bodyOf Go.Proofs.Try.f57) [1, 0, 1, 0, 0]) 0 S (lopK rec (blkK 0 (seqK (run X57 (F57 n) (codeAt (bodyOf Go.Proofs.Try.f57) [1, 1]) 0) (kTop X57 Go.Proofs.Try.f57 dec57))))) [1, 7, 8, 9] n (s57_0 x)
theorem m57_0 (n : Nat)  (x : A57_0) : MP57_0 n  x = LP57_0 n  x := by
  refine iter_eq s57_0 (r57_0 n ) (fun rec0 x => ?_) n x
  obtain ⟨x0_0, x0_1, x0_2, x0_3⟩ := x
  kernel_rfl
noncomputable def G57n (n : Nat) (a0 : List (C .e100)) (a1 : ByteArray) : Option (Int) :=
      LP57_0 n  (a1, a0, (a0.length : Int), 0)
theorem t57 (n : Nat) (a0 : List (C .e100)) (a1 : ByteArray) : runFn X57 (F57 n) Go.Proofs.Try.f57 [.one (.row .e100 a0), .one (.str a1)] dec57 = G57n n a0 a1 := by
  have h : runFn X57 (F57 n) Go.Proofs.Try.f57 [.one (.row .e100 a0), .one (.str a1)] dec57 =
      MP57_0 n  (a1, a0, (a0.length : Int), 0) := by kernel_rfl
  simp only [h, G57n, m57_0]
noncomputable def G57 (a0 : List (C .e100)) (a1 : ByteArray) : Option (Int) := G57n fuel a0 a1
noncomputable def con57 : Con C := { R0 := Int, ret := fun r => [(false, [.int .i64 r])], g := fun vs => match vs with
  | [.one (.row .e100 y0), .one (.str y1)] => G57 y0 y1
  | _ => none }
theorem x57 : XOk Go.Proofs.Try.prog X57 := ⟨tks_ok, els_ok, mps_ok, meths_ok⟩
theorem q57 : Cons Go.Proofs.Try.prog X57 := ⟨lkR_ok (l := []) trivial, lkW_ok (l := []) trivial, lkI_ok (l := []) trivial⟩
theorem c57 : ConOk Go.Proofs.Try.prog KK 57 con57 := by
  refine con_dec x57 q57 (by kernel_rfl) (f := 57) (fn := Go.Proofs.Try.f57) (c := bodyOf Go.Proofs.Try.f57) (by kernel_rfl) (by kernel_rfl) (by kernel_rfl) (nameB (by kernel_rfl)) con57 dec57 (fun rs r0 h => ?_) (fun vs r0 h => ?_)
  · unfold dec57 at h
    split at h
    · cases h; rfl
    · cases h
  · simp only [con57] at h
    split at h
    · rename_i y0 y1
      exact ⟨Nat.le_of_ble_eq_true (by kernel_rfl), F57 fuel, (t57 fuel y0 y1).trans h⟩
    · cases h
/-! ### f97 loop.example/wharfdesk/impl.mendOk$1 -/
noncomputable def X97 : Cx C := { K := KK, tk := lk tks, con := lkC [(57, con57)], conw := lkC [], inl := lkA [], hold := [], mp := lk mps, meth := lkS meths, off := 6356992 }
def F97 (n : Nat) : Cf := { N := n, keep := [0, 1, 3, 4], live := lk [] }
def dec97 (rs : List (Bool × List (Lf C))) : Option (Bool) := match rs with
  | [(false, [.bool z0])] => some z0
  | _ => none
noncomputable def G97n (n : Nat) (a0 : ByteArray) (a1 : C .e60) : Option (Bool) :=
      Option.bind (G57 a1 a0) fun r1 =>
      cond (decide (r1 ≥ 0))
      (cond (decide (0 ≤ r1)) (Option.bind a1[r1.toNat]? fun x2 => some (x2.Kind != 4)) none)
      (some (false))
theorem t97 (n : Nat) (a0 : ByteArray) (a1 : C .e60) : runFn X97 (F97 n) Go.Proofs.Try.f97 [.one (.str a0), .one (.elt .e60 a1 0)] dec97 = G97n n a0 a1 := by
  kernel_rfl
noncomputable def G97 (a0 : ByteArray) (a1 : C .e60) : Option (Bool) := G97n fuel a0 a1
noncomputable def con97 : Con C := { R0 := Bool, pt := [none, some .e60], ret := fun r => [(false, [.bool r])], g := fun vs => match vs with
  | [.one (.str y0), .one (.elt .e60 y1 0)] => G97 y0 y1
  | _ => none }
theorem x97 : XOk Go.Proofs.Try.prog X97 := ⟨tks_ok, els_ok, mps_ok, meths_ok⟩
theorem q97 : Cons Go.Proofs.Try.prog X97 := ⟨lkR_ok (l := [(57, con57)]) ⟨c57, trivial⟩, lkW_ok (l := []) trivial, lkI_ok (l := []) trivial⟩
theorem c97 : ConOk Go.Proofs.Try.prog KK 97 con97 := by
  refine con_dec x97 q97 (by kernel_rfl) (f := 97) (fn := Go.Proofs.Try.f97) (c := bodyOf Go.Proofs.Try.f97) (by kernel_rfl) (by kernel_rfl) (by kernel_rfl) (nameB (by kernel_rfl)) con97 dec97 (fun rs r0 h => ?_) (fun vs r0 h => ?_)
  · unfold dec97 at h
    split at h
    · cases h; rfl
    · cases h
  · simp only [con97] at h
    split at h
    · rename_i y0 y1
      exact ⟨Nat.le_of_ble_eq_true (by kernel_rfl), F97 fuel, (t97 fuel y0 y1).trans h⟩
    · cases h
/-! ### f68 loop.example/wharfdesk/impl.mendOk -/
noncomputable def X68 : Cx C := { K := KK, tk := lk tks, con := lkC [(57, con57), (97, con97), (98, con98)], conw := lkC [], inl := lkA [], hold := [], mp := lk mps, meth := lkS meths, off := 4456448 }
def F68 (n : Nat) : Cf := { N := n, keep := [0, 1, 2, 3, 4, 5, 35, 66], live := lk [] }
def dec68 (rs : List (Bool × List (Lf C))) : Option (Bool) := match rs with
  | [(false, [.bool z0])] => some z0
  | _ => none
noncomputable def G68n (n : Nat) (a0 : List (C .e100)) (a1 : VGateMend) : Option (Bool) :=
      Option.bind (G97 a1.Field a0) fun r1 =>
      cond (!r1)
      (some (false))
      (cond (!decide (a1.When = (⟨#[]⟩ : ByteArray)))
      (Option.bind (G97 a1.When a0) fun r2 =>
      cond (!r2)
      (some (false))
      (cond (!decide (a1.From = (⟨#[]⟩ : ByteArray)))
      (Option.bind (G97 a1.From a0) fun r3 =>
      cond (!r3)
      (some (false))
      (cond (decide (a1.When = a1.Field))
      (some (false))
      (cond (decide (a1.From = a1.Field))
      (some (false))
      (cond (decide (a1.When = (⟨#[]⟩ : ByteArray)))
      (cond (!decide (a1.Is = (⟨#[]⟩ : ByteArray)))
      (some (false))
      (cond ((decide (a1.Put = (⟨#[]⟩ : ByteArray))) == (decide (a1.From = (⟨#[]⟩ : ByteArray))))
      (some (false))
      (cond (decide (a1.Put = (⟨#[]⟩ : ByteArray)))
      (some (true))
      (Option.bind (G57 a0 a1.Field) fun r4 =>
      cond (decide (0 ≤ r4)) (Option.bind a0[r4.toNat]? fun x5 => Option.bind (G98 x5 a1.Put) fun r6 =>
      some (r6)) none))))
      (cond ((decide (a1.Put = (⟨#[]⟩ : ByteArray))) == (decide (a1.From = (⟨#[]⟩ : ByteArray))))
      (some (false))
      (cond (decide (a1.Put = (⟨#[]⟩ : ByteArray)))
      (some (true))
      (Option.bind (G57 a0 a1.Field) fun r7 =>
      cond (decide (0 ≤ r7)) (Option.bind a0[r7.toNat]? fun x8 => Option.bind (G98 x8 a1.Put) fun r9 =>
      some (r9)) none)))))))
      (cond (decide (a1.When = a1.Field))
      (some (false))
      (cond (decide (a1.From = a1.Field))
      (some (false))
      (cond (decide (a1.When = (⟨#[]⟩ : ByteArray)))
      (cond (!decide (a1.Is = (⟨#[]⟩ : ByteArray)))
      (some (false))
      (cond ((decide (a1.Put = (⟨#[]⟩ : ByteArray))) == (decide (a1.From = (⟨#[]⟩ : ByteArray))))
      (some (false))
      (cond (decide (a1.Put = (⟨#[]⟩ : ByteArray)))
      (some (true))
      (Option.bind (G57 a0 a1.Field) fun r10 =>
      cond (decide (0 ≤ r10)) (Option.bind a0[r10.toNat]? fun x11 => Option.bind (G98 x11 a1.Put) fun r12 =>
      some (r12)) none))))
      (cond ((decide (a1.Put = (⟨#[]⟩ : ByteArray))) == (decide (a1.From = (⟨#[]⟩ : ByteArray))))
      (some (false))
      (cond (decide (a1.Put = (⟨#[]⟩ : ByteArray)))
      (some (true))
      (Option.bind (G57 a0 a1.Field) fun r13 =>
      cond (decide (0 ≤ r13)) (Option.bind a0[r13.toNat]? fun x14 => Option.bind (G98 x14 a1.Put) fun r15 =>
      some (r15)) none))))))))
      (cond (!decide (a1.From = (⟨#[]⟩ : ByteArray)))
      (Option.bind (G97 a1.From a0) fun r16 =>
      cond (!r16)
      (some (false))
      (cond (decide (a1.When = a1.Field))
      (some (false))
      (cond (decide (a1.From = a1.Field))
      (some (false))
      (cond (decide (a1.When = (⟨#[]⟩ : ByteArray)))
      (cond (!decide (a1.Is = (⟨#[]⟩ : ByteArray)))
      (some (false))
      (cond ((decide (a1.Put = (⟨#[]⟩ : ByteArray))) == (decide (a1.From = (⟨#[]⟩ : ByteArray))))
      (some (false))
      (cond (decide (a1.Put = (⟨#[]⟩ : ByteArray)))
      (some (true))
      (Option.bind (G57 a0 a1.Field) fun r17 =>
      cond (decide (0 ≤ r17)) (Option.bind a0[r17.toNat]? fun x18 => Option.bind (G98 x18 a1.Put) fun r19 =>
      some (r19)) none))))
      (cond ((decide (a1.Put = (⟨#[]⟩ : ByteArray))) == (decide (a1.From = (⟨#[]⟩ : ByteArray))))
      (some (false))
      (cond (decide (a1.Put = (⟨#[]⟩ : ByteArray)))
      (some (true))
      (Option.bind (G57 a0 a1.Field) fun r20 =>
      cond (decide (0 ≤ r20)) (Option.bind a0[r20.toNat]? fun x21 => Option.bind (G98 x21 a1.Put) fun r22 =>
      some (r22)) none)))))))
      (cond (decide (a1.When = a1.Field))
      (some (false))
      (cond (decide (a1.From = a1.Field))
      (some (false))
      (cond (decide (a1.When = (⟨#[]⟩ : ByteArray)))
      (cond (!decide (a1.Is = (⟨#[]⟩ : ByteArray)))
      (some (false))
      (cond ((decide (a1.Put = (⟨#[]⟩ : ByteArray))) == (decide (a1.From = (⟨#[]⟩ : ByteArray))))
      (some (false))
      (cond (decide (a1.Put = (⟨#[]⟩ : ByteArray)))
      (some (true))
      (Option.bind (G57 a0 a1.Field) fun r23 =>
      cond (decide (0 ≤ r23)) (Option.bind a0[r23.toNat]? fun x24 => Option.bind (G98 x24 a1.Put) fun r25 =>
      some (r25)) none))))
      (cond ((decide (a1.Put = (⟨#[]⟩ : ByteArray))) == (decide (a1.From = (⟨#[]⟩ : ByteArray))))
      (some (false))
      (cond (decide (a1.Put = (⟨#[]⟩ : ByteArray)))
      (some (true))
      (Option.bind (G57 a0 a1.Field) fun r26 =>
      cond (decide (0 ≤ r26)) (Option.bind a0[r26.toNat]? fun x27 => Option.bind (G98 x27 a1.Put) fun r28 =>
      some (r28)) none))))))))
theorem t68 (n : Nat) (a0 : List (C .e100)) (a1 : VGateMend) : runFn X68 (F68 n) Go.Proofs.Try.f68 [.one (.row .e100 a0), .agg [.str a1.Kind, .str a1.Field, .str a1.When, .str a1.Is, .str a1.Put, .str a1.From]] dec68 = G68n n a0 a1 := by
  kernel_rfl
noncomputable def G68 (a0 : List (C .e100)) (a1 : VGateMend) : Option (Bool) := G68n fuel a0 a1
noncomputable def con68 : Con C := { R0 := Bool, ret := fun r => [(false, [.bool r])], g := fun vs => match vs with
  | [.one (.row .e100 y0), .agg [.str y1_0, .str y1_1, .str y1_2, .str y1_3, .str y1_4, .str y1_5]] => G68 y0 ⟨y1_0, y1_1, y1_2, y1_3, y1_4, y1_5⟩
  | _ => none }
theorem x68 : XOk Go.Proofs.Try.prog X68 := ⟨tks_ok, els_ok, mps_ok, meths_ok⟩
theorem q68 : Cons Go.Proofs.Try.prog X68 := ⟨lkR_ok (l := [(57, con57), (97, con97), (98, con98)]) ⟨c57, c97, c98, trivial⟩, lkW_ok (l := []) trivial, lkI_ok (l := []) trivial⟩
theorem c68 : ConOk Go.Proofs.Try.prog KK 68 con68 := by
  refine con_dec x68 q68 (by kernel_rfl) (f := 68) (fn := Go.Proofs.Try.f68) (c := bodyOf Go.Proofs.Try.f68) (by kernel_rfl) (by kernel_rfl) (by kernel_rfl) (nameB (by kernel_rfl)) con68 dec68 (fun rs r0 h => ?_) (fun vs r0 h => ?_)
  · unfold dec68 at h
    split at h
    · cases h; rfl
    · cases h
  · simp only [con68] at h
    split at h
    · rename_i y0 y1_0 y1_1 y1_2 y1_3 y1_4 y1_5
      exact ⟨Nat.le_of_ble_eq_true (by kernel_rfl), F68 fuel, (t68 fuel y0 ⟨y1_0, y1_1, y1_2, y1_3, y1_4, y1_5⟩).trans h⟩
    · cases h
/-! ### f89 loop.example/wharfdesk/impl.rowOf$1 -/
noncomputable def X89 : Cx C := { K := KK, tk := lk tks, con := lkC [], conw := lkC [], inl := lkA [], hold := [], mp := lk mps, meth := lkS meths, off := 5832704 }
def F89 (n : Nat) : Cf := { N := n, keep := [0, 1, 2, 4, 5, 7, 8, 9, 10, 11, 24, 27, 35], live := lk [(0, [0, 2, 5, 8, 9, 10])] }
def dec89 (rs : List (Bool × List (Lf C))) : Option (List (C .e9)) := match rs with
  | [(false, [.row .e9 z0])] => some z0
  | _ => none
abbrev A89_0 : Type := ByteArray × C .e81 × List (C .e9) × List (C .e83) × Int × Int
def s89_0 : A89_0 → St C := fun (x0_0, x0_1, x0_2, x0_3, x0_4, x0_5) => { env := [(0, .one (.str x0_0)), (2, .one (.elt .e81 x0_1 0)), (5, .one (.ref 100005 [])), (8, .one (.row .e83 x0_3)), (9, .one (.int .i64 x0_4)), (10, .one (.int .i64 x0_5))], objs := [(100005, .row .e9 x0_2 false)], base := 0 }
noncomputable def r89_0 (n : Nat)  (rec0 : A89_0 → Option (List (C .e9))) : A89_0 → Option (List (C .e9)) := fun (x0_0, x0_1, x0_2, x0_3, x0_4, x0_5) =>
      cond (decide (x0_5 < x0_4))
      (cond (decide (0 ≤ x0_5)) (Option.bind x0_3[x0_5.toNat]? fun x1 => cond (!decide (x1.Kind = x0_1.Kind))
      (rec0 (x0_0, x0_1, x0_2, x0_3, x0_4, IntKind.i64.wrap (x0_5 + 1)))
      (cond (!decide (x1.Field = x0_0))
      (rec0 (x0_0, x0_1, x0_2, x0_3, x0_4, IntKind.i64.wrap (x0_5 + 1)))
      (cond (!decide (x1.When = (⟨#[]⟩ : ByteArray)))
      (cond (decide ((x0_2.length + (([x1.When] : List (C .e9))).length) * 16 ≤ 140737488355328)) (cond (!decide (x1.From = (⟨#[]⟩ : ByteArray)))
      (cond (decide (((x0_2 ++ (([x1.When] : List (C .e9)))).length + (([x1.From] : List (C .e9))).length) * 16 ≤ 140737488355328)) (rec0 (x0_0, x0_1, (x0_2 ++ (([x1.When] : List (C .e9)))) ++ (([x1.From] : List (C .e9))), x0_3, x0_4, IntKind.i64.wrap (x0_5 + 1))) none)
      (rec0 (x0_0, x0_1, x0_2 ++ (([x1.When] : List (C .e9))), x0_3, x0_4, IntKind.i64.wrap (x0_5 + 1)))) none)
      (cond (!decide (x1.From = (⟨#[]⟩ : ByteArray)))
      (cond (decide ((x0_2.length + (([x1.From] : List (C .e9))).length) * 16 ≤ 140737488355328)) (rec0 (x0_0, x0_1, x0_2 ++ (([x1.From] : List (C .e9))), x0_3, x0_4, IntKind.i64.wrap (x0_5 + 1))) none)
      (rec0 (x0_0, x0_1, x0_2, x0_3, x0_4, IntKind.i64.wrap (x0_5 + 1))))))) none)
      (some (x0_2))
noncomputable def LP89_0 (n : Nat)  (x : A89_0) : Option (List (C .e9)) := lpN (r89_0 n ) n x
noncomputable def MP89_0 (n : Nat)  (x : A89_0) : Option (List (C .e9)) := iter (fun rec S => run X89 (F89 n) (codeAt (bodyOf Go.Proofs.Try.f89) [1, 1, 0, 1, 0, 0]) 0 S (lopK rec (blkK 0 (seqK (run X89 (F89 n) (codeAt (bodyOf Go.Proofs.Try.f89) [1, 1, 1]) 0) (kTop X89 Go.Proofs.Try.f89 dec89))))) [0, 2, 5, 8, 9, 10] n (s89_0 x)
theorem m89_0 (n : Nat)  (x : A89_0) : MP89_0 n  x = LP89_0 n  x := by
  refine iter_eq s89_0 (r89_0 n ) (fun rec0 x => ?_) n x
  obtain ⟨x0_0, x0_1, x0_2, x0_3, x0_4, x0_5⟩ := x
  kernel_rfl
noncomputable def G89n (n : Nat) (a0 : ByteArray) (a1 : C .e30) (a2 : C .e81) : Option (List (C .e9)) :=
      LP89_0 n  (a0, a2, ([] : List (C .e9)), a1, (a1.length : Int), 0)
theorem t89 (n : Nat) (a0 : ByteArray) (a1 : C .e30) (a2 : C .e81) : runFn X89 (F89 n) Go.Proofs.Try.f89 [.one (.str a0), .one (.elt .e30 a1 0), .one (.elt .e81 a2 0)] dec89 = G89n n a0 a1 a2 := by
  have h : runFn X89 (F89 n) Go.Proofs.Try.f89 [.one (.str a0), .one (.elt .e30 a1 0), .one (.elt .e81 a2 0)] dec89 =
      MP89_0 n  (a0, a2, ([] : List (C .e9)), a1, (a1.length : Int), 0) := by kernel_rfl
  simp only [h, G89n, m89_0]
noncomputable def G89 (a0 : ByteArray) (a1 : C .e30) (a2 : C .e81) : Option (List (C .e9)) := G89n fuel a0 a1 a2
noncomputable def con89 : Con C := { R0 := List (C .e9), pt := [none, some .e30, some .e81], ret := fun r => [(false, [.row .e9 r])], g := fun vs => match vs with
  | [.one (.str y0), .one (.elt .e30 y1 0), .one (.elt .e81 y2 0)] => G89 y0 y1 y2
  | _ => none }
theorem x89 : XOk Go.Proofs.Try.prog X89 := ⟨tks_ok, els_ok, mps_ok, meths_ok⟩
theorem q89 : Cons Go.Proofs.Try.prog X89 := ⟨lkR_ok (l := []) trivial, lkW_ok (l := []) trivial, lkI_ok (l := []) trivial⟩
theorem c89 : ConOk Go.Proofs.Try.prog KK 89 con89 := by
  refine con_dec x89 q89 (by kernel_rfl) (f := 89) (fn := Go.Proofs.Try.f89) (c := bodyOf Go.Proofs.Try.f89) (by kernel_rfl) (by kernel_rfl) (by kernel_rfl) (nameB (by kernel_rfl)) con89 dec89 (fun rs r0 h => ?_) (fun vs r0 h => ?_)
  · unfold dec89 at h
    split at h
    · cases h; rfl
    · cases h
  · simp only [con89] at h
    split at h
    · rename_i y0 y1 y2
      exact ⟨Nat.le_of_ble_eq_true (by kernel_rfl), F89 fuel, (t89 fuel y0 y1 y2).trans h⟩
    · cases h
/-! ### f109 loop.example/wharfdesk/impl.row[string]$1, by a summary -/
noncomputable def F109 (n : Nat) : Cf := { N := n, keep := [0, 1, 2, 3, 4, 6, 8, 11, 12, 14, 20, 21, 22, 23, 29], live := lk [(1, [0, 1, 3, 4, 20, 21, 22])] }
def dec109 (os : Objs C) (ls : List (Lf C)) (rs : List (Bool × List (Lf C))) : Option (List (C .e9) × List (Nat × C .e9 × C .e3) × Nat × List (C .e83) × ByteArray × List (C .e100) × Bool) := match os, ls, rs with
  | [(5767552, .box .mem [.vo 5767872]), (5767360, .box .mem [.vo 3540416]), (5767680, .box .mem [.vo 5767936]), (5767616, .box .mem [.ref 577761600 []]), (577761600, .row .e9 z0 false), (5767872, .map ⟨false, false, false, false⟩ .e9 .e3 z1 z2), (3540416, .box (.clo 89 0 [(false, 1), (false, 1)]) [.ptr 3539136 0, .ptr 3539072 0]), (5767936, .box (.clo 109 0 [(false, 1), (false, 1), (false, 1), (false, 1)]) [.ptr 5767552 0, .ptr 5767360 0, .ptr 5767680 0, .ptr 5767616 0]), (3539136, .box .mem [.row .e83 z3]), (3539072, .box .mem [.str z4, .row .e100 z5]), (77777777, .ghost)], [.ptr 5767552 0, .ptr 5767360 0, .ptr 5767680 0, .ptr 5767616 0, .vo 5767872, .vo 3540416, .vo 5767936, .ptr 3539136 0, .ptr 3539072 0], [(false, [.bool z6])] => some (z0, z1, z2, z3, z4, z5, z6)
  | _, _, _ => none
abbrev A109_0 : Type := ByteArray × List (C .e9) × Int × Int × List (C .e9) × List (Nat × C .e9 × C .e3) × Nat × List (C .e83) × ByteArray × List (C .e100)
def s109_0 : A109_0 → St C := fun (x0_0, x0_1, x0_2, x0_3, x0_4, x0_5, x0_6, x0_7, x0_8, x0_9) => { env := [(0, .one (.str x0_0)), (1, .one (.ptr 5767552 0)), (3, .one (.ptr 5767680 0)), (4, .one (.ptr 5767616 0)), (20, .one (.ref 100020 [])), (21, .one (.int .i64 x0_2)), (22, .one (.int .i64 x0_3)), (90000, .frame), (90001, .sus (true, [.ptr 5767552 0, .ptr 5767360 0, .ptr 5767680 0, .ptr 5767616 0, .vo 5767872, .vo 3540416, .vo 5767936, .ptr 3539136 0, .ptr 3539072 0]) 0)], objs := [(100020, .row .e9 x0_1 false), (5767552, .box .mem [.vo 5767872]), (5767680, .box .mem [.vo 5767936]), (5767616, .box .mem [.ref 577761600 []]), (577761600, .row .e9 x0_4 false), (5767360, .box .mem [.vo 3540416]), (5767872, .map ⟨false, false, false, false⟩ .e9 .e3 x0_5 x0_6), (3540416, .box (.clo 89 0 [(false, 1), (false, 1)]) [.ptr 3539136 0, .ptr 3539072 0]), (5767936, .box (.clo 109 0 [(false, 1), (false, 1), (false, 1), (false, 1)]) [.ptr 5767552 0, .ptr 5767360 0, .ptr 5767680 0, .ptr 5767616 0]), (3539136, .box .mem [.row .e83 x0_7]), (3539072, .box .mem [.str x0_8, .row .e100 x0_9]), (77777777, .ghost)], base := 0 }
noncomputable def r109_0 (n : Nat) (rc : (ByteArray) → (List (C .e9)) → (List (Nat × C .e9 × C .e3)) → (Nat) → (List (C .e83)) → (ByteArray) → (List (C .e100)) → Option (List (C .e9) × List (Nat × C .e9 × C .e3) × Nat × List (C .e83) × ByteArray × List (C .e100) × Bool))  (rec0 : A109_0 → Option (List (C .e9) × List (Nat × C .e9 × C .e3) × Nat × List (C .e83) × ByteArray × List (C .e100) × Bool)) : A109_0 → Option (List (C .e9) × List (Nat × C .e9 × C .e3) × Nat × List (C .e83) × ByteArray × List (C .e100) × Bool) := fun (x0_0, x0_1, x0_2, x0_3, x0_4, x0_5, x0_6, x0_7, x0_8, x0_9) =>
      cond (decide (x0_3 < x0_2))
      (cond (decide (0 ≤ x0_3)) (cond (decide (x0_3 < (x0_1.length : Int))) (Option.bind x0_1[x0_3.toNat]? fun x2 => Option.bind (rc x2 x0_4 x0_5 x0_6 x0_7 x0_8 x0_9) fun r3 =>
      cond (!r3.2.2.2.2.2.2)
      (some (r3.1, r3.2.1, r3.2.2.1, r3.2.2.2.1, r3.2.2.2.2.1, r3.2.2.2.2.2.1, false))
      (rec0 (x0_0, x0_1, x0_2, IntKind.i64.wrap (x0_3 + 1), r3.1, r3.2.1, r3.2.2.1, r3.2.2.2.1, r3.2.2.2.2.1, r3.2.2.2.2.2.1))) none) none)
      (cond (decide ((x0_4.length + (([x0_0] : List (C .e9))).length) * 16 ≤ 140737488355328)) (some (x0_4 ++ (([x0_0] : List (C .e9))), mput KK .e9 .e3 x0_0 2 x0_6 x0_5, mclk KK .e9 .e3 x0_0 x0_6 x0_5, x0_7, x0_8, x0_9, true)) none)
noncomputable def LP109_0 (n : Nat) (rc : (ByteArray) → (List (C .e9)) → (List (Nat × C .e9 × C .e3)) → (Nat) → (List (C .e83)) → (ByteArray) → (List (C .e100)) → Option (List (C .e9) × List (Nat × C .e9 × C .e3) × Nat × List (C .e83) × ByteArray × List (C .e100) × Bool))  (x : A109_0) : Option (List (C .e9) × List (Nat × C .e9 × C .e3) × Nat × List (C .e83) × ByteArray × List (C .e100) × Bool) := lpN (r109_0 n rc ) n x
noncomputable def B109 (n : Nat) (rc : (ByteArray) → (List (C .e9)) → (List (Nat × C .e9 × C .e3)) → (Nat) → (List (C .e83)) → (ByteArray) → (List (C .e100)) → Option (List (C .e9) × List (Nat × C .e9 × C .e3) × Nat × List (C .e83) × ByteArray × List (C .e100) × Bool)) (a0 : ByteArray) (a1 : List (C .e9)) (a2 : List (Nat × C .e9 × C .e3)) (a3 : Nat) (a4 : List (C .e83)) (a5 : ByteArray) (a6 : List (C .e100)) : Option (List (C .e9) × List (Nat × C .e9 × C .e3) × Nat × List (C .e83) × ByteArray × List (C .e100) × Bool) :=
      cond ((mval KK .e9 .e3 a0 a2) == 1)
      (some (a1, a2, a3, a4, a5, a6, false))
      (cond ((mval KK .e9 .e3 a0 a2) == 2)
      (some (a1, a2, a3, a4, a5, a6, true))
      (Option.bind (G89 a0 a4 (⟨a5, a6⟩ : VGateShape)) fun r1 =>
      LP109_0 n rc  (a0, r1, (r1.length : Int), 0, a1, mput KK .e9 .e3 a0 1 a3 a2, mclk KK .e9 .e3 a0 a3 a2, a4, a5, a6)))
noncomputable def G109d (n : Nat) : Nat → (ByteArray) → (List (C .e9)) → (List (Nat × C .e9 × C .e3)) → (Nat) → (List (C .e83)) → (ByteArray) → (List (C .e100)) → Option (List (C .e9) × List (Nat × C .e9 × C .e3) × Nat × List (C .e83) × ByteArray × List (C .e100) × Bool)
  | 0 => fun _ _ _ _ _ _ _ => none
  | d + 1 => B109 n (G109d n d)
noncomputable def su109 (n d : Nat) : Sum C := { ids := [5767552, 5767360, 5767680, 5767616, 577761600, 5767872, 3540416, 5767936, 3539136, 3539072], roots := [.ptr 5767552 0, .ptr 5767360 0, .ptr 5767680 0, .ptr 5767616 0, .vo 5767872, .vo 3540416, .vo 5767936, .ptr 3539136 0, .ptr 3539072 0], rowIds := [577761600], R0 := List (C .e9) × List (Nat × C .e9 × C .e3) × Nat × List (C .e83) × ByteArray × List (C .e100) × Bool, out := fun r => [(5767552, .box .mem [.vo 5767872]), (5767360, .box .mem [.vo 3540416]), (5767680, .box .mem [.vo 5767936]), (5767616, .box .mem [.ref 577761600 []]), (577761600, .row .e9 r.1 false), (5767872, .map ⟨false, false, false, false⟩ .e9 .e3 r.2.1 r.2.2.1), (3540416, .box (.clo 89 0 [(false, 1), (false, 1)]) [.ptr 3539136 0, .ptr 3539072 0]), (5767936, .box (.clo 109 0 [(false, 1), (false, 1), (false, 1), (false, 1)]) [.ptr 5767552 0, .ptr 5767360 0, .ptr 5767680 0, .ptr 5767616 0]), (3539136, .box .mem [.row .e83 r.2.2.2.1]), (3539072, .box .mem [.str r.2.2.2.2.1, .row .e100 r.2.2.2.2.2.1])], ret := fun r => [(false, [.bool r.2.2.2.2.2.2])], g := fun vs O => match vs, O with
  | [.one (.str y0), .one (.ptr 5767552 0), .one (.ptr 5767360 0), .one (.ptr 5767680 0), .one (.ptr 5767616 0)], [(5767552, .box .mem [.vo 5767872]), (5767360, .box .mem [.vo 3540416]), (5767680, .box .mem [.vo 5767936]), (5767616, .box .mem [.ref 577761600 []]), (577761600, .row .e9 y1 false), (5767872, .map ⟨false, false, false, false⟩ .e9 .e3 y2 y3), (3540416, .box (.clo 89 0 [(false, 1), (false, 1)]) [.ptr 3539136 0, .ptr 3539072 0]), (5767936, .box (.clo 109 0 [(false, 1), (false, 1), (false, 1), (false, 1)]) [.ptr 5767552 0, .ptr 5767360 0, .ptr 5767680 0, .ptr 5767616 0]), (3539136, .box .mem [.row .e83 y4]), (3539072, .box .mem [.str y5, .row .e100 y6])] => G109d n d y0 y1 y2 y3 y4 y5 y6
  | _, _ => none }
noncomputable def X109 (n d : Nat) : Cx C := { K := KK, tk := lk tks, con := lkC [(89, con89)], conw := lkC [], inl := lkA [(109, sumInl (su109 n d))], hold := [0, 1, 3, 4, 20, 21, 22, 28, 29], mp := lk mps, meth := lkS meths, off := 7143424 }
noncomputable def MP109_0 (n d : Nat)  (x : A109_0) : Option (List (C .e9) × List (Nat × C .e9 × C .e3) × Nat × List (C .e83) × ByteArray × List (C .e100) × Bool) := iter (fun rec S => run (X109 n d) (F109 n) (codeAt (bodyOf Go.Proofs.Try.f109) [1, 1, 1, 0, 1, 0, 0]) 1 S (lopK rec (blkK 1 (seqK (run (X109 n d) (F109 n) (codeAt (bodyOf Go.Proofs.Try.f109) [1, 1, 1, 1]) 0) (kTopS (X109 n d) Go.Proofs.Try.f109 dec109))))) [0, 1, 3, 4, 20, 21, 22] n (s109_0 x)
theorem m109_0 (n d : Nat)  (x : A109_0) : MP109_0 n d  x = LP109_0 n (G109d n d)  x := by
  refine iter_eq s109_0 (r109_0 n (G109d n d) ) (fun rec0 x => ?_) n x
  obtain ⟨x0_0, x0_1, x0_2, x0_3, x0_4, x0_5, x0_6, x0_7, x0_8, x0_9⟩ := x
  kernel_rfl
theorem t109 (n d : Nat) (a0 : ByteArray) (a1 : List (C .e9)) (a2 : List (Nat × C .e9 × C .e3)) (a3 : Nat) (a4 : List (C .e83)) (a5 : ByteArray) (a6 : List (C .e100)) : runFnS (X109 n d) (F109 n) Go.Proofs.Try.f109 (su109 n (d + 1)) [.one (.str a0), .one (.ptr 5767552 0), .one (.ptr 5767360 0), .one (.ptr 5767680 0), .one (.ptr 5767616 0)] [(5767552, .box .mem [.vo 5767872]), (5767360, .box .mem [.vo 3540416]), (5767680, .box .mem [.vo 5767936]), (5767616, .box .mem [.ref 577761600 []]), (577761600, .row .e9 a1 false), (5767872, .map ⟨false, false, false, false⟩ .e9 .e3 a2 a3), (3540416, .box (.clo 89 0 [(false, 1), (false, 1)]) [.ptr 3539136 0, .ptr 3539072 0]), (5767936, .box (.clo 109 0 [(false, 1), (false, 1), (false, 1), (false, 1)]) [.ptr 5767552 0, .ptr 5767360 0, .ptr 5767680 0, .ptr 5767616 0]), (3539136, .box .mem [.row .e83 a4]), (3539072, .box .mem [.str a5, .row .e100 a6])] dec109 = B109 n (G109d n d) a0 a1 a2 a3 a4 a5 a6 := by
  have h : runFnS (X109 n d) (F109 n) Go.Proofs.Try.f109 (su109 n (d + 1)) [.one (.str a0), .one (.ptr 5767552 0), .one (.ptr 5767360 0), .one (.ptr 5767680 0), .one (.ptr 5767616 0)] [(5767552, .box .mem [.vo 5767872]), (5767360, .box .mem [.vo 3540416]), (5767680, .box .mem [.vo 5767936]), (5767616, .box .mem [.ref 577761600 []]), (577761600, .row .e9 a1 false), (5767872, .map ⟨false, false, false, false⟩ .e9 .e3 a2 a3), (3540416, .box (.clo 89 0 [(false, 1), (false, 1)]) [.ptr 3539136 0, .ptr 3539072 0]), (5767936, .box (.clo 109 0 [(false, 1), (false, 1), (false, 1), (false, 1)]) [.ptr 5767552 0, .ptr 5767360 0, .ptr 5767680 0, .ptr 5767616 0]), (3539136, .box .mem [.row .e83 a4]), (3539072, .box .mem [.str a5, .row .e100 a6])] dec109 =
      cond ((mval KK .e9 .e3 a0 a2) == 1)
      (some (a1, a2, a3, a4, a5, a6, false))
      (cond ((mval KK .e9 .e3 a0 a2) == 2)
      (some (a1, a2, a3, a4, a5, a6, true))
      (Option.bind (G89 a0 a4 (⟨a5, a6⟩ : VGateShape)) fun r1 =>
      MP109_0 n d  (a0, r1, (r1.length : Int), 0, a1, mput KK .e9 .e3 a0 1 a3 a2, mclk KK .e9 .e3 a0 a3 a2, a4, a5, a6))) := by kernel_rfl
  simp only [h, B109, m109_0]
noncomputable def I109 (n : Nat) : Inl C := sumInl (su109 n n)
theorem i109d (n : Nat) : ∀ d : Nat, InlOk Go.Proofs.Try.prog KK 109 (sumInl (su109 n d))
  | 0 => sum_none (fn := Go.Proofs.Try.f109) (by kernel_rfl) (by kernel_rfl) (nameB (by kernel_rfl)) _ (fun vs O => by simp only [su109]; split <;> rfl)
  | d + 1 => by
    have ih := i109d n d
    have x : XOk Go.Proofs.Try.prog (X109 n d) := ⟨tks_ok, els_ok, mps_ok, meths_ok⟩
    have q : Cons Go.Proofs.Try.prog (X109 n d) := ⟨lkR_ok (l := [(89, con89)]) ⟨c89, trivial⟩, lkW_ok (l := []) trivial, lkI_ok (l := [(109, sumInl (su109 n d))]) ⟨ih, trivial⟩⟩
    refine sum_of x q (by kernel_rfl) (f := 109) (fn := Go.Proofs.Try.f109) (c := bodyOf Go.Proofs.Try.f109) (by kernel_rfl) (by kernel_rfl) (by kernel_rfl) (nameB (by kernel_rfl)) (su109 n (d + 1)) (Nat.le_of_ble_eq_true (by kernel_rfl)) dec109 (fun os ls rs r0 h => ?_) (fun vs O r0 hk h => ?_)
    · unfold dec109 at h
      split at h
      · cases h; exact ⟨rfl, rfl, rfl⟩
      · cases h
    · simp only [su109] at h
      split at h
      · rename_i y0 y1 y2 y3 y4 y5 y6
        exact ⟨fit_of (by kernel_rfl) (by kernel_rfl) (by kernel_rfl) (by kernel_rfl) (by kernel_rfl) (by kernel_rfl) (by kernel_rfl) (by kernel_rfl) (by kernel_rfl), Nat.le_of_ble_eq_true (by kernel_rfl), F109 n, (t109 n d y0 y1 y2 y3 y4 y5 y6).trans h⟩
      · cases h
theorem i109 (n : Nat) : InlOk Go.Proofs.Try.prog KK 109 (I109 n) := i109d n n
/-! ### f88 loop.example/wharfdesk/impl.row[string], run in place -/
noncomputable def X88 (n : Nat) : Cx C := { K := KK, tk := lk tks, con := lkC [(89, con89)], conw := lkC [], inl := lkA [(109, I109 n)], hold := [7, 8, 13, 14, 15, 21, 22], mp := lk mps, meth := lkS meths, off := 5767168 }
def F88 (n : Nat) : Cf := { N := n, keep := [0, 1, 3, 4, 5, 6, 7, 8, 10, 13, 14, 15, 16, 22], live := lk [(0, [7, 8, 13, 14, 15])] }
noncomputable def I88 (n : Nat) : Inl C := inlOf (X88 n) (F88 n) Go.Proofs.Try.f88
theorem x88 (n : Nat) : XOk Go.Proofs.Try.prog (X88 n) := ⟨tks_ok, els_ok, mps_ok, meths_ok⟩
theorem q88 (n : Nat) : Cons Go.Proofs.Try.prog (X88 n) := ⟨lkR_ok (l := [(89, con89)]) ⟨c89, trivial⟩, lkW_ok (l := []) trivial, lkI_ok (l := [(109, I109 n)]) ⟨i109 n, trivial⟩⟩
theorem i88 (n : Nat) : InlOk Go.Proofs.Try.prog KK 88 (I88 n) := inl_of (x88 n) (q88 n) (by kernel_rfl) (F88 n) (f := 88) (fn := Go.Proofs.Try.f88) (c := bodyOf Go.Proofs.Try.f88) (by kernel_rfl) (by kernel_rfl) (by kernel_rfl) (nameB (by kernel_rfl))
/-! ### f54 loop.example/wharfdesk/impl.rowOf -/
noncomputable def X54 (n : Nat) : Cx C := { K := KK, tk := lk tks, con := lkC [(89, con89)], conw := lkC [], inl := lkA [(88, I88 n)], hold := [4, 5, 24, 25, 26], mp := lk mps, meth := lkS meths, off := 3538944 }
def F54 (n : Nat) : Cf := { N := n, keep := [0, 1, 2, 3, 4, 5, 6, 8, 10, 11, 12, 13], live := lk [(0, [2, 3, 6, 10, 11, 12])] }
def dec54 (rs : List (Bool × List (Lf C))) : Option (List (C .e9) × Bool) := match rs with
  | [(false, [.row .e9 z0]), (false, [.bool z1])] => some (z0, z1)
  | _ => none
abbrev A54_1 : Type := List (C .e9) × Int × Int × List (C .e9) × List (Nat × C .e9 × C .e3) × Nat × List (C .e83) × ByteArray × List (C .e100)
def s54_1 : A54_1 → St C := fun (x1_0, x1_1, x1_2, x1_3, x1_4, x1_5, x1_6, x1_7, x1_8) => { env := [(7, .one (.ptr 5767616 0)), (8, .one (.ptr 5767680 0)), (13, .one (.ref 100013 [])), (14, .one (.int .i64 x1_1)), (15, .one (.int .i64 x1_2))], objs := [(100013, .row .e9 x1_0 false), (5767616, .box .mem [.ref 577761600 []]), (577761600, .row .e9 x1_3 false), (5767680, .box .mem [.vo 5767936]), (5767936, .box (.clo 109 0 [(false, 1), (false, 1), (false, 1), (false, 1)]) [.ptr 5767552 0, .ptr 5767360 0, .ptr 5767680 0, .ptr 5767616 0]), (5767552, .box .mem [.vo 5767872]), (5767360, .box .mem [.vo 3540416]), (5767872, .map ⟨false, false, false, false⟩ .e9 .e3 x1_4 x1_5), (3540416, .box (.clo 89 0 [(false, 1), (false, 1)]) [.ptr 3539136 0, .ptr 3539072 0]), (3539136, .box .mem [.row .e83 x1_6]), (3539072, .box .mem [.str x1_7, .row .e100 x1_8])], base := 1000 }
abbrev A54_0 : Type := List (C .e9) × List (C .e100) × Int × Int × ByteArray × List (C .e100) × List (C .e83)
def s54_0 : A54_0 → St C := fun (x0_0, x0_1, x0_2, x0_3, x0_4, x0_5, x0_6) => { env := [(2, .one (.ptr 3539072 0)), (3, .one (.ptr 3539136 0)), (6, .one (.ref 100006 [])), (10, .one (.row .e100 x0_1)), (11, .one (.int .i64 x0_2)), (12, .one (.int .i64 x0_3))], objs := [(100006, .row .e9 x0_0 false), (3539072, .box .mem [.str x0_4, .row .e100 x0_5]), (3539136, .box .mem [.row .e83 x0_6])], base := 0 }
noncomputable def r54_1 (n : Nat)  (rec1 : A54_1 → Option (List (C .e9) × Bool)) : A54_1 → Option (List (C .e9) × Bool) := fun (x1_0, x1_1, x1_2, x1_3, x1_4, x1_5, x1_6, x1_7, x1_8) =>
      cond (decide (x1_2 < x1_1))
      (cond (decide (0 ≤ x1_2)) (cond (decide (x1_2 < (x1_0.length : Int))) (Option.bind x1_0[x1_2.toNat]? fun x2 => Option.bind ((G109d n n) x2 x1_3 x1_4 x1_5 x1_6 x1_7 x1_8) fun r3 =>
      cond (!r3.2.2.2.2.2.2)
      (some (([] : List (C .e9)), false))
      (rec1 (x1_0, x1_1, IntKind.i64.wrap (x1_2 + 1), r3.1, r3.2.1, r3.2.2.1, r3.2.2.2.1, r3.2.2.2.2.1, r3.2.2.2.2.2.1))) none) none)
      (some (x1_3, true))
noncomputable def LP54_1 (n : Nat)  (x : A54_1) : Option (List (C .e9) × Bool) := lpN (r54_1 n ) n x
noncomputable def MP54_1 (n : Nat)  (x : A54_1) : Option (List (C .e9) × Bool) := iter (fun rec S => run (X88 n) (F88 n) (codeAt (bodyOf Go.Proofs.Try.f88) [1, 1, 1, 1, 1, 0, 1, 0, 0]) 0 S (lopK rec (blkK 0 (seqK (run (X88 n) (F88 n) (codeAt (bodyOf Go.Proofs.Try.f88) [1, 1, 1, 1, 1, 1]) 0) (inlK (X88 n) Go.Proofs.Try.f88 (callK 0 (some 24) (restK (X54 n) (codeAt (bodyOf Go.Proofs.Try.f54) [1, 1, 1, 0]) 3 (regK (F54 n) (seqK (run (X54 n) (F54 n) (codeAt (bodyOf Go.Proofs.Try.f54) [1, 1, 1, 1]) 0) (kTop (X54 n) Go.Proofs.Try.f54 dec54)))))))))) [7, 8, 13, 14, 15] n (s54_1 x)
theorem m54_1 (n : Nat)  (x : A54_1) : MP54_1 n  x = LP54_1 n  x := by
  refine iter_eq s54_1 (r54_1 n ) (fun rec1 x => ?_) n x
  obtain ⟨x1_0, x1_1, x1_2, x1_3, x1_4, x1_5, x1_6, x1_7, x1_8⟩ := x
  kernel_rfl
noncomputable def r54_0 (n : Nat)  (rec0 : A54_0 → Option (List (C .e9) × Bool)) : A54_0 → Option (List (C .e9) × Bool) := fun (x0_0, x0_1, x0_2, x0_3, x0_4, x0_5, x0_6) =>
      cond (decide (x0_3 < x0_2))
      (cond (decide (0 ≤ x0_3)) (Option.bind x0_1[x0_3.toNat]? fun x1 => cond (decide ((x0_0.length + (([x1.Name] : List (C .e9))).length) * 16 ≤ 140737488355328)) (rec0 (x0_0 ++ (([x1.Name] : List (C .e9))), x0_1, x0_2, IntKind.i64.wrap (x0_3 + 1), x0_4, x0_5, x0_6)) none) none)
      (LP54_1 n  (x0_0, (x0_0.length : Int), 0, ([] : List (C .e9)), ([] : List (Nat × C .e9 × C .e3)), 0, x0_6, x0_4, x0_5))
noncomputable def LP54_0 (n : Nat)  (x : A54_0) : Option (List (C .e9) × Bool) := lpN (r54_0 n ) n x
noncomputable def MP54_0 (n : Nat)  (x : A54_0) : Option (List (C .e9) × Bool) := iter (fun rec S => run (X54 n) (F54 n) (codeAt (bodyOf Go.Proofs.Try.f54) [1, 1, 0, 1, 0, 0]) 0 S (lopK rec (blkK 0 (seqK (run (X54 n) (F54 n) (codeAt (bodyOf Go.Proofs.Try.f54) [1, 1, 1]) 0) (kTop (X54 n) Go.Proofs.Try.f54 dec54))))) [2, 3, 6, 10, 11, 12] n (s54_0 x)
theorem m54_0 (n : Nat)  (x : A54_0) : MP54_0 n  x = LP54_0 n  x := by
  refine iter_eq s54_0 (r54_0 n ) (fun rec0 x => ?_) n x
  obtain ⟨x0_0, x0_1, x0_2, x0_3, x0_4, x0_5, x0_6⟩ := x
  have h : run (X54 n) (F54 n) (codeAt (bodyOf Go.Proofs.Try.f54) [1, 1, 0, 1, 0, 0]) 0 (s54_0 (x0_0, x0_1, x0_2, x0_3, x0_4, x0_5, x0_6)) (lopK (canThen [2, 3, 6, 10, 11, 12] rec0) (blkK 0 (seqK (run (X54 n) (F54 n) (codeAt (bodyOf Go.Proofs.Try.f54) [1, 1, 1]) 0) (kTop (X54 n) Go.Proofs.Try.f54 dec54)))) =
      cond (decide (x0_3 < x0_2))
      (cond (decide (0 ≤ x0_3)) (Option.bind x0_1[x0_3.toNat]? fun x1 => cond (decide ((x0_0.length + (([x1.Name] : List (C .e9))).length) * 16 ≤ 140737488355328)) ((fun x => rec0 (s54_0 x)) (x0_0 ++ (([x1.Name] : List (C .e9))), x0_1, x0_2, IntKind.i64.wrap (x0_3 + 1), x0_4, x0_5, x0_6)) none) none)
      (MP54_1 n  (x0_0, (x0_0.length : Int), 0, ([] : List (C .e9)), ([] : List (Nat × C .e9 × C .e3)), 0, x0_6, x0_4, x0_5)) := by kernel_rfl
  simp only [m54_1] at h
  exact h
noncomputable def G54n (n : Nat) (a0 : VGateShape) (a1 : List (C .e83)) : Option (List (C .e9) × Bool) :=
      LP54_0 n  (([] : List (C .e9)), a0.Fields, (a0.Fields.length : Int), 0, a0.Kind, a0.Fields, a1)
theorem t54 (n : Nat) (a0 : VGateShape) (a1 : List (C .e83)) : runFn (X54 n) (F54 n) Go.Proofs.Try.f54 [.agg [.str a0.Kind, .row .e100 a0.Fields], .one (.row .e83 a1)] dec54 = G54n n a0 a1 := by
  have h : runFn (X54 n) (F54 n) Go.Proofs.Try.f54 [.agg [.str a0.Kind, .row .e100 a0.Fields], .one (.row .e83 a1)] dec54 =
      MP54_0 n  (([] : List (C .e9)), a0.Fields, (a0.Fields.length : Int), 0, a0.Kind, a0.Fields, a1) := by kernel_rfl
  simp only [h, G54n, m54_0]
noncomputable def G54 (a0 : VGateShape) (a1 : List (C .e83)) : Option (List (C .e9) × Bool) := G54n fuel a0 a1
noncomputable def con54 : Con C := { R0 := List (C .e9) × Bool, ret := fun r => [(false, [.row .e9 r.1]), (false, [.bool r.2])], g := fun vs => match vs with
  | [.agg [.str y0_0, .row .e100 y0_1], .one (.row .e83 y1)] => G54 ⟨y0_0, y0_1⟩ y1
  | _ => none }
theorem x54 (n : Nat) : XOk Go.Proofs.Try.prog (X54 n) := ⟨tks_ok, els_ok, mps_ok, meths_ok⟩
theorem q54 (n : Nat) : Cons Go.Proofs.Try.prog (X54 n) := ⟨lkR_ok (l := [(89, con89)]) ⟨c89, trivial⟩, lkW_ok (l := []) trivial, lkI_ok (l := [(88, I88 n)]) ⟨i88 n, trivial⟩⟩
theorem c54 : ConOk Go.Proofs.Try.prog KK 54 con54 := by
  refine con_dec (x54 fuel) (q54 fuel) (by kernel_rfl) (f := 54) (fn := Go.Proofs.Try.f54) (c := bodyOf Go.Proofs.Try.f54) (by kernel_rfl) (by kernel_rfl) (by kernel_rfl) (nameB (by kernel_rfl)) con54 dec54 (fun rs r0 h => ?_) (fun vs r0 h => ?_)
  · unfold dec54 at h
    split at h
    · cases h; rfl
    · cases h
  · simp only [con54] at h
    split at h
    · rename_i y0_0 y0_1 y1
      exact ⟨Nat.le_of_ble_eq_true (by kernel_rfl), F54 fuel, (t54 fuel ⟨y0_0, y0_1⟩ y1).trans h⟩
    · cases h
/-! ### f31 loop.example/wharfdesk/impl.GateMendsOk -/
noncomputable def X31 : Cx C := { K := KK, tk := lk tks, con := lkC [(54, con54), (55, con55), (67, con67), (68, con68)], conw := lkC [], inl := lkA [], hold := [], mp := lk mps, meth := lkS meths, off := 2031616 }
def F31 (n : Nat) : Cf := { N := n, keep := [0, 1, 4, 6, 7, 9, 11, 19, 20, 21, 22, 23, 41, 43, 44, 45, 46, 56], live := lk [(0, [0, 1, 20, 21, 22]), (2, [1, 43, 44, 45])] }
def dec31 (rs : List (Bool × List (Lf C))) : Option (Bool) := match rs with
  | [(false, [.bool z0])] => some z0
  | _ => none
abbrev A31_1 : Type := List (C .e83) × List (C .e81) × Int × Int
def s31_1 : A31_1 → St C := fun (x1_0, x1_1, x1_2, x1_3) => { env := [(1, .one (.row .e83 x1_0)), (43, .one (.row .e81 x1_1)), (44, .one (.int .i64 x1_2)), (45, .one (.int .i64 x1_3))], objs := [], base := 0 }
abbrev A31_0 : Type := List (C .e81) × List (C .e83) × List (C .e83) × Int × Int
def s31_0 : A31_0 → St C := fun (x0_0, x0_1, x0_2, x0_3, x0_4) => { env := [(0, .one (.row .e81 x0_0)), (1, .one (.row .e83 x0_1)), (20, .one (.row .e83 x0_2)), (21, .one (.int .i64 x0_3)), (22, .one (.int .i64 x0_4))], objs := [], base := 0 }
noncomputable def r31_1 (n : Nat)  (rec1 : A31_1 → Option (Bool)) : A31_1 → Option (Bool) := fun (x1_0, x1_1, x1_2, x1_3) =>
      cond (decide (x1_3 < x1_2))
      (cond (decide (0 ≤ x1_3)) (Option.bind x1_1[x1_3.toNat]? fun x6 => Option.bind (G54 x6 x1_0) fun r7 =>
      cond (!r7.2)
      (some (false))
      (rec1 (x1_0, x1_1, x1_2, IntKind.i64.wrap (x1_3 + 1)))) none)
      (some (true))
noncomputable def LP31_1 (n : Nat)  (x : A31_1) : Option (Bool) := lpN (r31_1 n ) n x
noncomputable def MP31_1 (n : Nat)  (x : A31_1) : Option (Bool) := iter (fun rec S => run X31 (F31 n) (codeAt (bodyOf Go.Proofs.Try.f31) [1, 1, 1, 0, 1, 0, 0]) 2 S (lopK rec (blkK 2 (seqK (run X31 (F31 n) (codeAt (bodyOf Go.Proofs.Try.f31) [1, 1, 1, 1]) 0) (kTop X31 Go.Proofs.Try.f31 dec31))))) [1, 43, 44, 45] n (s31_1 x)
theorem m31_1 (n : Nat)  (x : A31_1) : MP31_1 n  x = LP31_1 n  x := by
  refine iter_eq s31_1 (r31_1 n ) (fun rec1 x => ?_) n x
  obtain ⟨x1_0, x1_1, x1_2, x1_3⟩ := x
  kernel_rfl
noncomputable def r31_0 (n : Nat)  (rec0 : A31_0 → Option (Bool)) : A31_0 → Option (Bool) := fun (x0_0, x0_1, x0_2, x0_3, x0_4) =>
      cond (decide (x0_4 < x0_3))
      (cond (decide (0 ≤ x0_4)) (Option.bind x0_2[x0_4.toNat]? fun x2 => Option.bind (G55 x0_0 x2.Kind) fun r3 =>
      cond (decide (r3 < 0))
      (some (false))
      (cond (decide (0 ≤ r3)) (Option.bind x0_0[r3.toNat]? fun x4 => Option.bind (G68 x4.Fields x2) fun r5 =>
      cond (!r5)
      (some (false))
      (rec0 (x0_0, x0_1, x0_2, x0_3, IntKind.i64.wrap (x0_4 + 1)))) none)) none)
      (LP31_1 n  (x0_1, x0_0, (x0_0.length : Int), 0))
noncomputable def LP31_0 (n : Nat)  (x : A31_0) : Option (Bool) := lpN (r31_0 n ) n x
noncomputable def MP31_0 (n : Nat)  (x : A31_0) : Option (Bool) := iter (fun rec S => run X31 (F31 n) (codeAt (bodyOf Go.Proofs.Try.f31) [1, 1, 0, 1, 0, 0]) 0 S (lopK rec (blkK 0 (seqK (run X31 (F31 n) (codeAt (bodyOf Go.Proofs.Try.f31) [1, 1, 1]) 0) (kTop X31 Go.Proofs.Try.f31 dec31))))) [0, 1, 20, 21, 22] n (s31_0 x)
theorem m31_0 (n : Nat)  (x : A31_0) : MP31_0 n  x = LP31_0 n  x := by
  refine iter_eq s31_0 (r31_0 n ) (fun rec0 x => ?_) n x
  obtain ⟨x0_0, x0_1, x0_2, x0_3, x0_4⟩ := x
  have h : run X31 (F31 n) (codeAt (bodyOf Go.Proofs.Try.f31) [1, 1, 0, 1, 0, 0]) 0 (s31_0 (x0_0, x0_1, x0_2, x0_3, x0_4)) (lopK (canThen [0, 1, 20, 21, 22] rec0) (blkK 0 (seqK (run X31 (F31 n) (codeAt (bodyOf Go.Proofs.Try.f31) [1, 1, 1]) 0) (kTop X31 Go.Proofs.Try.f31 dec31)))) =
      cond (decide (x0_4 < x0_3))
      (cond (decide (0 ≤ x0_4)) (Option.bind x0_2[x0_4.toNat]? fun x2 => Option.bind (G55 x0_0 x2.Kind) fun r3 =>
      cond (decide (r3 < 0))
      (some (false))
      (cond (decide (0 ≤ r3)) (Option.bind x0_0[r3.toNat]? fun x4 => Option.bind (G68 x4.Fields x2) fun r5 =>
      cond (!r5)
      (some (false))
      ((fun x => rec0 (s31_0 x)) (x0_0, x0_1, x0_2, x0_3, IntKind.i64.wrap (x0_4 + 1)))) none)) none)
      (MP31_1 n  (x0_1, x0_0, (x0_0.length : Int), 0)) := by kernel_rfl
  simp only [m31_1] at h
  exact h
noncomputable def G31n (n : Nat) (a0 : List (C .e81)) (a1 : List (C .e83)) : Option (Bool) :=
      Option.bind (G67 a0) fun r1 =>
      cond (!r1)
      (some (false))
      (cond (decide ((a1.length : Int) > 12))
      (some (false))
      (LP31_0 n  (a0, a1, a1, (a1.length : Int), 0)))
theorem t31 (n : Nat) (a0 : List (C .e81)) (a1 : List (C .e83)) : runFn X31 (F31 n) Go.Proofs.Try.f31 [.one (.row .e81 a0), .one (.row .e83 a1)] dec31 = G31n n a0 a1 := by
  have h : runFn X31 (F31 n) Go.Proofs.Try.f31 [.one (.row .e81 a0), .one (.row .e83 a1)] dec31 =
      Option.bind (G67 a0) fun r1 =>
      cond (!r1)
      (some (false))
      (cond (decide ((a1.length : Int) > 12))
      (some (false))
      (MP31_0 n  (a0, a1, a1, (a1.length : Int), 0))) := by kernel_rfl
  simp only [h, G31n, m31_0]
noncomputable def G31 (a0 : List (C .e81)) (a1 : List (C .e83)) : Option (Bool) := G31n fuel a0 a1
noncomputable def con31 : Con C := { R0 := Bool, ret := fun r => [(false, [.bool r])], g := fun vs => match vs with
  | [.one (.row .e81 y0), .one (.row .e83 y1)] => G31 y0 y1
  | _ => none }
theorem x31 : XOk Go.Proofs.Try.prog X31 := ⟨tks_ok, els_ok, mps_ok, meths_ok⟩
theorem q31 : Cons Go.Proofs.Try.prog X31 := ⟨lkR_ok (l := [(54, con54), (55, con55), (67, con67), (68, con68)]) ⟨c54, c55, c67, c68, trivial⟩, lkW_ok (l := []) trivial, lkI_ok (l := []) trivial⟩
theorem c31 : ConOk Go.Proofs.Try.prog KK 31 con31 := by
  refine con_dec x31 q31 (by kernel_rfl) (f := 31) (fn := Go.Proofs.Try.f31) (c := bodyOf Go.Proofs.Try.f31) (by kernel_rfl) (by kernel_rfl) (by kernel_rfl) (nameB (by kernel_rfl)) con31 dec31 (fun rs r0 h => ?_) (fun vs r0 h => ?_)
  · unfold dec31 at h
    split at h
    · cases h; rfl
    · cases h
  · simp only [con31] at h
    split at h
    · rename_i y0 y1
      exact ⟨Nat.le_of_ble_eq_true (by kernel_rfl), F31 fuel, (t31 fuel y0 y1).trans h⟩
    · cases h
/-! ### f87 loop.example/wharfdesk/impl.copyTexts -/
noncomputable def X87 : Cx C := { K := KK, tk := lk tks, con := lkC [], conw := lkC [], inl := lkA [], hold := [], mp := lk mps, meth := lkS meths, off := 5701632 }
def F87 (n : Nat) : Cf := { N := n, keep := [0, 2, 3, 6], live := lk [] }
def dec87 (rs : List (Bool × List (Lf C))) : Option (List (C .e9)) := match rs with
  | [(false, [.row .e9 z0])] => some z0
  | _ => none
noncomputable def G87n (n : Nat) (a0 : List (C .e9)) : Option (List (C .e9)) :=
      cond ((a0.length : Int) == 0)
      (some (([] : List (C .e9))))
      (cond (decide ((a0.length : Int) = (a0.length : Int))) (cond (decide (0 ≤ (a0.length : Int))) (cond (decide ((a0.length : Int) * 16 ≤ 140737488355328)) (some (a0.take (List.replicate (a0.length : Int).toNat (⟨#[]⟩ : C .e9)).length ++ (List.replicate (a0.length : Int).toNat (⟨#[]⟩ : C .e9)).drop a0.length)) none) none) none)
theorem t87 (n : Nat) (a0 : List (C .e9)) : runFn X87 (F87 n) Go.Proofs.Try.f87 [.one (.row .e9 a0)] dec87 = G87n n a0 := by
  kernel_rfl
noncomputable def G87 (a0 : List (C .e9)) : Option (List (C .e9)) := G87n fuel a0
noncomputable def con87 : Con C := { R0 := List (C .e9), ret := fun r => [(false, [.row .e9 r])], g := fun vs => match vs with
  | [.one (.row .e9 y0)] => G87 y0
  | _ => none }
theorem x87 : XOk Go.Proofs.Try.prog X87 := ⟨tks_ok, els_ok, mps_ok, meths_ok⟩
theorem q87 : Cons Go.Proofs.Try.prog X87 := ⟨lkR_ok (l := []) trivial, lkW_ok (l := []) trivial, lkI_ok (l := []) trivial⟩
theorem c87 : ConOk Go.Proofs.Try.prog KK 87 con87 := by
  refine con_dec x87 q87 (by kernel_rfl) (f := 87) (fn := Go.Proofs.Try.f87) (c := bodyOf Go.Proofs.Try.f87) (by kernel_rfl) (by kernel_rfl) (by kernel_rfl) (nameB (by kernel_rfl)) con87 dec87 (fun rs r0 h => ?_) (fun vs r0 h => ?_)
  · unfold dec87 at h
    split at h
    · cases h; rfl
    · cases h
  · simp only [con87] at h
    split at h
    · rename_i y0
      exact ⟨Nat.le_of_ble_eq_true (by kernel_rfl), F87 fuel, (t87 fuel y0).trans h⟩
    · cases h
/-! ### f56 loop.example/wharfdesk/impl.GateMended$1 -/
noncomputable def X56 : Cx C := { K := KK, tk := lk tks, con := lkC [(57, con57)], conw := lkC [], inl := lkA [], hold := [], mp := lk mps, meth := lkS meths, off := 3670016 }
def F56 (n : Nat) : Cf := { N := n, keep := [0, 1, 2, 4], live := lk [] }
def dec56 (rs : List (Bool × List (Lf C))) : Option (ByteArray) := match rs with
  | [(false, [.str z0])] => some z0
  | _ => none
noncomputable def G56n (n : Nat) (a0 : ByteArray) (a1 : C .e43) (a2 : C .e60) : Option (ByteArray) :=
      Option.bind (G57 a2 a0) fun r1 =>
      cond (decide (0 ≤ r1)) (Option.bind a1.Values[r1.toNat]? fun x2 => some (x2)) none
theorem t56 (n : Nat) (a0 : ByteArray) (a1 : C .e43) (a2 : C .e60) : runFn X56 (F56 n) Go.Proofs.Try.f56 [.one (.str a0), .one (.elt .e43 a1 0), .one (.elt .e60 a2 0)] dec56 = G56n n a0 a1 a2 := by
  kernel_rfl
noncomputable def G56 (a0 : ByteArray) (a1 : C .e43) (a2 : C .e60) : Option (ByteArray) := G56n fuel a0 a1 a2
noncomputable def con56 : Con C := { R0 := ByteArray, pt := [none, some .e43, some .e60], ret := fun r => [(false, [.str r])], g := fun vs => match vs with
  | [.one (.str y0), .one (.elt .e43 y1 0), .one (.elt .e60 y2 0)] => G56 y0 y1 y2
  | _ => none }
theorem x56 : XOk Go.Proofs.Try.prog X56 := ⟨tks_ok, els_ok, mps_ok, meths_ok⟩
theorem q56 : Cons Go.Proofs.Try.prog X56 := ⟨lkR_ok (l := [(57, con57)]) ⟨c57, trivial⟩, lkW_ok (l := []) trivial, lkI_ok (l := []) trivial⟩
theorem c56 : ConOk Go.Proofs.Try.prog KK 56 con56 := by
  refine con_dec x56 q56 (by kernel_rfl) (f := 56) (fn := Go.Proofs.Try.f56) (c := bodyOf Go.Proofs.Try.f56) (by kernel_rfl) (by kernel_rfl) (by kernel_rfl) (nameB (by kernel_rfl)) con56 dec56 (fun rs r0 h => ?_) (fun vs r0 h => ?_)
  · unfold dec56 at h
    split at h
    · cases h; rfl
    · cases h
  · simp only [con56] at h
    split at h
    · rename_i y0 y1 y2
      exact ⟨Nat.le_of_ble_eq_true (by kernel_rfl), F56 fuel, (t56 fuel y0 y1 y2).trans h⟩
    · cases h
/-! ### f52 (loop.example/wharfdesk/impl.GateObject).twin -/
noncomputable def X52 : Cx C := { K := KK, tk := lk tks, con := lkC [(87, con87)], conw := lkC [], inl := lkA [], hold := [], mp := lk mps, meth := lkS meths, off := 3407872 }
def F52 (n : Nat) : Cf := { N := n, keep := [0, 1, 2], live := lk [] }
def dec52 (rs : List (Bool × List (Lf C))) : Option (VGateObject) := match rs with
  | [(true, [.str z0, .str z1, .str z2, .row .e9 z3, .bool z4, .row .e9 z5, .int .i64 z6])] => some ⟨z0, z1, z2, z3, z4, z5, z6⟩
  | _ => none
noncomputable def G52n (n : Nat) (a0 : VGateObject) : Option (VGateObject) :=
      Option.bind (G87 a0.Values) fun r1 =>
      Option.bind (G87 a0.Holds) fun r2 =>
      some ((⟨a0.Kind, a0.Name, a0.Team, r1, a0.Ending, r2, a0.Version⟩ : VGateObject))
theorem t52 (n : Nat) (a0 : VGateObject) : runFn X52 (F52 n) Go.Proofs.Try.f52 [.agg [.str a0.Kind, .str a0.Name, .str a0.Team, .row .e9 a0.Values, .bool a0.Ending, .row .e9 a0.Holds, .int .i64 a0.Version]] dec52 = G52n n a0 := by
  kernel_rfl
noncomputable def G52 (a0 : VGateObject) : Option (VGateObject) := G52n fuel a0
noncomputable def con52 : Con C := { R0 := VGateObject, ret := fun r => [(true, [.str r.Kind, .str r.Name, .str r.Team, .row .e9 r.Values, .bool r.Ending, .row .e9 r.Holds, .int .i64 r.Version])], g := fun vs => match vs with
  | [.agg [.str y0_0, .str y0_1, .str y0_2, .row .e9 y0_3, .bool y0_4, .row .e9 y0_5, .int .i64 y0_6]] => G52 ⟨y0_0, y0_1, y0_2, y0_3, y0_4, y0_5, y0_6⟩
  | _ => none }
theorem x52 : XOk Go.Proofs.Try.prog X52 := ⟨tks_ok, els_ok, mps_ok, meths_ok⟩
theorem q52 : Cons Go.Proofs.Try.prog X52 := ⟨lkR_ok (l := [(87, con87)]) ⟨c87, trivial⟩, lkW_ok (l := []) trivial, lkI_ok (l := []) trivial⟩
theorem c52 : ConOk Go.Proofs.Try.prog KK 52 con52 := by
  refine con_dec x52 q52 (by kernel_rfl) (f := 52) (fn := Go.Proofs.Try.f52) (c := bodyOf Go.Proofs.Try.f52) (by kernel_rfl) (by kernel_rfl) (by kernel_rfl) (nameB (by kernel_rfl)) con52 dec52 (fun rs r0 h => ?_) (fun vs r0 h => ?_)
  · unfold dec52 at h
    split at h
    · cases h; rfl
    · cases h
  · simp only [con52] at h
    split at h
    · rename_i y0_0 y0_1 y0_2 y0_3 y0_4 y0_5 y0_6
      exact ⟨Nat.le_of_ble_eq_true (by kernel_rfl), F52 fuel, (t52 fuel ⟨y0_0, y0_1, y0_2, y0_3, y0_4, y0_5, y0_6⟩).trans h⟩
    · cases h
/-! ### f53 loop.example/wharfdesk/impl.fieldsOf, run in place -/
noncomputable def X53 : Cx C := { K := KK, tk := lk tks, con := lkC [(55, con55)], conw := lkC [], inl := lkA [], hold := [], mp := lk mps, meth := lkS meths, off := 3473408 }
def F53 (n : Nat) : Cf := { N := n, keep := [0, 1, 3, 4, 5, 6, 24], live := lk [] }
noncomputable def I53 (n : Nat) : Inl C := inlOf X53 (F53 n) Go.Proofs.Try.f53
theorem x53 : XOk Go.Proofs.Try.prog X53 := ⟨tks_ok, els_ok, mps_ok, meths_ok⟩
theorem q53 : Cons Go.Proofs.Try.prog X53 := ⟨lkR_ok (l := [(55, con55)]) ⟨c55, trivial⟩, lkW_ok (l := []) trivial, lkI_ok (l := []) trivial⟩
theorem i53 (n : Nat) : InlOk Go.Proofs.Try.prog KK 53 (I53 n) := inl_of x53 q53 (by kernel_rfl) (F53 n) (f := 53) (fn := Go.Proofs.Try.f53) (c := bodyOf Go.Proofs.Try.f53) (by kernel_rfl) (by kernel_rfl) (by kernel_rfl) (nameB (by kernel_rfl))
/-! ### f19 loop.example/wharfdesk/impl.GateMended -/
noncomputable def X19 (n : Nat) : Cx C := { K := KK, tk := lk tks, con := lkC [(31, con31), (52, con52), (54, con54), (55, con55), (56, con56), (57, con57)], conw := lkC [], inl := lkA [(53, I53 n)], hold := [0, 1, 5, 6, 7, 8, 11, 13, 15, 16, 19, 22, 23, 24, 47, 48, 49, 53, 54, 55, 73, 77, 78, 79, 80, 81, 82, 83, 84, 85, 86, 87, 88, 89, 90, 91, 92, 93, 102], mp := lk mps, meth := lkS meths, off := 1245184 }
def F19 (n : Nat) : Cf := { N := n, keep := [0, 1, 2, 5, 6, 7, 8, 9, 11, 13, 15, 16, 32, 47, 48, 49, 50, 53, 54, 55, 56, 69, 93, 98], live := lk [(0, [1, 5, 6, 7, 11, 47, 48, 49]), (2, [1, 5, 6, 7, 11, 13, 47, 48, 49, 53, 54, 55])] }
def dec19 (rs : List (Bool × List (Lf C))) : Option (VGateObject) := match rs with
  | [(true, [.str z0, .str z1, .str z2, .row .e9 z3, .bool z4, .row .e9 z5, .int .i64 z6])] => some ⟨z0, z1, z2, z3, z4, z5, z6⟩
  | _ => none
abbrev A19_1 : Type := List (C .e83) × ByteArray × List (C .e9) × Int × Int × List (C .e83) × Int × Int × ByteArray × ByteArray × ByteArray × List (C .e9) × Bool × List (C .e9) × Int × ByteArray × ByteArray × ByteArray × List (C .e9) × Bool × List (C .e9) × Int × List (C .e100)
def s19_1 : A19_1 → St C := fun (x1_0, x1_1, x1_2, x1_3, x1_4, x1_5, x1_6, x1_7, x1_8, x1_9, x1_10, x1_11, x1_12, x1_13, x1_14, x1_15, x1_16, x1_17, x1_18, x1_19, x1_20, x1_21, x1_22) => { env := [(1, .one (.row .e83 x1_0)), (5, .one (.ptr 1245504 0)), (6, .one (.ptr 1245568 0)), (7, .one (.ptr 1245632 0)), (11, .one (.vo 1248128)), (13, .one (.str x1_1)), (47, .one (.ref 100047 [])), (48, .one (.int .i64 x1_3)), (49, .one (.int .i64 x1_4)), (53, .one (.row .e83 x1_5)), (54, .one (.int .i64 x1_6)), (55, .one (.int .i64 x1_7))], objs := [(100047, .row .e9 x1_2 false), (1245504, .box .mem [.str x1_8, .str x1_9, .str x1_10, .ref 125550403 [], .bool x1_12, .ref 125550405 [], .int .i64 x1_14]), (125550403, .row .e9 x1_11 false), (125550405, .row .e9 x1_13 false), (1245568, .box .mem [.str x1_15, .str x1_16, .str x1_17, .ref 125556803 [], .bool x1_19, .ref 125556805 [], .int .i64 x1_21]), (125556803, .row .e9 x1_18 false), (125556805, .row .e9 x1_20 false), (1245632, .box .mem [.row .e100 x1_22]), (1248128, .box (.clo 56 0 [(false, 1), (false, 1)]) [.ptr 1245504 0, .ptr 1245632 0])], base := 0 }
abbrev A19_0 : Type := List (C .e83) × List (C .e9) × Int × Int × ByteArray × ByteArray × ByteArray × List (C .e9) × Bool × List (C .e9) × Int × ByteArray × ByteArray × ByteArray × List (C .e9) × Bool × List (C .e9) × Int × List (C .e100)
def s19_0 : A19_0 → St C := fun (x0_0, x0_1, x0_2, x0_3, x0_4, x0_5, x0_6, x0_7, x0_8, x0_9, x0_10, x0_11, x0_12, x0_13, x0_14, x0_15, x0_16, x0_17, x0_18) => { env := [(1, .one (.row .e83 x0_0)), (5, .one (.ptr 1245504 0)), (6, .one (.ptr 1245568 0)), (7, .one (.ptr 1245632 0)), (11, .one (.vo 1248128)), (47, .one (.ref 100047 [])), (48, .one (.int .i64 x0_2)), (49, .one (.int .i64 x0_3))], objs := [(100047, .row .e9 x0_1 false), (1245504, .box .mem [.str x0_4, .str x0_5, .str x0_6, .ref 125550403 [], .bool x0_8, .ref 125550405 [], .int .i64 x0_10]), (125550403, .row .e9 x0_7 false), (125550405, .row .e9 x0_9 false), (1245568, .box .mem [.str x0_11, .str x0_12, .str x0_13, .ref 125556803 [], .bool x0_15, .ref 125556805 [], .int .i64 x0_17]), (125556803, .row .e9 x0_14 false), (125556805, .row .e9 x0_16 false), (1245632, .box .mem [.row .e100 x0_18]), (1248128, .box (.clo 56 0 [(false, 1), (false, 1)]) [.ptr 1245504 0, .ptr 1245632 0])], base := 0 }
noncomputable def r19_1 (n : Nat) (rec0 : A19_0 → Option (VGateObject)) (rec1 : A19_1 → Option (VGateObject)) : A19_1 → Option (VGateObject) := fun (x1_0, x1_1, x1_2, x1_3, x1_4, x1_5, x1_6, x1_7, x1_8, x1_9, x1_10, x1_11, x1_12, x1_13, x1_14, x1_15, x1_16, x1_17, x1_18, x1_19, x1_20, x1_21, x1_22) =>
      cond (decide (x1_7 < x1_6))
      (cond (decide (0 ≤ x1_7)) (Option.bind x1_5[x1_7.toNat]? fun x10 => cond (!decide (x10.Kind = x1_8))
      (rec1 (x1_0, x1_1, x1_2, x1_3, x1_4, x1_5, x1_6, IntKind.i64.wrap (x1_7 + 1), x1_8, x1_9, x1_10, x1_11, x1_12, x1_13, x1_14, x1_15, x1_16, x1_17, x1_18, x1_19, x1_20, x1_21, x1_22))
      (cond (!decide (x10.Field = x1_1))
      (rec1 (x1_0, x1_1, x1_2, x1_3, x1_4, x1_5, x1_6, IntKind.i64.wrap (x1_7 + 1), x1_8, x1_9, x1_10, x1_11, x1_12, x1_13, x1_14, x1_15, x1_16, x1_17, x1_18, x1_19, x1_20, x1_21, x1_22))
      (cond (!decide (x10.When = (⟨#[]⟩ : ByteArray)))
      (Option.bind (G56 x10.When (⟨x1_8, x1_9, x1_10, x1_11, x1_12, x1_13, x1_14⟩ : VGateObject) x1_22) fun r11 =>
      cond (!decide (r11 = x10.Is))
      (rec1 (x1_0, x1_1, x1_2, x1_3, x1_4, x1_5, x1_6, IntKind.i64.wrap (x1_7 + 1), x1_8, x1_9, x1_10, x1_11, x1_12, x1_13, x1_14, x1_15, x1_16, x1_17, x1_18, x1_19, x1_20, x1_21, x1_22))
      (cond (!decide (x10.From = (⟨#[]⟩ : ByteArray)))
      (Option.bind (G56 x10.From (⟨x1_8, x1_9, x1_10, x1_11, x1_12, x1_13, x1_14⟩ : VGateObject) x1_22) fun r12 =>
      cond (decide (r12 = (⟨#[]⟩ : ByteArray)))
      (rec1 (x1_0, x1_1, x1_2, x1_3, x1_4, x1_5, x1_6, IntKind.i64.wrap (x1_7 + 1), x1_8, x1_9, x1_10, x1_11, x1_12, x1_13, x1_14, x1_15, x1_16, x1_17, x1_18, x1_19, x1_20, x1_21, x1_22))
      (cond (!decide (x10.From = (⟨#[]⟩ : ByteArray)))
      (Option.bind (G56 x10.From (⟨x1_8, x1_9, x1_10, x1_11, x1_12, x1_13, x1_14⟩ : VGateObject) x1_22) fun r13 =>
      Option.bind (G57 x1_22 x1_1) fun r14 =>
      cond (decide (0 ≤ r14)) (cond (decide (r14 < (x1_11.length : Int))) (Option.bind x1_11[r14.toNat]? fun x15 => rec0 (x1_0, x1_2, x1_3, IntKind.i64.wrap (x1_4 + 1), x1_8, x1_9, x1_10, x1_11.set r14.toNat r13, x1_12, x1_13, x1_14, x1_15, x1_16, x1_17, x1_18, x1_19, x1_20, x1_21, x1_22)) none) none)
      (Option.bind (G57 x1_22 x1_1) fun r16 =>
      cond (decide (0 ≤ r16)) (cond (decide (r16 < (x1_11.length : Int))) (Option.bind x1_11[r16.toNat]? fun x17 => rec0 (x1_0, x1_2, x1_3, IntKind.i64.wrap (x1_4 + 1), x1_8, x1_9, x1_10, x1_11.set r16.toNat x10.Put, x1_12, x1_13, x1_14, x1_15, x1_16, x1_17, x1_18, x1_19, x1_20, x1_21, x1_22)) none) none)))
      (cond (!decide (x10.From = (⟨#[]⟩ : ByteArray)))
      (Option.bind (G56 x10.From (⟨x1_8, x1_9, x1_10, x1_11, x1_12, x1_13, x1_14⟩ : VGateObject) x1_22) fun r18 =>
      Option.bind (G57 x1_22 x1_1) fun r19 =>
      cond (decide (0 ≤ r19)) (cond (decide (r19 < (x1_11.length : Int))) (Option.bind x1_11[r19.toNat]? fun x20 => rec0 (x1_0, x1_2, x1_3, IntKind.i64.wrap (x1_4 + 1), x1_8, x1_9, x1_10, x1_11.set r19.toNat r18, x1_12, x1_13, x1_14, x1_15, x1_16, x1_17, x1_18, x1_19, x1_20, x1_21, x1_22)) none) none)
      (Option.bind (G57 x1_22 x1_1) fun r21 =>
      cond (decide (0 ≤ r21)) (cond (decide (r21 < (x1_11.length : Int))) (Option.bind x1_11[r21.toNat]? fun x22 => rec0 (x1_0, x1_2, x1_3, IntKind.i64.wrap (x1_4 + 1), x1_8, x1_9, x1_10, x1_11.set r21.toNat x10.Put, x1_12, x1_13, x1_14, x1_15, x1_16, x1_17, x1_18, x1_19, x1_20, x1_21, x1_22)) none) none))))
      (cond (!decide (x10.From = (⟨#[]⟩ : ByteArray)))
      (Option.bind (G56 x10.From (⟨x1_8, x1_9, x1_10, x1_11, x1_12, x1_13, x1_14⟩ : VGateObject) x1_22) fun r23 =>
      cond (decide (r23 = (⟨#[]⟩ : ByteArray)))
      (rec1 (x1_0, x1_1, x1_2, x1_3, x1_4, x1_5, x1_6, IntKind.i64.wrap (x1_7 + 1), x1_8, x1_9, x1_10, x1_11, x1_12, x1_13, x1_14, x1_15, x1_16, x1_17, x1_18, x1_19, x1_20, x1_21, x1_22))
      (cond (!decide (x10.From = (⟨#[]⟩ : ByteArray)))
      (Option.bind (G56 x10.From (⟨x1_8, x1_9, x1_10, x1_11, x1_12, x1_13, x1_14⟩ : VGateObject) x1_22) fun r24 =>
      Option.bind (G57 x1_22 x1_1) fun r25 =>
      cond (decide (0 ≤ r25)) (cond (decide (r25 < (x1_11.length : Int))) (Option.bind x1_11[r25.toNat]? fun x26 => rec0 (x1_0, x1_2, x1_3, IntKind.i64.wrap (x1_4 + 1), x1_8, x1_9, x1_10, x1_11.set r25.toNat r24, x1_12, x1_13, x1_14, x1_15, x1_16, x1_17, x1_18, x1_19, x1_20, x1_21, x1_22)) none) none)
      (Option.bind (G57 x1_22 x1_1) fun r27 =>
      cond (decide (0 ≤ r27)) (cond (decide (r27 < (x1_11.length : Int))) (Option.bind x1_11[r27.toNat]? fun x28 => rec0 (x1_0, x1_2, x1_3, IntKind.i64.wrap (x1_4 + 1), x1_8, x1_9, x1_10, x1_11.set r27.toNat x10.Put, x1_12, x1_13, x1_14, x1_15, x1_16, x1_17, x1_18, x1_19, x1_20, x1_21, x1_22)) none) none)))
      (cond (!decide (x10.From = (⟨#[]⟩ : ByteArray)))
      (Option.bind (G56 x10.From (⟨x1_8, x1_9, x1_10, x1_11, x1_12, x1_13, x1_14⟩ : VGateObject) x1_22) fun r29 =>
      Option.bind (G57 x1_22 x1_1) fun r30 =>
      cond (decide (0 ≤ r30)) (cond (decide (r30 < (x1_11.length : Int))) (Option.bind x1_11[r30.toNat]? fun x31 => rec0 (x1_0, x1_2, x1_3, IntKind.i64.wrap (x1_4 + 1), x1_8, x1_9, x1_10, x1_11.set r30.toNat r29, x1_12, x1_13, x1_14, x1_15, x1_16, x1_17, x1_18, x1_19, x1_20, x1_21, x1_22)) none) none)
      (Option.bind (G57 x1_22 x1_1) fun r32 =>
      cond (decide (0 ≤ r32)) (cond (decide (r32 < (x1_11.length : Int))) (Option.bind x1_11[r32.toNat]? fun x33 => rec0 (x1_0, x1_2, x1_3, IntKind.i64.wrap (x1_4 + 1), x1_8, x1_9, x1_10, x1_11.set r32.toNat x10.Put, x1_12, x1_13, x1_14, x1_15, x1_16, x1_17, x1_18, x1_19, x1_20, x1_21, x1_22)) none) none)))))) none)
      (rec0 (x1_0, x1_2, x1_3, IntKind.i64.wrap (x1_4 + 1), x1_8, x1_9, x1_10, x1_11, x1_12, x1_13, x1_14, x1_15, x1_16, x1_17, x1_18, x1_19, x1_20, x1_21, x1_22))
noncomputable def LP19_1 (n : Nat) (rec0 : A19_0 → Option (VGateObject)) (x : A19_1) : Option (VGateObject) := lpN (r19_1 n rec0) n x
noncomputable def MP19_1 (n : Nat) (rec0 : St C → Option (VGateObject)) (x : A19_1) : Option (VGateObject) := iter (fun rec S => run (X19 n) (F19 n) (codeAt (bodyOf Go.Proofs.Try.f19) [1, 0, 1, 1, 1, 1, 1, 1, 0, 1, 0, 0, 1, 1, 0, 0, 1, 1, 0, 0]) 2 S (lopK rec (blkK 2 (blkK 1 (seqK (run (X19 n) (F19 n) (codeAt (bodyOf Go.Proofs.Try.f19) [1, 0, 1, 1, 1, 1, 1, 1, 0, 1, 0, 0, 1, 1, 1]) 0) (lopK (canThen [1, 5, 6, 7, 11, 47, 48, 49] rec0) (blkK 0 (seqK (run (X19 n) (F19 n) (codeAt (bodyOf Go.Proofs.Try.f19) [1, 0, 1, 1, 1, 1, 1, 1, 1]) 0) (kTop (X19 n) Go.Proofs.Try.f19 dec19))))))))) [1, 5, 6, 7, 11, 13, 47, 48, 49, 53, 54, 55] n (s19_1 x)
theorem m19_1 (n : Nat) (rec0 : St C → Option (VGateObject)) (x : A19_1) : MP19_1 n rec0 x = LP19_1 n (fun x => rec0 (s19_0 x)) x := by
  refine iter_eq s19_1 (r19_1 n (fun x => rec0 (s19_0 x))) (fun rec1 x => ?_) n x
  obtain ⟨x1_0, x1_1, x1_2, x1_3, x1_4, x1_5, x1_6, x1_7, x1_8, x1_9, x1_10, x1_11, x1_12, x1_13, x1_14, x1_15, x1_16, x1_17, x1_18, x1_19, x1_20, x1_21, x1_22⟩ := x
  kernel_rfl
noncomputable def r19_0 (n : Nat)  (rec0 : A19_0 → Option (VGateObject)) : A19_0 → Option (VGateObject) := fun (x0_0, x0_1, x0_2, x0_3, x0_4, x0_5, x0_6, x0_7, x0_8, x0_9, x0_10, x0_11, x0_12, x0_13, x0_14, x0_15, x0_16, x0_17, x0_18) =>
      cond (decide (x0_3 < x0_2))
      (cond (decide (0 ≤ x0_3)) (cond (decide (x0_3 < (x0_1.length : Int))) (Option.bind x0_1[x0_3.toNat]? fun x9 => LP19_1 n rec0 (x0_0, x9, x0_1, x0_2, x0_3, x0_0, (x0_0.length : Int), 0, x0_4, x0_5, x0_6, x0_7, x0_8, x0_9, x0_10, x0_11, x0_12, x0_13, x0_14, x0_15, x0_16, x0_17, x0_18)) none) none)
      (some ((⟨x0_4, x0_5, x0_6, x0_7, x0_8, x0_9, x0_10⟩ : VGateObject)))
noncomputable def LP19_0 (n : Nat)  (x : A19_0) : Option (VGateObject) := lpN (r19_0 n ) n x
noncomputable def MP19_0 (n : Nat)  (x : A19_0) : Option (VGateObject) := iter (fun rec S => run (X19 n) (F19 n) (codeAt (bodyOf Go.Proofs.Try.f19) [1, 0, 1, 1, 1, 1, 1, 1, 0, 1, 0, 0]) 0 S (lopK rec (blkK 0 (seqK (run (X19 n) (F19 n) (codeAt (bodyOf Go.Proofs.Try.f19) [1, 0, 1, 1, 1, 1, 1, 1, 1]) 0) (kTop (X19 n) Go.Proofs.Try.f19 dec19))))) [1, 5, 6, 7, 11, 47, 48, 49] n (s19_0 x)
theorem m19_0 (n : Nat)  (x : A19_0) : MP19_0 n  x = LP19_0 n  x := by
  refine iter_eq s19_0 (r19_0 n ) (fun rec0 x => ?_) n x
  obtain ⟨x0_0, x0_1, x0_2, x0_3, x0_4, x0_5, x0_6, x0_7, x0_8, x0_9, x0_10, x0_11, x0_12, x0_13, x0_14, x0_15, x0_16, x0_17, x0_18⟩ := x
  have h : run (X19 n) (F19 n) (codeAt (bodyOf Go.Proofs.Try.f19) [1, 0, 1, 1, 1, 1, 1, 1, 0, 1, 0, 0]) 0 (s19_0 (x0_0, x0_1, x0_2, x0_3, x0_4, x0_5, x0_6, x0_7, x0_8, x0_9, x0_10, x0_11, x0_12, x0_13, x0_14, x0_15, x0_16, x0_17, x0_18)) (lopK (canThen [1, 5, 6, 7, 11, 47, 48, 49] rec0) (blkK 0 (seqK (run (X19 n) (F19 n) (codeAt (bodyOf Go.Proofs.Try.f19) [1, 0, 1, 1, 1, 1, 1, 1, 1]) 0) (kTop (X19 n) Go.Proofs.Try.f19 dec19)))) =
      cond (decide (x0_3 < x0_2))
      (cond (decide (0 ≤ x0_3)) (cond (decide (x0_3 < (x0_1.length : Int))) (Option.bind x0_1[x0_3.toNat]? fun x9 => MP19_1 n rec0 (x0_0, x9, x0_1, x0_2, x0_3, x0_0, (x0_0.length : Int), 0, x0_4, x0_5, x0_6, x0_7, x0_8, x0_9, x0_10, x0_11, x0_12, x0_13, x0_14, x0_15, x0_16, x0_17, x0_18)) none) none)
      (some ((⟨x0_4, x0_5, x0_6, x0_7, x0_8, x0_9, x0_10⟩ : VGateObject))) := by kernel_rfl
  simp only [m19_1] at h
  exact h
noncomputable def G19n (n : Nat) (a0 : List (C .e81)) (a1 : List (C .e83)) (a2 : VGateObject) : Option (VGateObject) :=
      Option.bind (G52 a2) fun r1 =>
      Option.bind (G55 a0 r1.Kind) fun r2 =>
      cond (decide (r2 < 0))
      (some (r1))
      (cond (decide (0 ≤ r2)) (Option.bind a0[r2.toNat]? fun x3 => cond ((r1.Values.length : Int) != (x3.Fields.length : Int))
      (some (r1))
      (cond (decide (0 ≤ r2)) (Option.bind a0[r2.toNat]? fun x4 => Option.bind (G31 a0 a1) fun r5 =>
      cond (!r5)
      (some (r1))
      (Option.bind (G55 a0 r1.Kind) fun r6 =>
      cond (decide (0 ≤ r6)) (Option.bind a0[r6.toNat]? fun x7 => Option.bind (G54 x7 a1) fun r8 =>
      LP19_0 n  (a1, r8.1, (r8.1.length : Int), 0, r1.Kind, r1.Name, r1.Team, r1.Values, r1.Ending, r1.Holds, r1.Version, (⟨#[]⟩ : ByteArray), (⟨#[]⟩ : ByteArray), (⟨#[]⟩ : ByteArray), ([] : List (C .e9)), false, ([] : List (C .e9)), 0, x4.Fields)) none)) none)) none)
theorem t19 (n : Nat) (a0 : List (C .e81)) (a1 : List (C .e83)) (a2 : VGateObject) : runFn (X19 n) (F19 n) Go.Proofs.Try.f19 [.one (.row .e81 a0), .one (.row .e83 a1), .agg [.str a2.Kind, .str a2.Name, .str a2.Team, .row .e9 a2.Values, .bool a2.Ending, .row .e9 a2.Holds, .int .i64 a2.Version]] dec19 = G19n n a0 a1 a2 := by
  have h : runFn (X19 n) (F19 n) Go.Proofs.Try.f19 [.one (.row .e81 a0), .one (.row .e83 a1), .agg [.str a2.Kind, .str a2.Name, .str a2.Team, .row .e9 a2.Values, .bool a2.Ending, .row .e9 a2.Holds, .int .i64 a2.Version]] dec19 =
      Option.bind (G52 a2) fun r1 =>
      Option.bind (G55 a0 r1.Kind) fun r2 =>
      cond (decide (r2 < 0))
      (some (r1))
      (cond (decide (0 ≤ r2)) (Option.bind a0[r2.toNat]? fun x3 => cond ((r1.Values.length : Int) != (x3.Fields.length : Int))
      (some (r1))
      (cond (decide (0 ≤ r2)) (Option.bind a0[r2.toNat]? fun x4 => Option.bind (G31 a0 a1) fun r5 =>
      cond (!r5)
      (some (r1))
      (Option.bind (G55 a0 r1.Kind) fun r6 =>
      cond (decide (0 ≤ r6)) (Option.bind a0[r6.toNat]? fun x7 => Option.bind (G54 x7 a1) fun r8 =>
      MP19_0 n  (a1, r8.1, (r8.1.length : Int), 0, r1.Kind, r1.Name, r1.Team, r1.Values, r1.Ending, r1.Holds, r1.Version, (⟨#[]⟩ : ByteArray), (⟨#[]⟩ : ByteArray), (⟨#[]⟩ : ByteArray), ([] : List (C .e9)), false, ([] : List (C .e9)), 0, x4.Fields)) none)) none)) none) := by kernel_rfl
  simp only [h, G19n, m19_0]
noncomputable def G19 (a0 : List (C .e81)) (a1 : List (C .e83)) (a2 : VGateObject) : Option (VGateObject) := G19n fuel a0 a1 a2
noncomputable def con19 : Con C := { R0 := VGateObject, ret := fun r => [(true, [.str r.Kind, .str r.Name, .str r.Team, .row .e9 r.Values, .bool r.Ending, .row .e9 r.Holds, .int .i64 r.Version])], g := fun vs => match vs with
  | [.one (.row .e81 y0), .one (.row .e83 y1), .agg [.str y2_0, .str y2_1, .str y2_2, .row .e9 y2_3, .bool y2_4, .row .e9 y2_5, .int .i64 y2_6]] => G19 y0 y1 ⟨y2_0, y2_1, y2_2, y2_3, y2_4, y2_5, y2_6⟩
  | _ => none }
theorem x19 (n : Nat) : XOk Go.Proofs.Try.prog (X19 n) := ⟨tks_ok, els_ok, mps_ok, meths_ok⟩
theorem q19 (n : Nat) : Cons Go.Proofs.Try.prog (X19 n) := ⟨lkR_ok (l := [(31, con31), (52, con52), (54, con54), (55, con55), (56, con56), (57, con57)]) ⟨c31, c52, c54, c55, c56, c57, trivial⟩, lkW_ok (l := []) trivial, lkI_ok (l := [(53, I53 n)]) ⟨i53 n, trivial⟩⟩
theorem c19 : ConOk Go.Proofs.Try.prog KK 19 con19 := by
  refine con_dec (x19 fuel) (q19 fuel) (by kernel_rfl) (f := 19) (fn := Go.Proofs.Try.f19) (c := bodyOf Go.Proofs.Try.f19) (by kernel_rfl) (by kernel_rfl) (by kernel_rfl) (nameB (by kernel_rfl)) con19 dec19 (fun rs r0 h => ?_) (fun vs r0 h => ?_)
  · unfold dec19 at h
    split at h
    · cases h; rfl
    · cases h
  · simp only [con19] at h
    split at h
    · rename_i y0 y1 y2_0 y2_1 y2_2 y2_3 y2_4 y2_5 y2_6
      exact ⟨Nat.le_of_ble_eq_true (by kernel_rfl), F19 fuel, (t19 fuel y0 y1 ⟨y2_0, y2_1, y2_2, y2_3, y2_4, y2_5, y2_6⟩).trans h⟩
    · cases h
/-! ### f32 loop.example/wharfdesk/impl.GateFill -/
noncomputable def X32 (n : Nat) : Cx C := { K := KK, tk := lk tks, con := lkC [(52, con52), (67, con67)], conw := lkC [], inl := lkA [(53, I53 n)], hold := [0, 3, 4, 5, 6, 11, 14, 15, 16], mp := lk mps, meth := lkS meths, off := 2097152 }
def F32 (n : Nat) : Cf := { N := n, keep := [0, 1, 3, 4, 5, 6, 7, 8, 23, 25, 26, 27, 28, 37], live := lk [(0, [3, 4, 25, 26, 27])] }
def dec32 (rs : List (Bool × List (Lf C))) : Option (VGateObject) := match rs with
  | [(true, [.str z0, .str z1, .str z2, .row .e9 z3, .bool z4, .row .e9 z5, .int .i64 z6])] => some ⟨z0, z1, z2, z3, z4, z5, z6⟩
  | _ => none
abbrev A32_0 : Type := List (C .e100) × Int × Int × ByteArray × ByteArray × ByteArray × List (C .e9) × Bool × List (C .e9) × Int × ByteArray × ByteArray × ByteArray × List (C .e9) × Bool × List (C .e9) × Int
def s32_0 : A32_0 → St C := fun (x0_0, x0_1, x0_2, x0_3, x0_4, x0_5, x0_6, x0_7, x0_8, x0_9, x0_10, x0_11, x0_12, x0_13, x0_14, x0_15, x0_16) => { env := [(3, .one (.ptr 2097344 0)), (4, .one (.ptr 2097408 0)), (25, .one (.row .e100 x0_0)), (26, .one (.int .i64 x0_1)), (27, .one (.int .i64 x0_2))], objs := [(2097344, .box .mem [.str x0_3, .str x0_4, .str x0_5, .ref 210734403 [], .bool x0_7, .ref 210734405 [], .int .i64 x0_9]), (210734403, .row .e9 x0_6 false), (210734405, .row .e9 x0_8 false), (2097408, .box .mem [.str x0_10, .str x0_11, .str x0_12, .ref 210740803 [], .bool x0_14, .ref 210740805 [], .int .i64 x0_16]), (210740803, .row .e9 x0_13 false), (210740805, .row .e9 x0_15 false)], base := 0 }
noncomputable def r32_0 (n : Nat)  (rec0 : A32_0 → Option (VGateObject)) : A32_0 → Option (VGateObject) := fun (x0_0, x0_1, x0_2, x0_3, x0_4, x0_5, x0_6, x0_7, x0_8, x0_9, x0_10, x0_11, x0_12, x0_13, x0_14, x0_15, x0_16) =>
      cond (decide (x0_2 < x0_1))
      (cond (decide (0 ≤ x0_2)) (Option.bind x0_0[x0_2.toNat]? fun x6 => cond (decide (0 ≤ x0_2)) (cond (decide (x0_2 < (x0_6.length : Int))) (Option.bind x0_6[x0_2.toNat]? fun x7 => cond (decide (x7 = (⟨#[]⟩ : ByteArray)))
      (cond (decide (0 ≤ x0_2)) (cond (decide (x0_2 < (x0_6.length : Int))) (Option.bind x0_6[x0_2.toNat]? fun x8 => rec0 (x0_0, x0_1, IntKind.i64.wrap (x0_2 + 1), x0_3, x0_4, x0_5, x0_6.set x0_2.toNat x6.Default, x0_7, x0_8, x0_9, x0_10, x0_11, x0_12, x0_13, x0_14, x0_15, x0_16)) none) none)
      (rec0 (x0_0, x0_1, IntKind.i64.wrap (x0_2 + 1), x0_3, x0_4, x0_5, x0_6, x0_7, x0_8, x0_9, x0_10, x0_11, x0_12, x0_13, x0_14, x0_15, x0_16))) none) none) none)
      (some ((⟨x0_3, x0_4, x0_5, x0_6, x0_7, x0_8, x0_9⟩ : VGateObject)))
noncomputable def LP32_0 (n : Nat)  (x : A32_0) : Option (VGateObject) := lpN (r32_0 n ) n x
noncomputable def MP32_0 (n : Nat)  (x : A32_0) : Option (VGateObject) := iter (fun rec S => run (X32 n) (F32 n) (codeAt (bodyOf Go.Proofs.Try.f32) [1, 1, 1, 1, 0, 1, 0, 0]) 0 S (lopK rec (blkK 0 (seqK (run (X32 n) (F32 n) (codeAt (bodyOf Go.Proofs.Try.f32) [1, 1, 1, 1, 1]) 0) (kTop (X32 n) Go.Proofs.Try.f32 dec32))))) [3, 4, 25, 26, 27] n (s32_0 x)
theorem m32_0 (n : Nat)  (x : A32_0) : MP32_0 n  x = LP32_0 n  x := by
  refine iter_eq s32_0 (r32_0 n ) (fun rec0 x => ?_) n x
  obtain ⟨x0_0, x0_1, x0_2, x0_3, x0_4, x0_5, x0_6, x0_7, x0_8, x0_9, x0_10, x0_11, x0_12, x0_13, x0_14, x0_15, x0_16⟩ := x
  kernel_rfl
noncomputable def G32n (n : Nat) (a0 : List (C .e81)) (a1 : VGateObject) : Option (VGateObject) :=
      Option.bind (G52 a1) fun r1 =>
      Option.bind (G55 a0 r1.Kind) fun r2 =>
      cond (decide (r2 < 0))
      (some (r1))
      (cond (decide (0 ≤ r2)) (Option.bind a0[r2.toNat]? fun x3 => cond ((r1.Values.length : Int) != (x3.Fields.length : Int))
      (some (r1))
      (cond (decide (0 ≤ r2)) (Option.bind a0[r2.toNat]? fun x4 => Option.bind (G67 a0) fun r5 =>
      cond (!r5)
      (some (r1))
      (LP32_0 n  (x4.Fields, (x4.Fields.length : Int), 0, r1.Kind, r1.Name, r1.Team, r1.Values, r1.Ending, r1.Holds, r1.Version, (⟨#[]⟩ : ByteArray), (⟨#[]⟩ : ByteArray), (⟨#[]⟩ : ByteArray), ([] : List (C .e9)), false, ([] : List (C .e9)), 0))) none)) none)
theorem t32 (n : Nat) (a0 : List (C .e81)) (a1 : VGateObject) : runFn (X32 n) (F32 n) Go.Proofs.Try.f32 [.one (.row .e81 a0), .agg [.str a1.Kind, .str a1.Name, .str a1.Team, .row .e9 a1.Values, .bool a1.Ending, .row .e9 a1.Holds, .int .i64 a1.Version]] dec32 = G32n n a0 a1 := by
  have h : runFn (X32 n) (F32 n) Go.Proofs.Try.f32 [.one (.row .e81 a0), .agg [.str a1.Kind, .str a1.Name, .str a1.Team, .row .e9 a1.Values, .bool a1.Ending, .row .e9 a1.Holds, .int .i64 a1.Version]] dec32 =
      Option.bind (G52 a1) fun r1 =>
      Option.bind (G55 a0 r1.Kind) fun r2 =>
      cond (decide (r2 < 0))
      (some (r1))
      (cond (decide (0 ≤ r2)) (Option.bind a0[r2.toNat]? fun x3 => cond ((r1.Values.length : Int) != (x3.Fields.length : Int))
      (some (r1))
      (cond (decide (0 ≤ r2)) (Option.bind a0[r2.toNat]? fun x4 => Option.bind (G67 a0) fun r5 =>
      cond (!r5)
      (some (r1))
      (MP32_0 n  (x4.Fields, (x4.Fields.length : Int), 0, r1.Kind, r1.Name, r1.Team, r1.Values, r1.Ending, r1.Holds, r1.Version, (⟨#[]⟩ : ByteArray), (⟨#[]⟩ : ByteArray), (⟨#[]⟩ : ByteArray), ([] : List (C .e9)), false, ([] : List (C .e9)), 0))) none)) none) := by kernel_rfl
  simp only [h, G32n, m32_0]
noncomputable def G32 (a0 : List (C .e81)) (a1 : VGateObject) : Option (VGateObject) := G32n fuel a0 a1
noncomputable def con32 : Con C := { R0 := VGateObject, ret := fun r => [(true, [.str r.Kind, .str r.Name, .str r.Team, .row .e9 r.Values, .bool r.Ending, .row .e9 r.Holds, .int .i64 r.Version])], g := fun vs => match vs with
  | [.one (.row .e81 y0), .agg [.str y1_0, .str y1_1, .str y1_2, .row .e9 y1_3, .bool y1_4, .row .e9 y1_5, .int .i64 y1_6]] => G32 y0 ⟨y1_0, y1_1, y1_2, y1_3, y1_4, y1_5, y1_6⟩
  | _ => none }
theorem x32 (n : Nat) : XOk Go.Proofs.Try.prog (X32 n) := ⟨tks_ok, els_ok, mps_ok, meths_ok⟩
theorem q32 (n : Nat) : Cons Go.Proofs.Try.prog (X32 n) := ⟨lkR_ok (l := [(52, con52), (67, con67)]) ⟨c52, c67, trivial⟩, lkW_ok (l := []) trivial, lkI_ok (l := [(53, I53 n)]) ⟨i53 n, trivial⟩⟩
theorem c32 : ConOk Go.Proofs.Try.prog KK 32 con32 := by
  refine con_dec (x32 fuel) (q32 fuel) (by kernel_rfl) (f := 32) (fn := Go.Proofs.Try.f32) (c := bodyOf Go.Proofs.Try.f32) (by kernel_rfl) (by kernel_rfl) (by kernel_rfl) (nameB (by kernel_rfl)) con32 dec32 (fun rs r0 h => ?_) (fun vs r0 h => ?_)
  · unfold dec32 at h
    split at h
    · cases h; rfl
    · cases h
  · simp only [con32] at h
    split at h
    · rename_i y0 y1_0 y1_1 y1_2 y1_3 y1_4 y1_5 y1_6
      exact ⟨Nat.le_of_ble_eq_true (by kernel_rfl), F32 fuel, (t32 fuel y0 ⟨y1_0, y1_1, y1_2, y1_3, y1_4, y1_5, y1_6⟩).trans h⟩
    · cases h
/-! ### f28 loop.example/wharfdesk/impl.GateShaped -/
noncomputable def X28 : Cx C := { K := KK, tk := lk tks, con := lkC [(19, con19), (31, con31), (32, con32), (52, con52)], conw := lkC [], inl := lkA [], hold := [], mp := lk mps, meth := lkS meths, off := 1835008 }
def F28 (n : Nat) : Cf := { N := n, keep := [0, 1, 2, 5, 6, 10], live := lk [] }
def dec28 (rs : List (Bool × List (Lf C))) : Option (VGateObject) := match rs with
  | [(true, [.str z0, .str z1, .str z2, .row .e9 z3, .bool z4, .row .e9 z5, .int .i64 z6])] => some ⟨z0, z1, z2, z3, z4, z5, z6⟩
  | _ => none
noncomputable def G28n (n : Nat) (a0 : List (C .e81)) (a1 : List (C .e83)) (a2 : VGateObject) : Option (VGateObject) :=
      Option.bind (G31 a0 a1) fun r1 =>
      cond (!r1)
      (Option.bind (G52 a2) fun r2 =>
      some (r2))
      (Option.bind (G32 a0 a2) fun r3 =>
      Option.bind (G19 a0 a1 r3) fun r4 =>
      some (r4))
theorem t28 (n : Nat) (a0 : List (C .e81)) (a1 : List (C .e83)) (a2 : VGateObject) : runFn X28 (F28 n) Go.Proofs.Try.f28 [.one (.row .e81 a0), .one (.row .e83 a1), .agg [.str a2.Kind, .str a2.Name, .str a2.Team, .row .e9 a2.Values, .bool a2.Ending, .row .e9 a2.Holds, .int .i64 a2.Version]] dec28 = G28n n a0 a1 a2 := by
  kernel_rfl
noncomputable def G28 (a0 : List (C .e81)) (a1 : List (C .e83)) (a2 : VGateObject) : Option (VGateObject) := G28n fuel a0 a1 a2
noncomputable def con28 : Con C := { R0 := VGateObject, ret := fun r => [(true, [.str r.Kind, .str r.Name, .str r.Team, .row .e9 r.Values, .bool r.Ending, .row .e9 r.Holds, .int .i64 r.Version])], g := fun vs => match vs with
  | [.one (.row .e81 y0), .one (.row .e83 y1), .agg [.str y2_0, .str y2_1, .str y2_2, .row .e9 y2_3, .bool y2_4, .row .e9 y2_5, .int .i64 y2_6]] => G28 y0 y1 ⟨y2_0, y2_1, y2_2, y2_3, y2_4, y2_5, y2_6⟩
  | _ => none }
theorem x28 : XOk Go.Proofs.Try.prog X28 := ⟨tks_ok, els_ok, mps_ok, meths_ok⟩
theorem q28 : Cons Go.Proofs.Try.prog X28 := ⟨lkR_ok (l := [(19, con19), (31, con31), (32, con32), (52, con52)]) ⟨c19, c31, c32, c52, trivial⟩, lkW_ok (l := []) trivial, lkI_ok (l := []) trivial⟩
theorem c28 : ConOk Go.Proofs.Try.prog KK 28 con28 := by
  refine con_dec x28 q28 (by kernel_rfl) (f := 28) (fn := Go.Proofs.Try.f28) (c := bodyOf Go.Proofs.Try.f28) (by kernel_rfl) (by kernel_rfl) (by kernel_rfl) (nameB (by kernel_rfl)) con28 dec28 (fun rs r0 h => ?_) (fun vs r0 h => ?_)
  · unfold dec28 at h
    split at h
    · cases h; rfl
    · cases h
  · simp only [con28] at h
    split at h
    · rename_i y0 y1 y2_0 y2_1 y2_2 y2_3 y2_4 y2_5 y2_6
      exact ⟨Nat.le_of_ble_eq_true (by kernel_rfl), F28 fuel, (t28 fuel y0 y1 ⟨y2_0, y2_1, y2_2, y2_3, y2_4, y2_5, y2_6⟩).trans h⟩
    · cases h
/-! ### f58 loop.example/wharfdesk/laws.eqStringS -/
noncomputable def X58 : Cx C := { K := KK, tk := lk tks, con := lkC [], conw := lkC [], inl := lkA [], hold := [], mp := lk mps, meth := lkS meths, off := 3801088 }
def F58 (n : Nat) : Cf := { N := n, keep := [0, 1, 4, 5, 10, 14, 25], live := lk [(0, [0, 1, 5])] }
def dec58 (rs : List (Bool × List (Lf C))) : Option (Bool) := match rs with
  | [(false, [.bool z0])] => some z0
  | _ => none
abbrev A58_0 : Type := List (C .e9) × List (C .e9) × Int
def s58_0 : A58_0 → St C := fun (x0_0, x0_1, x0_2) => { env := [(0, .one (.row .e9 x0_0)), (1, .one (.row .e9 x0_1)), (5, .one (.int .i64 x0_2))], objs := [], base := 0 }
noncomputable def r58_0 (n : Nat)  (rec0 : A58_0 → Option (Bool)) : A58_0 → Option (Bool) := fun (x0_0, x0_1, x0_2) =>
      cond (decide (x0_2 < (x0_0.length : Int)))
      (cond (decide (0 ≤ x0_2)) (Option.bind x0_0[x0_2.toNat]? fun x1 => cond (decide (0 ≤ x0_2)) (Option.bind x0_1[x0_2.toNat]? fun x2 => cond (!decide (x1 = x2))
      (some (false))
      (rec0 (x0_0, x0_1, IntKind.i64.wrap (x0_2 + 1)))) none) none)
      (some (true))
noncomputable def LP58_0 (n : Nat)  (x : A58_0) : Option (Bool) := lpN (r58_0 n ) n x
noncomputable def MP58_0 (n : Nat)  (x : A58_0) : Option (Bool) := iter (fun rec S => run X58 (F58 n) (codeAt (bodyOf Go.Proofs.Try.f58) [1, 1, 0, 1, 0, 0]) 0 S (lopK rec (blkK 0 (seqK (run X58 (F58 n) (codeAt (bodyOf Go.Proofs.Try.f58) [1, 1, 1]) 0) (kTop X58 Go.Proofs.Try.f58 dec58))))) [0, 1, 5] n (s58_0 x)
theorem m58_0 (n : Nat)  (x : A58_0) : MP58_0 n  x = LP58_0 n  x := by
  refine iter_eq s58_0 (r58_0 n ) (fun rec0 x => ?_) n x
  obtain ⟨x0_0, x0_1, x0_2⟩ := x
  kernel_rfl
noncomputable def G58n (n : Nat) (a0 : List (C .e9)) (a1 : List (C .e9)) : Option (Bool) :=
      cond ((a0.length : Int) != (a1.length : Int))
      (some (false))
      (LP58_0 n  (a0, a1, 0))
theorem t58 (n : Nat) (a0 : List (C .e9)) (a1 : List (C .e9)) : runFn X58 (F58 n) Go.Proofs.Try.f58 [.one (.row .e9 a0), .one (.row .e9 a1)] dec58 = G58n n a0 a1 := by
  have h : runFn X58 (F58 n) Go.Proofs.Try.f58 [.one (.row .e9 a0), .one (.row .e9 a1)] dec58 =
      cond ((a0.length : Int) != (a1.length : Int))
      (some (false))
      (MP58_0 n  (a0, a1, 0)) := by kernel_rfl
  simp only [h, G58n, m58_0]
noncomputable def G58 (a0 : List (C .e9)) (a1 : List (C .e9)) : Option (Bool) := G58n fuel a0 a1
noncomputable def con58 : Con C := { R0 := Bool, ret := fun r => [(false, [.bool r])], g := fun vs => match vs with
  | [.one (.row .e9 y0), .one (.row .e9 y1)] => G58 y0 y1
  | _ => none }
theorem x58 : XOk Go.Proofs.Try.prog X58 := ⟨tks_ok, els_ok, mps_ok, meths_ok⟩
theorem q58 : Cons Go.Proofs.Try.prog X58 := ⟨lkR_ok (l := []) trivial, lkW_ok (l := []) trivial, lkI_ok (l := []) trivial⟩
theorem c58 : ConOk Go.Proofs.Try.prog KK 58 con58 := by
  refine con_dec x58 q58 (by kernel_rfl) (f := 58) (fn := Go.Proofs.Try.f58) (c := bodyOf Go.Proofs.Try.f58) (by kernel_rfl) (by kernel_rfl) (by kernel_rfl) (nameB (by kernel_rfl)) con58 dec58 (fun rs r0 h => ?_) (fun vs r0 h => ?_)
  · unfold dec58 at h
    split at h
    · cases h; rfl
    · cases h
  · simp only [con58] at h
    split at h
    · rename_i y0 y1
      exact ⟨Nat.le_of_ble_eq_true (by kernel_rfl), F58 fuel, (t58 fuel y0 y1).trans h⟩
    · cases h
/-! ### f20 loop.example/wharfdesk/laws.eqGateObject -/
noncomputable def X20 : Cx C := { K := KK, tk := lk tks, con := lkC [(58, con58)], conw := lkC [], inl := lkA [], hold := [], mp := lk mps, meth := lkS meths, off := 1310720 }
def F20 (n : Nat) : Cf := { N := n, keep := [0, 1, 2, 3, 4, 9, 14, 19, 25, 30, 36, 41], live := lk [] }
def dec20 (rs : List (Bool × List (Lf C))) : Option (Bool) := match rs with
  | [(false, [.bool z0])] => some z0
  | _ => none
noncomputable def G20n (n : Nat) (a0 : VGateObject) (a1 : VGateObject) : Option (Bool) :=
      cond (!decide (a0.Kind = a1.Kind))
      (some (false))
      (cond (!decide (a0.Name = a1.Name))
      (some (false))
      (cond (!decide (a0.Team = a1.Team))
      (some (false))
      (Option.bind (G58 a0.Values a1.Values) fun r1 =>
      cond (!r1)
      (some (false))
      (cond (!(a0.Ending == a1.Ending))
      (some (false))
      (Option.bind (G58 a0.Holds a1.Holds) fun r2 =>
      cond (!r2)
      (some (false))
      (cond (a0.Version != a1.Version)
      (some (false))
      (some (true))))))))
theorem t20 (n : Nat) (a0 : VGateObject) (a1 : VGateObject) : runFn X20 (F20 n) Go.Proofs.Try.f20 [.agg [.str a0.Kind, .str a0.Name, .str a0.Team, .row .e9 a0.Values, .bool a0.Ending, .row .e9 a0.Holds, .int .i64 a0.Version], .agg [.str a1.Kind, .str a1.Name, .str a1.Team, .row .e9 a1.Values, .bool a1.Ending, .row .e9 a1.Holds, .int .i64 a1.Version]] dec20 = G20n n a0 a1 := by
  kernel_rfl
noncomputable def G20 (a0 : VGateObject) (a1 : VGateObject) : Option (Bool) := G20n fuel a0 a1
noncomputable def con20 : Con C := { R0 := Bool, ret := fun r => [(false, [.bool r])], g := fun vs => match vs with
  | [.agg [.str y0_0, .str y0_1, .str y0_2, .row .e9 y0_3, .bool y0_4, .row .e9 y0_5, .int .i64 y0_6], .agg [.str y1_0, .str y1_1, .str y1_2, .row .e9 y1_3, .bool y1_4, .row .e9 y1_5, .int .i64 y1_6]] => G20 ⟨y0_0, y0_1, y0_2, y0_3, y0_4, y0_5, y0_6⟩ ⟨y1_0, y1_1, y1_2, y1_3, y1_4, y1_5, y1_6⟩
  | _ => none }
theorem x20 : XOk Go.Proofs.Try.prog X20 := ⟨tks_ok, els_ok, mps_ok, meths_ok⟩
theorem q20 : Cons Go.Proofs.Try.prog X20 := ⟨lkR_ok (l := [(58, con58)]) ⟨c58, trivial⟩, lkW_ok (l := []) trivial, lkI_ok (l := []) trivial⟩
theorem c20 : ConOk Go.Proofs.Try.prog KK 20 con20 := by
  refine con_dec x20 q20 (by kernel_rfl) (f := 20) (fn := Go.Proofs.Try.f20) (c := bodyOf Go.Proofs.Try.f20) (by kernel_rfl) (by kernel_rfl) (by kernel_rfl) (nameB (by kernel_rfl)) con20 dec20 (fun rs r0 h => ?_) (fun vs r0 h => ?_)
  · unfold dec20 at h
    split at h
    · cases h; rfl
    · cases h
  · simp only [con20] at h
    split at h
    · rename_i y0_0 y0_1 y0_2 y0_3 y0_4 y0_5 y0_6 y1_0 y1_1 y1_2 y1_3 y1_4 y1_5 y1_6
      exact ⟨Nat.le_of_ble_eq_true (by kernel_rfl), F20 fuel, (t20 fuel ⟨y0_0, y0_1, y0_2, y0_3, y0_4, y0_5, y0_6⟩ ⟨y1_0, y1_1, y1_2, y1_3, y1_4, y1_5, y1_6⟩).trans h⟩
    · cases h
/-! ### f110 loop.example/wharfdesk/laws.eqGateField -/
noncomputable def X110 : Cx C := { K := KK, tk := lk tks, con := lkC [(58, con58)], conw := lkC [], inl := lkA [], hold := [], mp := lk mps, meth := lkS meths, off := 7208960 }
def F110 (n : Nat) : Cf := { N := n, keep := [0, 1, 2, 3, 4, 9, 14, 19, 24, 30, 35, 40, 45, 50, 55, 60], live := lk [] }
def dec110 (rs : List (Bool × List (Lf C))) : Option (Bool) := match rs with
  | [(false, [.bool z0])] => some z0
  | _ => none
noncomputable def G110n (n : Nat) (a0 : VGateField) (a1 : VGateField) : Option (Bool) :=
      cond (!decide (a0.Name = a1.Name))
      (some (false))
      (cond (a0.Kind != a1.Kind)
      (some (false))
      (cond (a0.Least != a1.Least)
      (some (false))
      (cond (a0.Most != a1.Most)
      (some (false))
      (Option.bind (G58 a0.Words a1.Words) fun r1 =>
      cond (!r1)
      (some (false))
      (cond (!decide (a0.To = a1.To))
      (some (false))
      (cond (a0.Role != a1.Role)
      (some (false))
      (cond (!(a0.Must == a1.Must))
      (some (false))
      (cond (!(a0.Fixed == a1.Fixed))
      (some (false))
      (cond (!decide (a0.Default = a1.Default))
      (some (false))
      (cond (!decide (a0.Weighs = a1.Weighs))
      (some (false))
      (some (true))))))))))))
theorem t110 (n : Nat) (a0 : VGateField) (a1 : VGateField) : runFn X110 (F110 n) Go.Proofs.Try.f110 [.agg [.str a0.Name, .int .i64 a0.Kind, .int .i64 a0.Least, .int .i64 a0.Most, .row .e9 a0.Words, .str a0.To, .int .i64 a0.Role, .bool a0.Must, .bool a0.Fixed, .str a0.Default, .str a0.Weighs], .agg [.str a1.Name, .int .i64 a1.Kind, .int .i64 a1.Least, .int .i64 a1.Most, .row .e9 a1.Words, .str a1.To, .int .i64 a1.Role, .bool a1.Must, .bool a1.Fixed, .str a1.Default, .str a1.Weighs]] dec110 = G110n n a0 a1 := by
  kernel_rfl
noncomputable def G110 (a0 : VGateField) (a1 : VGateField) : Option (Bool) := G110n fuel a0 a1
noncomputable def con110 : Con C := { R0 := Bool, ret := fun r => [(false, [.bool r])], g := fun vs => match vs with
  | [.agg [.str y0_0, .int .i64 y0_1, .int .i64 y0_2, .int .i64 y0_3, .row .e9 y0_4, .str y0_5, .int .i64 y0_6, .bool y0_7, .bool y0_8, .str y0_9, .str y0_10], .agg [.str y1_0, .int .i64 y1_1, .int .i64 y1_2, .int .i64 y1_3, .row .e9 y1_4, .str y1_5, .int .i64 y1_6, .bool y1_7, .bool y1_8, .str y1_9, .str y1_10]] => G110 ⟨y0_0, y0_1, y0_2, y0_3, y0_4, y0_5, y0_6, y0_7, y0_8, y0_9, y0_10⟩ ⟨y1_0, y1_1, y1_2, y1_3, y1_4, y1_5, y1_6, y1_7, y1_8, y1_9, y1_10⟩
  | _ => none }
theorem x110 : XOk Go.Proofs.Try.prog X110 := ⟨tks_ok, els_ok, mps_ok, meths_ok⟩
theorem q110 : Cons Go.Proofs.Try.prog X110 := ⟨lkR_ok (l := [(58, con58)]) ⟨c58, trivial⟩, lkW_ok (l := []) trivial, lkI_ok (l := []) trivial⟩
theorem c110 : ConOk Go.Proofs.Try.prog KK 110 con110 := by
  refine con_dec x110 q110 (by kernel_rfl) (f := 110) (fn := Go.Proofs.Try.f110) (c := bodyOf Go.Proofs.Try.f110) (by kernel_rfl) (by kernel_rfl) (by kernel_rfl) (nameB (by kernel_rfl)) con110 dec110 (fun rs r0 h => ?_) (fun vs r0 h => ?_)
  · unfold dec110 at h
    split at h
    · cases h; rfl
    · cases h
  · simp only [con110] at h
    split at h
    · rename_i y0_0 y0_1 y0_2 y0_3 y0_4 y0_5 y0_6 y0_7 y0_8 y0_9 y0_10 y1_0 y1_1 y1_2 y1_3 y1_4 y1_5 y1_6 y1_7 y1_8 y1_9 y1_10
      exact ⟨Nat.le_of_ble_eq_true (by kernel_rfl), F110 fuel, (t110 fuel ⟨y0_0, y0_1, y0_2, y0_3, y0_4, y0_5, y0_6, y0_7, y0_8, y0_9, y0_10⟩ ⟨y1_0, y1_1, y1_2, y1_3, y1_4, y1_5, y1_6, y1_7, y1_8, y1_9, y1_10⟩).trans h⟩
    · cases h
/-! ### f90 loop.example/wharfdesk/laws.eqGateFieldS -/
noncomputable def X90 : Cx C := { K := KK, tk := lk tks, con := lkC [(110, con110)], conw := lkC [], inl := lkA [], hold := [], mp := lk mps, meth := lkS meths, off := 5898240 }
def F90 (n : Nat) : Cf := { N := n, keep := [0, 1, 4, 5, 10, 14, 26], live := lk [(0, [0, 1, 5])] }
def dec90 (rs : List (Bool × List (Lf C))) : Option (Bool) := match rs with
  | [(false, [.bool z0])] => some z0
  | _ => none
abbrev A90_0 : Type := List (C .e100) × List (C .e100) × Int
def s90_0 : A90_0 → St C := fun (x0_0, x0_1, x0_2) => { env := [(0, .one (.row .e100 x0_0)), (1, .one (.row .e100 x0_1)), (5, .one (.int .i64 x0_2))], objs := [], base := 0 }
noncomputable def r90_0 (n : Nat)  (rec0 : A90_0 → Option (Bool)) : A90_0 → Option (Bool) := fun (x0_0, x0_1, x0_2) =>
      cond (decide (x0_2 < (x0_0.length : Int)))
      (cond (decide (0 ≤ x0_2)) (Option.bind x0_0[x0_2.toNat]? fun x1 => cond (decide (0 ≤ x0_2)) (Option.bind x0_1[x0_2.toNat]? fun x2 => Option.bind (G110 x1 x2) fun r3 =>
      cond (!r3)
      (some (false))
      (rec0 (x0_0, x0_1, IntKind.i64.wrap (x0_2 + 1)))) none) none)
      (some (true))
noncomputable def LP90_0 (n : Nat)  (x : A90_0) : Option (Bool) := lpN (r90_0 n ) n x
noncomputable def MP90_0 (n : Nat)  (x : A90_0) : Option (Bool) := iter (fun rec S => run X90 (F90 n) (codeAt (bodyOf Go.Proofs.Try.f90) [1, 1, 0, 1, 0, 0]) 0 S (lopK rec (blkK 0 (seqK (run X90 (F90 n) (codeAt (bodyOf Go.Proofs.Try.f90) [1, 1, 1]) 0) (kTop X90 Go.Proofs.Try.f90 dec90))))) [0, 1, 5] n (s90_0 x)
theorem m90_0 (n : Nat)  (x : A90_0) : MP90_0 n  x = LP90_0 n  x := by
  refine iter_eq s90_0 (r90_0 n ) (fun rec0 x => ?_) n x
  obtain ⟨x0_0, x0_1, x0_2⟩ := x
  kernel_rfl
noncomputable def G90n (n : Nat) (a0 : List (C .e100)) (a1 : List (C .e100)) : Option (Bool) :=
      cond ((a0.length : Int) != (a1.length : Int))
      (some (false))
      (LP90_0 n  (a0, a1, 0))
theorem t90 (n : Nat) (a0 : List (C .e100)) (a1 : List (C .e100)) : runFn X90 (F90 n) Go.Proofs.Try.f90 [.one (.row .e100 a0), .one (.row .e100 a1)] dec90 = G90n n a0 a1 := by
  have h : runFn X90 (F90 n) Go.Proofs.Try.f90 [.one (.row .e100 a0), .one (.row .e100 a1)] dec90 =
      cond ((a0.length : Int) != (a1.length : Int))
      (some (false))
      (MP90_0 n  (a0, a1, 0)) := by kernel_rfl
  simp only [h, G90n, m90_0]
noncomputable def G90 (a0 : List (C .e100)) (a1 : List (C .e100)) : Option (Bool) := G90n fuel a0 a1
noncomputable def con90 : Con C := { R0 := Bool, ret := fun r => [(false, [.bool r])], g := fun vs => match vs with
  | [.one (.row .e100 y0), .one (.row .e100 y1)] => G90 y0 y1
  | _ => none }
theorem x90 : XOk Go.Proofs.Try.prog X90 := ⟨tks_ok, els_ok, mps_ok, meths_ok⟩
theorem q90 : Cons Go.Proofs.Try.prog X90 := ⟨lkR_ok (l := [(110, con110)]) ⟨c110, trivial⟩, lkW_ok (l := []) trivial, lkI_ok (l := []) trivial⟩
theorem c90 : ConOk Go.Proofs.Try.prog KK 90 con90 := by
  refine con_dec x90 q90 (by kernel_rfl) (f := 90) (fn := Go.Proofs.Try.f90) (c := bodyOf Go.Proofs.Try.f90) (by kernel_rfl) (by kernel_rfl) (by kernel_rfl) (nameB (by kernel_rfl)) con90 dec90 (fun rs r0 h => ?_) (fun vs r0 h => ?_)
  · unfold dec90 at h
    split at h
    · cases h; rfl
    · cases h
  · simp only [con90] at h
    split at h
    · rename_i y0 y1
      exact ⟨Nat.le_of_ble_eq_true (by kernel_rfl), F90 fuel, (t90 fuel y0 y1).trans h⟩
    · cases h
/-! ### f59 loop.example/wharfdesk/laws.eqGateShape -/
noncomputable def X59 : Cx C := { K := KK, tk := lk tks, con := lkC [(90, con90)], conw := lkC [], inl := lkA [], hold := [], mp := lk mps, meth := lkS meths, off := 3866624 }
def F59 (n : Nat) : Cf := { N := n, keep := [0, 1, 2, 3, 4, 9, 15], live := lk [] }
def dec59 (rs : List (Bool × List (Lf C))) : Option (Bool) := match rs with
  | [(false, [.bool z0])] => some z0
  | _ => none
noncomputable def G59n (n : Nat) (a0 : VGateShape) (a1 : VGateShape) : Option (Bool) :=
      cond (!decide (a0.Kind = a1.Kind))
      (some (false))
      (Option.bind (G90 a0.Fields a1.Fields) fun r1 =>
      cond (!r1)
      (some (false))
      (some (true)))
theorem t59 (n : Nat) (a0 : VGateShape) (a1 : VGateShape) : runFn X59 (F59 n) Go.Proofs.Try.f59 [.agg [.str a0.Kind, .row .e100 a0.Fields], .agg [.str a1.Kind, .row .e100 a1.Fields]] dec59 = G59n n a0 a1 := by
  kernel_rfl
noncomputable def G59 (a0 : VGateShape) (a1 : VGateShape) : Option (Bool) := G59n fuel a0 a1
noncomputable def con59 : Con C := { R0 := Bool, ret := fun r => [(false, [.bool r])], g := fun vs => match vs with
  | [.agg [.str y0_0, .row .e100 y0_1], .agg [.str y1_0, .row .e100 y1_1]] => G59 ⟨y0_0, y0_1⟩ ⟨y1_0, y1_1⟩
  | _ => none }
theorem x59 : XOk Go.Proofs.Try.prog X59 := ⟨tks_ok, els_ok, mps_ok, meths_ok⟩
theorem q59 : Cons Go.Proofs.Try.prog X59 := ⟨lkR_ok (l := [(90, con90)]) ⟨c90, trivial⟩, lkW_ok (l := []) trivial, lkI_ok (l := []) trivial⟩
theorem c59 : ConOk Go.Proofs.Try.prog KK 59 con59 := by
  refine con_dec x59 q59 (by kernel_rfl) (f := 59) (fn := Go.Proofs.Try.f59) (c := bodyOf Go.Proofs.Try.f59) (by kernel_rfl) (by kernel_rfl) (by kernel_rfl) (nameB (by kernel_rfl)) con59 dec59 (fun rs r0 h => ?_) (fun vs r0 h => ?_)
  · unfold dec59 at h
    split at h
    · cases h; rfl
    · cases h
  · simp only [con59] at h
    split at h
    · rename_i y0_0 y0_1 y1_0 y1_1
      exact ⟨Nat.le_of_ble_eq_true (by kernel_rfl), F59 fuel, (t59 fuel ⟨y0_0, y0_1⟩ ⟨y1_0, y1_1⟩).trans h⟩
    · cases h
/-! ### f21 loop.example/wharfdesk/laws.eqGateShapeS -/
noncomputable def X21 : Cx C := { K := KK, tk := lk tks, con := lkC [(59, con59)], conw := lkC [], inl := lkA [], hold := [], mp := lk mps, meth := lkS meths, off := 1376256 }
def F21 (n : Nat) : Cf := { N := n, keep := [0, 1, 4, 5, 10, 14, 26], live := lk [(0, [0, 1, 5])] }
def dec21 (rs : List (Bool × List (Lf C))) : Option (Bool) := match rs with
  | [(false, [.bool z0])] => some z0
  | _ => none
abbrev A21_0 : Type := List (C .e81) × List (C .e81) × Int
def s21_0 : A21_0 → St C := fun (x0_0, x0_1, x0_2) => { env := [(0, .one (.row .e81 x0_0)), (1, .one (.row .e81 x0_1)), (5, .one (.int .i64 x0_2))], objs := [], base := 0 }
noncomputable def r21_0 (n : Nat)  (rec0 : A21_0 → Option (Bool)) : A21_0 → Option (Bool) := fun (x0_0, x0_1, x0_2) =>
      cond (decide (x0_2 < (x0_0.length : Int)))
      (cond (decide (0 ≤ x0_2)) (Option.bind x0_0[x0_2.toNat]? fun x1 => cond (decide (0 ≤ x0_2)) (Option.bind x0_1[x0_2.toNat]? fun x2 => Option.bind (G59 x1 x2) fun r3 =>
      cond (!r3)
      (some (false))
      (rec0 (x0_0, x0_1, IntKind.i64.wrap (x0_2 + 1)))) none) none)
      (some (true))
noncomputable def LP21_0 (n : Nat)  (x : A21_0) : Option (Bool) := lpN (r21_0 n ) n x
noncomputable def MP21_0 (n : Nat)  (x : A21_0) : Option (Bool) := iter (fun rec S => run X21 (F21 n) (codeAt (bodyOf Go.Proofs.Try.f21) [1, 1, 0, 1, 0, 0]) 0 S (lopK rec (blkK 0 (seqK (run X21 (F21 n) (codeAt (bodyOf Go.Proofs.Try.f21) [1, 1, 1]) 0) (kTop X21 Go.Proofs.Try.f21 dec21))))) [0, 1, 5] n (s21_0 x)
theorem m21_0 (n : Nat)  (x : A21_0) : MP21_0 n  x = LP21_0 n  x := by
  refine iter_eq s21_0 (r21_0 n ) (fun rec0 x => ?_) n x
  obtain ⟨x0_0, x0_1, x0_2⟩ := x
  kernel_rfl
noncomputable def G21n (n : Nat) (a0 : List (C .e81)) (a1 : List (C .e81)) : Option (Bool) :=
      cond ((a0.length : Int) != (a1.length : Int))
      (some (false))
      (LP21_0 n  (a0, a1, 0))
theorem t21 (n : Nat) (a0 : List (C .e81)) (a1 : List (C .e81)) : runFn X21 (F21 n) Go.Proofs.Try.f21 [.one (.row .e81 a0), .one (.row .e81 a1)] dec21 = G21n n a0 a1 := by
  have h : runFn X21 (F21 n) Go.Proofs.Try.f21 [.one (.row .e81 a0), .one (.row .e81 a1)] dec21 =
      cond ((a0.length : Int) != (a1.length : Int))
      (some (false))
      (MP21_0 n  (a0, a1, 0)) := by kernel_rfl
  simp only [h, G21n, m21_0]
noncomputable def G21 (a0 : List (C .e81)) (a1 : List (C .e81)) : Option (Bool) := G21n fuel a0 a1
noncomputable def con21 : Con C := { R0 := Bool, ret := fun r => [(false, [.bool r])], g := fun vs => match vs with
  | [.one (.row .e81 y0), .one (.row .e81 y1)] => G21 y0 y1
  | _ => none }
theorem x21 : XOk Go.Proofs.Try.prog X21 := ⟨tks_ok, els_ok, mps_ok, meths_ok⟩
theorem q21 : Cons Go.Proofs.Try.prog X21 := ⟨lkR_ok (l := [(59, con59)]) ⟨c59, trivial⟩, lkW_ok (l := []) trivial, lkI_ok (l := []) trivial⟩
theorem c21 : ConOk Go.Proofs.Try.prog KK 21 con21 := by
  refine con_dec x21 q21 (by kernel_rfl) (f := 21) (fn := Go.Proofs.Try.f21) (c := bodyOf Go.Proofs.Try.f21) (by kernel_rfl) (by kernel_rfl) (by kernel_rfl) (nameB (by kernel_rfl)) con21 dec21 (fun rs r0 h => ?_) (fun vs r0 h => ?_)
  · unfold dec21 at h
    split at h
    · cases h; rfl
    · cases h
  · simp only [con21] at h
    split at h
    · rename_i y0 y1
      exact ⟨Nat.le_of_ble_eq_true (by kernel_rfl), F21 fuel, (t21 fuel y0 y1).trans h⟩
    · cases h
/-! ### f60 loop.example/wharfdesk/laws.eqGateMend -/
noncomputable def X60 : Cx C := { K := KK, tk := lk tks, con := lkC [], conw := lkC [], inl := lkA [], hold := [], mp := lk mps, meth := lkS meths, off := 3932160 }
def F60 (n : Nat) : Cf := { N := n, keep := [0, 1, 2, 3, 4, 9, 14, 19, 24, 29, 34], live := lk [] }
def dec60 (rs : List (Bool × List (Lf C))) : Option (Bool) := match rs with
  | [(false, [.bool z0])] => some z0
  | _ => none
noncomputable def G60n (n : Nat) (a0 : VGateMend) (a1 : VGateMend) : Option (Bool) :=
      cond (!decide (a0.Kind = a1.Kind))
      (some (false))
      (cond (!decide (a0.Field = a1.Field))
      (some (false))
      (cond (!decide (a0.When = a1.When))
      (some (false))
      (cond (!decide (a0.Is = a1.Is))
      (some (false))
      (cond (!decide (a0.Put = a1.Put))
      (some (false))
      (cond (!decide (a0.From = a1.From))
      (some (false))
      (some (true)))))))
theorem t60 (n : Nat) (a0 : VGateMend) (a1 : VGateMend) : runFn X60 (F60 n) Go.Proofs.Try.f60 [.agg [.str a0.Kind, .str a0.Field, .str a0.When, .str a0.Is, .str a0.Put, .str a0.From], .agg [.str a1.Kind, .str a1.Field, .str a1.When, .str a1.Is, .str a1.Put, .str a1.From]] dec60 = G60n n a0 a1 := by
  kernel_rfl
noncomputable def G60 (a0 : VGateMend) (a1 : VGateMend) : Option (Bool) := G60n fuel a0 a1
noncomputable def con60 : Con C := { R0 := Bool, ret := fun r => [(false, [.bool r])], g := fun vs => match vs with
  | [.agg [.str y0_0, .str y0_1, .str y0_2, .str y0_3, .str y0_4, .str y0_5], .agg [.str y1_0, .str y1_1, .str y1_2, .str y1_3, .str y1_4, .str y1_5]] => G60 ⟨y0_0, y0_1, y0_2, y0_3, y0_4, y0_5⟩ ⟨y1_0, y1_1, y1_2, y1_3, y1_4, y1_5⟩
  | _ => none }
theorem x60 : XOk Go.Proofs.Try.prog X60 := ⟨tks_ok, els_ok, mps_ok, meths_ok⟩
theorem q60 : Cons Go.Proofs.Try.prog X60 := ⟨lkR_ok (l := []) trivial, lkW_ok (l := []) trivial, lkI_ok (l := []) trivial⟩
theorem c60 : ConOk Go.Proofs.Try.prog KK 60 con60 := by
  refine con_dec x60 q60 (by kernel_rfl) (f := 60) (fn := Go.Proofs.Try.f60) (c := bodyOf Go.Proofs.Try.f60) (by kernel_rfl) (by kernel_rfl) (by kernel_rfl) (nameB (by kernel_rfl)) con60 dec60 (fun rs r0 h => ?_) (fun vs r0 h => ?_)
  · unfold dec60 at h
    split at h
    · cases h; rfl
    · cases h
  · simp only [con60] at h
    split at h
    · rename_i y0_0 y0_1 y0_2 y0_3 y0_4 y0_5 y1_0 y1_1 y1_2 y1_3 y1_4 y1_5
      exact ⟨Nat.le_of_ble_eq_true (by kernel_rfl), F60 fuel, (t60 fuel ⟨y0_0, y0_1, y0_2, y0_3, y0_4, y0_5⟩ ⟨y1_0, y1_1, y1_2, y1_3, y1_4, y1_5⟩).trans h⟩
    · cases h
/-! ### f22 loop.example/wharfdesk/laws.eqGateMendS -/
noncomputable def X22 : Cx C := { K := KK, tk := lk tks, con := lkC [(60, con60)], conw := lkC [], inl := lkA [], hold := [], mp := lk mps, meth := lkS meths, off := 1441792 }
def F22 (n : Nat) : Cf := { N := n, keep := [0, 1, 4, 5, 10, 14, 26], live := lk [(0, [0, 1, 5])] }
def dec22 (rs : List (Bool × List (Lf C))) : Option (Bool) := match rs with
  | [(false, [.bool z0])] => some z0
  | _ => none
abbrev A22_0 : Type := List (C .e83) × List (C .e83) × Int
def s22_0 : A22_0 → St C := fun (x0_0, x0_1, x0_2) => { env := [(0, .one (.row .e83 x0_0)), (1, .one (.row .e83 x0_1)), (5, .one (.int .i64 x0_2))], objs := [], base := 0 }
noncomputable def r22_0 (n : Nat)  (rec0 : A22_0 → Option (Bool)) : A22_0 → Option (Bool) := fun (x0_0, x0_1, x0_2) =>
      cond (decide (x0_2 < (x0_0.length : Int)))
      (cond (decide (0 ≤ x0_2)) (Option.bind x0_0[x0_2.toNat]? fun x1 => cond (decide (0 ≤ x0_2)) (Option.bind x0_1[x0_2.toNat]? fun x2 => Option.bind (G60 x1 x2) fun r3 =>
      cond (!r3)
      (some (false))
      (rec0 (x0_0, x0_1, IntKind.i64.wrap (x0_2 + 1)))) none) none)
      (some (true))
noncomputable def LP22_0 (n : Nat)  (x : A22_0) : Option (Bool) := lpN (r22_0 n ) n x
noncomputable def MP22_0 (n : Nat)  (x : A22_0) : Option (Bool) := iter (fun rec S => run X22 (F22 n) (codeAt (bodyOf Go.Proofs.Try.f22) [1, 1, 0, 1, 0, 0]) 0 S (lopK rec (blkK 0 (seqK (run X22 (F22 n) (codeAt (bodyOf Go.Proofs.Try.f22) [1, 1, 1]) 0) (kTop X22 Go.Proofs.Try.f22 dec22))))) [0, 1, 5] n (s22_0 x)
theorem m22_0 (n : Nat)  (x : A22_0) : MP22_0 n  x = LP22_0 n  x := by
  refine iter_eq s22_0 (r22_0 n ) (fun rec0 x => ?_) n x
  obtain ⟨x0_0, x0_1, x0_2⟩ := x
  kernel_rfl
noncomputable def G22n (n : Nat) (a0 : List (C .e83)) (a1 : List (C .e83)) : Option (Bool) :=
      cond ((a0.length : Int) != (a1.length : Int))
      (some (false))
      (LP22_0 n  (a0, a1, 0))
theorem t22 (n : Nat) (a0 : List (C .e83)) (a1 : List (C .e83)) : runFn X22 (F22 n) Go.Proofs.Try.f22 [.one (.row .e83 a0), .one (.row .e83 a1)] dec22 = G22n n a0 a1 := by
  have h : runFn X22 (F22 n) Go.Proofs.Try.f22 [.one (.row .e83 a0), .one (.row .e83 a1)] dec22 =
      cond ((a0.length : Int) != (a1.length : Int))
      (some (false))
      (MP22_0 n  (a0, a1, 0)) := by kernel_rfl
  simp only [h, G22n, m22_0]
noncomputable def G22 (a0 : List (C .e83)) (a1 : List (C .e83)) : Option (Bool) := G22n fuel a0 a1
noncomputable def con22 : Con C := { R0 := Bool, ret := fun r => [(false, [.bool r])], g := fun vs => match vs with
  | [.one (.row .e83 y0), .one (.row .e83 y1)] => G22 y0 y1
  | _ => none }
theorem x22 : XOk Go.Proofs.Try.prog X22 := ⟨tks_ok, els_ok, mps_ok, meths_ok⟩
theorem q22 : Cons Go.Proofs.Try.prog X22 := ⟨lkR_ok (l := [(60, con60)]) ⟨c60, trivial⟩, lkW_ok (l := []) trivial, lkI_ok (l := []) trivial⟩
theorem c22 : ConOk Go.Proofs.Try.prog KK 22 con22 := by
  refine con_dec x22 q22 (by kernel_rfl) (f := 22) (fn := Go.Proofs.Try.f22) (c := bodyOf Go.Proofs.Try.f22) (by kernel_rfl) (by kernel_rfl) (by kernel_rfl) (nameB (by kernel_rfl)) con22 dec22 (fun rs r0 h => ?_) (fun vs r0 h => ?_)
  · unfold dec22 at h
    split at h
    · cases h; rfl
    · cases h
  · simp only [con22] at h
    split at h
    · rename_i y0 y1
      exact ⟨Nat.le_of_ble_eq_true (by kernel_rfl), F22 fuel, (t22 fuel y0 y1).trans h⟩
    · cases h
/-! ### f61 loop.example/wharfdesk/laws.markText -/
noncomputable def X61 : Cx C := { K := KK, tk := lk tks, con := lkC [], conw := lkC [], inl := lkA [], hold := [], mp := lk mps, meth := lkS meths, off := 3997696 }
def F61 (n : Nat) : Cf := { N := n, keep := [0, 2, 3, 5, 7], live := lk [(0, [0, 3])] }
def dec61 (rs : List (Bool × List (Lf C))) : Option (ByteArray) := match rs with
  | [(false, [.str z0])] => some z0
  | _ => none
abbrev A61_0 : Type := Int × ByteArray
def s61_0 : A61_0 → St C := fun (x0_0, x0_1) => { env := [(0, .one (.int .i64 x0_0)), (3, .one (.str x0_1))], objs := [], base := 0 }
noncomputable def r61_0 (n : Nat)  (rec0 : A61_0 → Option (ByteArray)) : A61_0 → Option (ByteArray) := fun (x0_0, x0_1) =>
      cond (decide (x0_0 > 0))
      (cond (decide (10 = 0)) none (cond (decide ((strOf KK .e5 (([IntKind.u8.wrap (IntKind.i64.wrap (48 + (x0_0.tmod 10)))] : List (C .e5)))).size + x0_1.size ≤ 9223372036854775807)) (cond (decide (10 = 0)) none (rec0 (IntKind.i64.wrap (x0_0.tdiv 10), (strOf KK .e5 (([IntKind.u8.wrap (IntKind.i64.wrap (48 + (x0_0.tmod 10)))] : List (C .e5)))) ++ x0_1))) none))
      (cond (decide ((⟨#[109]⟩ : ByteArray).size + x0_1.size ≤ 9223372036854775807)) (some ((⟨#[109]⟩ : ByteArray) ++ x0_1)) none)
noncomputable def LP61_0 (n : Nat)  (x : A61_0) : Option (ByteArray) := lpN (r61_0 n ) n x
noncomputable def MP61_0 (n : Nat)  (x : A61_0) : Option (ByteArray) := iter (fun rec S => run X61 (F61 n) (codeAt (bodyOf Go.Proofs.Try.f61) [1, 1, 1, 0, 0, 0]) 0 S (lopK rec (blkK 0 (seqK (run X61 (F61 n) (codeAt (bodyOf Go.Proofs.Try.f61) [1, 1, 1, 1]) 0) (kTop X61 Go.Proofs.Try.f61 dec61))))) [0, 3] n (s61_0 x)
theorem m61_0 (n : Nat)  (x : A61_0) : MP61_0 n  x = LP61_0 n  x := by
  refine iter_eq s61_0 (r61_0 n ) (fun rec0 x => ?_) n x
  obtain ⟨x0_0, x0_1⟩ := x
  kernel_rfl
noncomputable def G61n (n : Nat) (a0 : Int) : Option (ByteArray) :=
      cond (decide (a0 ≤ 0))
      (some ((⟨#[109, 48]⟩ : ByteArray)))
      (LP61_0 n  (a0, (⟨#[]⟩ : ByteArray)))
theorem t61 (n : Nat) (a0 : Int) : runFn X61 (F61 n) Go.Proofs.Try.f61 [.one (.int .i64 a0)] dec61 = G61n n a0 := by
  have h : runFn X61 (F61 n) Go.Proofs.Try.f61 [.one (.int .i64 a0)] dec61 =
      cond (decide (a0 ≤ 0))
      (some ((⟨#[109, 48]⟩ : ByteArray)))
      (MP61_0 n  (a0, (⟨#[]⟩ : ByteArray))) := by kernel_rfl
  simp only [h, G61n, m61_0]
noncomputable def G61 (a0 : Int) : Option (ByteArray) := G61n fuel a0
noncomputable def con61 : Con C := { R0 := ByteArray, ret := fun r => [(false, [.str r])], g := fun vs => match vs with
  | [.one (.int .i64 y0)] => G61 y0
  | _ => none }
theorem x61 : XOk Go.Proofs.Try.prog X61 := ⟨tks_ok, els_ok, mps_ok, meths_ok⟩
theorem q61 : Cons Go.Proofs.Try.prog X61 := ⟨lkR_ok (l := []) trivial, lkW_ok (l := []) trivial, lkI_ok (l := []) trivial⟩
theorem c61 : ConOk Go.Proofs.Try.prog KK 61 con61 := by
  refine con_dec x61 q61 (by kernel_rfl) (f := 61) (fn := Go.Proofs.Try.f61) (c := bodyOf Go.Proofs.Try.f61) (by kernel_rfl) (by kernel_rfl) (by kernel_rfl) (nameB (by kernel_rfl)) con61 dec61 (fun rs r0 h => ?_) (fun vs r0 h => ?_)
  · unfold dec61 at h
    split at h
    · cases h; rfl
    · cases h
  · simp only [con61] at h
    split at h
    · rename_i y0
      exact ⟨Nat.le_of_ble_eq_true (by kernel_rfl), F61 fuel, (t61 fuel y0).trans h⟩
    · cases h
/-! ### f63 loop.example/wharfdesk/laws.markStringS -/
noncomputable def X63 : Cx C := { K := KK, tk := lk tks, con := lkC [(61, con61)], conw := lkC [], inl := lkA [], hold := [], mp := lk mps, meth := lkS meths, off := 4128768 }
def F63 (n : Nat) : Cf := { N := n, keep := [0, 1, 4, 5, 9], live := lk [(0, [0, 1, 5])] }
def dec63 (os : List (Lf C)) (rs : List (Bool × List (Lf C))) : Option (List (C .e9) × Int) := match os, rs with
  | [.row .e9 o0], [(false, [.int .i64 z0])] => some (o0, z0)
  | _, _ => none
abbrev A63_0 : Type := List (C .e9) × Int × Int
def s63_0 : A63_0 → St C := fun (x0_0, x0_1, x0_2) => { env := [(0, .one (.ref 100000 [])), (1, .one (.int .i64 x0_1)), (5, .one (.int .i64 x0_2)), (90000, .frame), (90001, .hdr 100000 0)], objs := [(100000, .row .e9 x0_0 false)], base := 0 }
noncomputable def r63_0 (n : Nat)  (rec0 : A63_0 → Option (List (C .e9) × Int)) : A63_0 → Option (List (C .e9) × Int) := fun (x0_0, x0_1, x0_2) =>
      cond (decide (x0_2 < (x0_0.length : Int)))
      (Option.bind (G61 x0_1) fun r1 =>
      cond (decide (0 ≤ x0_2)) (cond (decide (x0_2 < (x0_0.length : Int))) (Option.bind x0_0[x0_2.toNat]? fun x2 => rec0 (x0_0.set x0_2.toNat r1, IntKind.i64.wrap (x0_1 + 1), IntKind.i64.wrap (x0_2 + 1))) none) none)
      (some (x0_0, x0_1))
noncomputable def LP63_0 (n : Nat)  (x : A63_0) : Option (List (C .e9) × Int) := lpN (r63_0 n ) n x
noncomputable def MP63_0 (kp : Nat → Prop) (kh : Nat → Option Obj) (hd : Nat → Value) (n : Nat)  (x : A63_0) : Option (List (C .e9) × Int) := iter (fun rec S => run (X63.gh kp kh hd) (F63 n) (codeAt (bodyOf Go.Proofs.Try.f63) [1, 0, 1, 0, 0]) 0 S (lopK rec (blkK 0 (seqK (run (X63.gh kp kh hd) (F63 n) (codeAt (bodyOf Go.Proofs.Try.f63) [1, 1]) 0) (kTopW (X63.gh kp kh hd) Go.Proofs.Try.f63 [true, false] dec63))))) [0, 1, 5] n (s63_0 x)
theorem m63_0 (kp : Nat → Prop) (kh : Nat → Option Obj) (hd : Nat → Value) (n : Nat)  (x : A63_0) : MP63_0 kp kh hd n  x = LP63_0 n  x := by
  refine iter_eq s63_0 (r63_0 n ) (fun rec0 x => ?_) n x
  obtain ⟨x0_0, x0_1, x0_2⟩ := x
  kernel_rfl
noncomputable def G63n (n : Nat) (a0 : List (C .e9)) (a1 : Int) : Option (List (C .e9) × Int) :=
      LP63_0 n  (a0, a1, 0)
theorem t63 (kp : Nat → Prop) (kh : Nat → Option Obj) (hd : Nat → Value) (n : Nat) (a0 : List (C .e9)) (a1 : Int) : runFnW (X63.gh kp kh hd) (F63 n) Go.Proofs.Try.f63 [(false, [.row .e9 a0]), (false, [.int .i64 a1])] dec63 = G63n n a0 a1 := by
  have h : runFnW (X63.gh kp kh hd) (F63 n) Go.Proofs.Try.f63 [(false, [.row .e9 a0]), (false, [.int .i64 a1])] dec63 =
      MP63_0 kp kh hd n  (a0, a1, 0) := by kernel_rfl
  simp only [h, G63n, m63_0]
noncomputable def G63 (a0 : List (C .e9)) (a1 : Int) : Option (List (C .e9) × Int) := G63n fuel a0 a1
noncomputable def con63 : ConW C := { R0 := List (C .e9) × Int, out := fun r => [.row .e9 r.1], ret := fun r => [(false, [.int .i64 r.2])], g := fun rs => match rs with
  | [(false, [.row .e9 y0]), (false, [.int .i64 y1])] => G63 y0 y1
  | _ => none }
theorem x63 : XOk Go.Proofs.Try.prog X63 := ⟨tks_ok, els_ok, mps_ok, meths_ok⟩
theorem q63 : Cons Go.Proofs.Try.prog X63 := ⟨lkR_ok (l := [(61, con61)]) ⟨c61, trivial⟩, lkW_ok (l := []) trivial, lkI_ok (l := []) trivial⟩
theorem c63 : ConWOk Go.Proofs.Try.prog KK 63 con63 := by
  refine conw_of x63 q63 (by kernel_rfl) (f := 63) (fn := Go.Proofs.Try.f63) (c := bodyOf Go.Proofs.Try.f63) (by kernel_rfl) (by kernel_rfl) (by kernel_rfl) (nameB (by kernel_rfl)) con63 dec63 (fun os rs r0 h => ?_) (fun rs r0 h => ?_)
  · unfold dec63 at h
    split at h
    · cases h; exact ⟨rfl, rfl⟩
    · cases h
  · simp only [con63] at h
    split at h
    · rename_i y0 y1
      exact ⟨Nat.le_of_ble_eq_true (by kernel_rfl), F63 fuel, fun kp kh hd => (t63 kp kh hd fuel y0 y1).trans h⟩
    · cases h
/-! ### f62 loop.example/wharfdesk/laws.markGateFieldS -/
noncomputable def X62 : Cx C := { K := KK, tk := lk tks, con := lkC [(61, con61)], conw := lkC [(63, con63)], inl := lkA [], hold := [], mp := lk mps, meth := lkS meths, off := 4063232 }
def F62 (n : Nat) : Cf := { N := n, keep := [0, 1, 4, 5, 9], live := lk [(0, [0, 1, 5])] }
def dec62 (os : List (Lf C)) (rs : List (Bool × List (Lf C))) : Option (List (C .e100) × Int) := match os, rs with
  | [.row .e100 o0], [(false, [.int .i64 z0])] => some (o0, z0)
  | _, _ => none
abbrev A62_0 : Type := List (C .e100) × Int × Int
def s62_0 : A62_0 → St C := fun (x0_0, x0_1, x0_2) => { env := [(0, .one (.ref 100000 [])), (1, .one (.int .i64 x0_1)), (5, .one (.int .i64 x0_2)), (90000, .frame), (90001, .hdr 100000 0)], objs := [(100000, .row .e100 x0_0 false)], base := 0 }
noncomputable def r62_0 (n : Nat)  (rec0 : A62_0 → Option (List (C .e100) × Int)) : A62_0 → Option (List (C .e100) × Int) := fun (x0_0, x0_1, x0_2) =>
      cond (decide (x0_2 < (x0_0.length : Int)))
      (Option.bind (G61 x0_1) fun r1 =>
      cond (decide (0 ≤ x0_2)) (cond (decide (x0_2 < (x0_0.length : Int))) (Option.bind x0_0[x0_2.toNat]? fun x2 => cond (decide (0 ≤ x0_2)) (cond (decide (x0_2 < ((x0_0.set x0_2.toNat (⟨r1, x2.Kind, x2.Least, x2.Most, x2.Words, x2.To, x2.Role, x2.Must, x2.Fixed, x2.Default, x2.Weighs⟩ : VGateField)).length : Int))) (Option.bind (x0_0.set x0_2.toNat (⟨r1, x2.Kind, x2.Least, x2.Most, x2.Words, x2.To, x2.Role, x2.Must, x2.Fixed, x2.Default, x2.Weighs⟩ : VGateField))[x0_2.toNat]? fun x3 => cond (decide (0 ≤ x0_2)) (cond (decide (x0_2 < (((x0_0.set x0_2.toNat (⟨r1, x2.Kind, x2.Least, x2.Most, x2.Words, x2.To, x2.Role, x2.Must, x2.Fixed, x2.Default, x2.Weighs⟩ : VGateField)).set x0_2.toNat ((⟨x3.Name, IntKind.i64.wrap (x0_1 + 1), x3.Least, x3.Most, x3.Words, x3.To, x3.Role, x3.Must, x3.Fixed, x3.Default, x3.Weighs⟩ : VGateField))).length : Int))) (Option.bind ((x0_0.set x0_2.toNat (⟨r1, x2.Kind, x2.Least, x2.Most, x2.Words, x2.To, x2.Role, x2.Must, x2.Fixed, x2.Default, x2.Weighs⟩ : VGateField)).set x0_2.toNat ((⟨x3.Name, IntKind.i64.wrap (x0_1 + 1), x3.Least, x3.Most, x3.Words, x3.To, x3.Role, x3.Must, x3.Fixed, x3.Default, x3.Weighs⟩ : VGateField)))[x0_2.toNat]? fun x4 => cond (decide (0 ≤ x0_2)) (cond (decide (x0_2 < ((((x0_0.set x0_2.toNat (⟨r1, x2.Kind, x2.Least, x2.Most, x2.Words, x2.To, x2.Role, x2.Must, x2.Fixed, x2.Default, x2.Weighs⟩ : VGateField)).set x0_2.toNat ((⟨x3.Name, IntKind.i64.wrap (x0_1 + 1), x3.Least, x3.Most, x3.Words, x3.To, x3.Role, x3.Must, x3.Fixed, x3.Default, x3.Weighs⟩ : VGateField))).set x0_2.toNat ((⟨x4.Name, x4.Kind, IntKind.i64.wrap ((IntKind.i64.wrap (x0_1 + 1)) + 1), x4.Most, x4.Words, x4.To, x4.Role, x4.Must, x4.Fixed, x4.Default, x4.Weighs⟩ : VGateField))).length : Int))) (Option.bind (((x0_0.set x0_2.toNat (⟨r1, x2.Kind, x2.Least, x2.Most, x2.Words, x2.To, x2.Role, x2.Must, x2.Fixed, x2.Default, x2.Weighs⟩ : VGateField)).set x0_2.toNat ((⟨x3.Name, IntKind.i64.wrap (x0_1 + 1), x3.Least, x3.Most, x3.Words, x3.To, x3.Role, x3.Must, x3.Fixed, x3.Default, x3.Weighs⟩ : VGateField))).set x0_2.toNat ((⟨x4.Name, x4.Kind, IntKind.i64.wrap ((IntKind.i64.wrap (x0_1 + 1)) + 1), x4.Most, x4.Words, x4.To, x4.Role, x4.Must, x4.Fixed, x4.Default, x4.Weighs⟩ : VGateField)))[x0_2.toNat]? fun x5 => cond (decide (0 ≤ x0_2)) (cond (decide (x0_2 < (((((x0_0.set x0_2.toNat (⟨r1, x2.Kind, x2.Least, x2.Most, x2.Words, x2.To, x2.Role, x2.Must, x2.Fixed, x2.Default, x2.Weighs⟩ : VGateField)).set x0_2.toNat ((⟨x3.Name, IntKind.i64.wrap (x0_1 + 1), x3.Least, x3.Most, x3.Words, x3.To, x3.Role, x3.Must, x3.Fixed, x3.Default, x3.Weighs⟩ : VGateField))).set x0_2.toNat ((⟨x4.Name, x4.Kind, IntKind.i64.wrap ((IntKind.i64.wrap (x0_1 + 1)) + 1), x4.Most, x4.Words, x4.To, x4.Role, x4.Must, x4.Fixed, x4.Default, x4.Weighs⟩ : VGateField))).set x0_2.toNat ((⟨x5.Name, x5.Kind, x5.Least, IntKind.i64.wrap ((IntKind.i64.wrap ((IntKind.i64.wrap (x0_1 + 1)) + 1)) + 1), x5.Words, x5.To, x5.Role, x5.Must, x5.Fixed, x5.Default, x5.Weighs⟩ : VGateField))).length : Int))) (Option.bind ((((x0_0.set x0_2.toNat (⟨r1, x2.Kind, x2.Least, x2.Most, x2.Words, x2.To, x2.Role, x2.Must, x2.Fixed, x2.Default, x2.Weighs⟩ : VGateField)).set x0_2.toNat ((⟨x3.Name, IntKind.i64.wrap (x0_1 + 1), x3.Least, x3.Most, x3.Words, x3.To, x3.Role, x3.Must, x3.Fixed, x3.Default, x3.Weighs⟩ : VGateField))).set x0_2.toNat ((⟨x4.Name, x4.Kind, IntKind.i64.wrap ((IntKind.i64.wrap (x0_1 + 1)) + 1), x4.Most, x4.Words, x4.To, x4.Role, x4.Must, x4.Fixed, x4.Default, x4.Weighs⟩ : VGateField))).set x0_2.toNat ((⟨x5.Name, x5.Kind, x5.Least, IntKind.i64.wrap ((IntKind.i64.wrap ((IntKind.i64.wrap (x0_1 + 1)) + 1)) + 1), x5.Words, x5.To, x5.Role, x5.Must, x5.Fixed, x5.Default, x5.Weighs⟩ : VGateField)))[x0_2.toNat]? fun x6 => Option.bind ((((x0_0.set x0_2.toNat (⟨r1, x2.Kind, x2.Least, x2.Most, x2.Words, x2.To, x2.Role, x2.Must, x2.Fixed, x2.Default, x2.Weighs⟩ : VGateField)).set x0_2.toNat ((⟨x3.Name, IntKind.i64.wrap (x0_1 + 1), x3.Least, x3.Most, x3.Words, x3.To, x3.Role, x3.Must, x3.Fixed, x3.Default, x3.Weighs⟩ : VGateField))).set x0_2.toNat ((⟨x4.Name, x4.Kind, IntKind.i64.wrap ((IntKind.i64.wrap (x0_1 + 1)) + 1), x4.Most, x4.Words, x4.To, x4.Role, x4.Must, x4.Fixed, x4.Default, x4.Weighs⟩ : VGateField))).set x0_2.toNat ((⟨x5.Name, x5.Kind, x5.Least, IntKind.i64.wrap ((IntKind.i64.wrap ((IntKind.i64.wrap (x0_1 + 1)) + 1)) + 1), x5.Words, x5.To, x5.Role, x5.Must, x5.Fixed, x5.Default, x5.Weighs⟩ : VGateField)))[x0_2.toNat]? fun x7 => Option.bind (G63 x7.Words (IntKind.i64.wrap ((IntKind.i64.wrap ((IntKind.i64.wrap ((IntKind.i64.wrap (x0_1 + 1)) + 1)) + 1)) + 1))) fun r8 =>
      Option.bind ((((x0_0.set x0_2.toNat (⟨r1, x2.Kind, x2.Least, x2.Most, x2.Words, x2.To, x2.Role, x2.Must, x2.Fixed, x2.Default, x2.Weighs⟩ : VGateField)).set x0_2.toNat ((⟨x3.Name, IntKind.i64.wrap (x0_1 + 1), x3.Least, x3.Most, x3.Words, x3.To, x3.Role, x3.Must, x3.Fixed, x3.Default, x3.Weighs⟩ : VGateField))).set x0_2.toNat ((⟨x4.Name, x4.Kind, IntKind.i64.wrap ((IntKind.i64.wrap (x0_1 + 1)) + 1), x4.Most, x4.Words, x4.To, x4.Role, x4.Must, x4.Fixed, x4.Default, x4.Weighs⟩ : VGateField))).set x0_2.toNat ((⟨x5.Name, x5.Kind, x5.Least, IntKind.i64.wrap ((IntKind.i64.wrap ((IntKind.i64.wrap (x0_1 + 1)) + 1)) + 1), x5.Words, x5.To, x5.Role, x5.Must, x5.Fixed, x5.Default, x5.Weighs⟩ : VGateField)))[x0_2.toNat]? fun x9 => Option.bind (G61 r8.2) fun r10 =>
      cond (decide (0 ≤ x0_2)) (cond (decide (x0_2 < ((((((x0_0.set x0_2.toNat (⟨r1, x2.Kind, x2.Least, x2.Most, x2.Words, x2.To, x2.Role, x2.Must, x2.Fixed, x2.Default, x2.Weighs⟩ : VGateField)).set x0_2.toNat ((⟨x3.Name, IntKind.i64.wrap (x0_1 + 1), x3.Least, x3.Most, x3.Words, x3.To, x3.Role, x3.Must, x3.Fixed, x3.Default, x3.Weighs⟩ : VGateField))).set x0_2.toNat ((⟨x4.Name, x4.Kind, IntKind.i64.wrap ((IntKind.i64.wrap (x0_1 + 1)) + 1), x4.Most, x4.Words, x4.To, x4.Role, x4.Must, x4.Fixed, x4.Default, x4.Weighs⟩ : VGateField))).set x0_2.toNat ((⟨x5.Name, x5.Kind, x5.Least, IntKind.i64.wrap ((IntKind.i64.wrap ((IntKind.i64.wrap (x0_1 + 1)) + 1)) + 1), x5.Words, x5.To, x5.Role, x5.Must, x5.Fixed, x5.Default, x5.Weighs⟩ : VGateField))).set x0_2.toNat (⟨x9.Name, x9.Kind, x9.Least, x9.Most, r8.1, x9.To, x9.Role, x9.Must, x9.Fixed, x9.Default, x9.Weighs⟩ : VGateField)).length : Int))) (Option.bind (((((x0_0.set x0_2.toNat (⟨r1, x2.Kind, x2.Least, x2.Most, x2.Words, x2.To, x2.Role, x2.Must, x2.Fixed, x2.Default, x2.Weighs⟩ : VGateField)).set x0_2.toNat ((⟨x3.Name, IntKind.i64.wrap (x0_1 + 1), x3.Least, x3.Most, x3.Words, x3.To, x3.Role, x3.Must, x3.Fixed, x3.Default, x3.Weighs⟩ : VGateField))).set x0_2.toNat ((⟨x4.Name, x4.Kind, IntKind.i64.wrap ((IntKind.i64.wrap (x0_1 + 1)) + 1), x4.Most, x4.Words, x4.To, x4.Role, x4.Must, x4.Fixed, x4.Default, x4.Weighs⟩ : VGateField))).set x0_2.toNat ((⟨x5.Name, x5.Kind, x5.Least, IntKind.i64.wrap ((IntKind.i64.wrap ((IntKind.i64.wrap (x0_1 + 1)) + 1)) + 1), x5.Words, x5.To, x5.Role, x5.Must, x5.Fixed, x5.Default, x5.Weighs⟩ : VGateField))).set x0_2.toNat (⟨x9.Name, x9.Kind, x9.Least, x9.Most, r8.1, x9.To, x9.Role, x9.Must, x9.Fixed, x9.Default, x9.Weighs⟩ : VGateField))[x0_2.toNat]? fun x11 => cond (decide (0 ≤ x0_2)) (cond (decide (x0_2 < (((((((x0_0.set x0_2.toNat (⟨r1, x2.Kind, x2.Least, x2.Most, x2.Words, x2.To, x2.Role, x2.Must, x2.Fixed, x2.Default, x2.Weighs⟩ : VGateField)).set x0_2.toNat ((⟨x3.Name, IntKind.i64.wrap (x0_1 + 1), x3.Least, x3.Most, x3.Words, x3.To, x3.Role, x3.Must, x3.Fixed, x3.Default, x3.Weighs⟩ : VGateField))).set x0_2.toNat ((⟨x4.Name, x4.Kind, IntKind.i64.wrap ((IntKind.i64.wrap (x0_1 + 1)) + 1), x4.Most, x4.Words, x4.To, x4.Role, x4.Must, x4.Fixed, x4.Default, x4.Weighs⟩ : VGateField))).set x0_2.toNat ((⟨x5.Name, x5.Kind, x5.Least, IntKind.i64.wrap ((IntKind.i64.wrap ((IntKind.i64.wrap (x0_1 + 1)) + 1)) + 1), x5.Words, x5.To, x5.Role, x5.Must, x5.Fixed, x5.Default, x5.Weighs⟩ : VGateField))).set x0_2.toNat (⟨x9.Name, x9.Kind, x9.Least, x9.Most, r8.1, x9.To, x9.Role, x9.Must, x9.Fixed, x9.Default, x9.Weighs⟩ : VGateField)).set x0_2.toNat (⟨x11.Name, x11.Kind, x11.Least, x11.Most, x11.Words, r10, x11.Role, x11.Must, x11.Fixed, x11.Default, x11.Weighs⟩ : VGateField)).length : Int))) (Option.bind ((((((x0_0.set x0_2.toNat (⟨r1, x2.Kind, x2.Least, x2.Most, x2.Words, x2.To, x2.Role, x2.Must, x2.Fixed, x2.Default, x2.Weighs⟩ : VGateField)).set x0_2.toNat ((⟨x3.Name, IntKind.i64.wrap (x0_1 + 1), x3.Least, x3.Most, x3.Words, x3.To, x3.Role, x3.Must, x3.Fixed, x3.Default, x3.Weighs⟩ : VGateField))).set x0_2.toNat ((⟨x4.Name, x4.Kind, IntKind.i64.wrap ((IntKind.i64.wrap (x0_1 + 1)) + 1), x4.Most, x4.Words, x4.To, x4.Role, x4.Must, x4.Fixed, x4.Default, x4.Weighs⟩ : VGateField))).set x0_2.toNat ((⟨x5.Name, x5.Kind, x5.Least, IntKind.i64.wrap ((IntKind.i64.wrap ((IntKind.i64.wrap (x0_1 + 1)) + 1)) + 1), x5.Words, x5.To, x5.Role, x5.Must, x5.Fixed, x5.Default, x5.Weighs⟩ : VGateField))).set x0_2.toNat (⟨x9.Name, x9.Kind, x9.Least, x9.Most, r8.1, x9.To, x9.Role, x9.Must, x9.Fixed, x9.Default, x9.Weighs⟩ : VGateField)).set x0_2.toNat (⟨x11.Name, x11.Kind, x11.Least, x11.Most, x11.Words, r10, x11.Role, x11.Must, x11.Fixed, x11.Default, x11.Weighs⟩ : VGateField))[x0_2.toNat]? fun x12 => cond (decide (3 = 0)) none (cond (decide (0 ≤ x0_2)) (cond (decide (x0_2 < ((((((((x0_0.set x0_2.toNat (⟨r1, x2.Kind, x2.Least, x2.Most, x2.Words, x2.To, x2.Role, x2.Must, x2.Fixed, x2.Default, x2.Weighs⟩ : VGateField)).set x0_2.toNat ((⟨x3.Name, IntKind.i64.wrap (x0_1 + 1), x3.Least, x3.Most, x3.Words, x3.To, x3.Role, x3.Must, x3.Fixed, x3.Default, x3.Weighs⟩ : VGateField))).set x0_2.toNat ((⟨x4.Name, x4.Kind, IntKind.i64.wrap ((IntKind.i64.wrap (x0_1 + 1)) + 1), x4.Most, x4.Words, x4.To, x4.Role, x4.Must, x4.Fixed, x4.Default, x4.Weighs⟩ : VGateField))).set x0_2.toNat ((⟨x5.Name, x5.Kind, x5.Least, IntKind.i64.wrap ((IntKind.i64.wrap ((IntKind.i64.wrap (x0_1 + 1)) + 1)) + 1), x5.Words, x5.To, x5.Role, x5.Must, x5.Fixed, x5.Default, x5.Weighs⟩ : VGateField))).set x0_2.toNat (⟨x9.Name, x9.Kind, x9.Least, x9.Most, r8.1, x9.To, x9.Role, x9.Must, x9.Fixed, x9.Default, x9.Weighs⟩ : VGateField)).set x0_2.toNat (⟨x11.Name, x11.Kind, x11.Least, x11.Most, x11.Words, r10, x11.Role, x11.Must, x11.Fixed, x11.Default, x11.Weighs⟩ : VGateField)).set x0_2.toNat ((⟨x12.Name, x12.Kind, x12.Least, x12.Most, x12.Words, x12.To, IntKind.i64.wrap (r8.2 + 1), x12.Must, x12.Fixed, x12.Default, x12.Weighs⟩ : VGateField))).length : Int))) (Option.bind (((((((x0_0.set x0_2.toNat (⟨r1, x2.Kind, x2.Least, x2.Most, x2.Words, x2.To, x2.Role, x2.Must, x2.Fixed, x2.Default, x2.Weighs⟩ : VGateField)).set x0_2.toNat ((⟨x3.Name, IntKind.i64.wrap (x0_1 + 1), x3.Least, x3.Most, x3.Words, x3.To, x3.Role, x3.Must, x3.Fixed, x3.Default, x3.Weighs⟩ : VGateField))).set x0_2.toNat ((⟨x4.Name, x4.Kind, IntKind.i64.wrap ((IntKind.i64.wrap (x0_1 + 1)) + 1), x4.Most, x4.Words, x4.To, x4.Role, x4.Must, x4.Fixed, x4.Default, x4.Weighs⟩ : VGateField))).set x0_2.toNat ((⟨x5.Name, x5.Kind, x5.Least, IntKind.i64.wrap ((IntKind.i64.wrap ((IntKind.i64.wrap (x0_1 + 1)) + 1)) + 1), x5.Words, x5.To, x5.Role, x5.Must, x5.Fixed, x5.Default, x5.Weighs⟩ : VGateField))).set x0_2.toNat (⟨x9.Name, x9.Kind, x9.Least, x9.Most, r8.1, x9.To, x9.Role, x9.Must, x9.Fixed, x9.Default, x9.Weighs⟩ : VGateField)).set x0_2.toNat (⟨x11.Name, x11.Kind, x11.Least, x11.Most, x11.Words, r10, x11.Role, x11.Must, x11.Fixed, x11.Default, x11.Weighs⟩ : VGateField)).set x0_2.toNat ((⟨x12.Name, x12.Kind, x12.Least, x12.Most, x12.Words, x12.To, IntKind.i64.wrap (r8.2 + 1), x12.Must, x12.Fixed, x12.Default, x12.Weighs⟩ : VGateField)))[x0_2.toNat]? fun x13 => cond (decide (3 = 0)) none (cond (decide (0 ≤ x0_2)) (cond (decide (x0_2 < (((((((((x0_0.set x0_2.toNat (⟨r1, x2.Kind, x2.Least, x2.Most, x2.Words, x2.To, x2.Role, x2.Must, x2.Fixed, x2.Default, x2.Weighs⟩ : VGateField)).set x0_2.toNat ((⟨x3.Name, IntKind.i64.wrap (x0_1 + 1), x3.Least, x3.Most, x3.Words, x3.To, x3.Role, x3.Must, x3.Fixed, x3.Default, x3.Weighs⟩ : VGateField))).set x0_2.toNat ((⟨x4.Name, x4.Kind, IntKind.i64.wrap ((IntKind.i64.wrap (x0_1 + 1)) + 1), x4.Most, x4.Words, x4.To, x4.Role, x4.Must, x4.Fixed, x4.Default, x4.Weighs⟩ : VGateField))).set x0_2.toNat ((⟨x5.Name, x5.Kind, x5.Least, IntKind.i64.wrap ((IntKind.i64.wrap ((IntKind.i64.wrap (x0_1 + 1)) + 1)) + 1), x5.Words, x5.To, x5.Role, x5.Must, x5.Fixed, x5.Default, x5.Weighs⟩ : VGateField))).set x0_2.toNat (⟨x9.Name, x9.Kind, x9.Least, x9.Most, r8.1, x9.To, x9.Role, x9.Must, x9.Fixed, x9.Default, x9.Weighs⟩ : VGateField)).set x0_2.toNat (⟨x11.Name, x11.Kind, x11.Least, x11.Most, x11.Words, r10, x11.Role, x11.Must, x11.Fixed, x11.Default, x11.Weighs⟩ : VGateField)).set x0_2.toNat ((⟨x12.Name, x12.Kind, x12.Least, x12.Most, x12.Words, x12.To, IntKind.i64.wrap (r8.2 + 1), x12.Must, x12.Fixed, x12.Default, x12.Weighs⟩ : VGateField))).set x0_2.toNat ((⟨x13.Name, x13.Kind, x13.Least, x13.Most, x13.Words, x13.To, x13.Role, ((IntKind.i64.wrap ((IntKind.i64.wrap (r8.2 + 1)) + 1)).tmod 3) == 0, x13.Fixed, x13.Default, x13.Weighs⟩ : VGateField))).length : Int))) (Option.bind ((((((((x0_0.set x0_2.toNat (⟨r1, x2.Kind, x2.Least, x2.Most, x2.Words, x2.To, x2.Role, x2.Must, x2.Fixed, x2.Default, x2.Weighs⟩ : VGateField)).set x0_2.toNat ((⟨x3.Name, IntKind.i64.wrap (x0_1 + 1), x3.Least, x3.Most, x3.Words, x3.To, x3.Role, x3.Must, x3.Fixed, x3.Default, x3.Weighs⟩ : VGateField))).set x0_2.toNat ((⟨x4.Name, x4.Kind, IntKind.i64.wrap ((IntKind.i64.wrap (x0_1 + 1)) + 1), x4.Most, x4.Words, x4.To, x4.Role, x4.Must, x4.Fixed, x4.Default, x4.Weighs⟩ : VGateField))).set x0_2.toNat ((⟨x5.Name, x5.Kind, x5.Least, IntKind.i64.wrap ((IntKind.i64.wrap ((IntKind.i64.wrap (x0_1 + 1)) + 1)) + 1), x5.Words, x5.To, x5.Role, x5.Must, x5.Fixed, x5.Default, x5.Weighs⟩ : VGateField))).set x0_2.toNat (⟨x9.Name, x9.Kind, x9.Least, x9.Most, r8.1, x9.To, x9.Role, x9.Must, x9.Fixed, x9.Default, x9.Weighs⟩ : VGateField)).set x0_2.toNat (⟨x11.Name, x11.Kind, x11.Least, x11.Most, x11.Words, r10, x11.Role, x11.Must, x11.Fixed, x11.Default, x11.Weighs⟩ : VGateField)).set x0_2.toNat ((⟨x12.Name, x12.Kind, x12.Least, x12.Most, x12.Words, x12.To, IntKind.i64.wrap (r8.2 + 1), x12.Must, x12.Fixed, x12.Default, x12.Weighs⟩ : VGateField))).set x0_2.toNat ((⟨x13.Name, x13.Kind, x13.Least, x13.Most, x13.Words, x13.To, x13.Role, ((IntKind.i64.wrap ((IntKind.i64.wrap (r8.2 + 1)) + 1)).tmod 3) == 0, x13.Fixed, x13.Default, x13.Weighs⟩ : VGateField)))[x0_2.toNat]? fun x14 => Option.bind (G61 (IntKind.i64.wrap ((IntKind.i64.wrap ((IntKind.i64.wrap ((IntKind.i64.wrap (r8.2 + 1)) + 1)) + 1)) + 1))) fun r15 =>
      cond (decide (0 ≤ x0_2)) (cond (decide (x0_2 < ((((((((((x0_0.set x0_2.toNat (⟨r1, x2.Kind, x2.Least, x2.Most, x2.Words, x2.To, x2.Role, x2.Must, x2.Fixed, x2.Default, x2.Weighs⟩ : VGateField)).set x0_2.toNat ((⟨x3.Name, IntKind.i64.wrap (x0_1 + 1), x3.Least, x3.Most, x3.Words, x3.To, x3.Role, x3.Must, x3.Fixed, x3.Default, x3.Weighs⟩ : VGateField))).set x0_2.toNat ((⟨x4.Name, x4.Kind, IntKind.i64.wrap ((IntKind.i64.wrap (x0_1 + 1)) + 1), x4.Most, x4.Words, x4.To, x4.Role, x4.Must, x4.Fixed, x4.Default, x4.Weighs⟩ : VGateField))).set x0_2.toNat ((⟨x5.Name, x5.Kind, x5.Least, IntKind.i64.wrap ((IntKind.i64.wrap ((IntKind.i64.wrap (x0_1 + 1)) + 1)) + 1), x5.Words, x5.To, x5.Role, x5.Must, x5.Fixed, x5.Default, x5.Weighs⟩ : VGateField))).set x0_2.toNat (⟨x9.Name, x9.Kind, x9.Least, x9.Most, r8.1, x9.To, x9.Role, x9.Must, x9.Fixed, x9.Default, x9.Weighs⟩ : VGateField)).set x0_2.toNat (⟨x11.Name, x11.Kind, x11.Least, x11.Most, x11.Words, r10, x11.Role, x11.Must, x11.Fixed, x11.Default, x11.Weighs⟩ : VGateField)).set x0_2.toNat ((⟨x12.Name, x12.Kind, x12.Least, x12.Most, x12.Words, x12.To, IntKind.i64.wrap (r8.2 + 1), x12.Must, x12.Fixed, x12.Default, x12.Weighs⟩ : VGateField))).set x0_2.toNat ((⟨x13.Name, x13.Kind, x13.Least, x13.Most, x13.Words, x13.To, x13.Role, ((IntKind.i64.wrap ((IntKind.i64.wrap (r8.2 + 1)) + 1)).tmod 3) == 0, x13.Fixed, x13.Default, x13.Weighs⟩ : VGateField))).set x0_2.toNat ((⟨x14.Name, x14.Kind, x14.Least, x14.Most, x14.Words, x14.To, x14.Role, x14.Must, ((IntKind.i64.wrap ((IntKind.i64.wrap ((IntKind.i64.wrap (r8.2 + 1)) + 1)) + 1)).tmod 3) == 0, x14.Default, x14.Weighs⟩ : VGateField))).length : Int))) (Option.bind (((((((((x0_0.set x0_2.toNat (⟨r1, x2.Kind, x2.Least, x2.Most, x2.Words, x2.To, x2.Role, x2.Must, x2.Fixed, x2.Default, x2.Weighs⟩ : VGateField)).set x0_2.toNat ((⟨x3.Name, IntKind.i64.wrap (x0_1 + 1), x3.Least, x3.Most, x3.Words, x3.To, x3.Role, x3.Must, x3.Fixed, x3.Default, x3.Weighs⟩ : VGateField))).set x0_2.toNat ((⟨x4.Name, x4.Kind, IntKind.i64.wrap ((IntKind.i64.wrap (x0_1 + 1)) + 1), x4.Most, x4.Words, x4.To, x4.Role, x4.Must, x4.Fixed, x4.Default, x4.Weighs⟩ : VGateField))).set x0_2.toNat ((⟨x5.Name, x5.Kind, x5.Least, IntKind.i64.wrap ((IntKind.i64.wrap ((IntKind.i64.wrap (x0_1 + 1)) + 1)) + 1), x5.Words, x5.To, x5.Role, x5.Must, x5.Fixed, x5.Default, x5.Weighs⟩ : VGateField))).set x0_2.toNat (⟨x9.Name, x9.Kind, x9.Least, x9.Most, r8.1, x9.To, x9.Role, x9.Must, x9.Fixed, x9.Default, x9.Weighs⟩ : VGateField)).set x0_2.toNat (⟨x11.Name, x11.Kind, x11.Least, x11.Most, x11.Words, r10, x11.Role, x11.Must, x11.Fixed, x11.Default, x11.Weighs⟩ : VGateField)).set x0_2.toNat ((⟨x12.Name, x12.Kind, x12.Least, x12.Most, x12.Words, x12.To, IntKind.i64.wrap (r8.2 + 1), x12.Must, x12.Fixed, x12.Default, x12.Weighs⟩ : VGateField))).set x0_2.toNat ((⟨x13.Name, x13.Kind, x13.Least, x13.Most, x13.Words, x13.To, x13.Role, ((IntKind.i64.wrap ((IntKind.i64.wrap (r8.2 + 1)) + 1)).tmod 3) == 0, x13.Fixed, x13.Default, x13.Weighs⟩ : VGateField))).set x0_2.toNat ((⟨x14.Name, x14.Kind, x14.Least, x14.Most, x14.Words, x14.To, x14.Role, x14.Must, ((IntKind.i64.wrap ((IntKind.i64.wrap ((IntKind.i64.wrap (r8.2 + 1)) + 1)) + 1)).tmod 3) == 0, x14.Default, x14.Weighs⟩ : VGateField)))[x0_2.toNat]? fun x16 => Option.bind (G61 (IntKind.i64.wrap ((IntKind.i64.wrap ((IntKind.i64.wrap ((IntKind.i64.wrap ((IntKind.i64.wrap (r8.2 + 1)) + 1)) + 1)) + 1)) + 1))) fun r17 =>
      cond (decide (0 ≤ x0_2)) (cond (decide (x0_2 < (((((((((((x0_0.set x0_2.toNat (⟨r1, x2.Kind, x2.Least, x2.Most, x2.Words, x2.To, x2.Role, x2.Must, x2.Fixed, x2.Default, x2.Weighs⟩ : VGateField)).set x0_2.toNat ((⟨x3.Name, IntKind.i64.wrap (x0_1 + 1), x3.Least, x3.Most, x3.Words, x3.To, x3.Role, x3.Must, x3.Fixed, x3.Default, x3.Weighs⟩ : VGateField))).set x0_2.toNat ((⟨x4.Name, x4.Kind, IntKind.i64.wrap ((IntKind.i64.wrap (x0_1 + 1)) + 1), x4.Most, x4.Words, x4.To, x4.Role, x4.Must, x4.Fixed, x4.Default, x4.Weighs⟩ : VGateField))).set x0_2.toNat ((⟨x5.Name, x5.Kind, x5.Least, IntKind.i64.wrap ((IntKind.i64.wrap ((IntKind.i64.wrap (x0_1 + 1)) + 1)) + 1), x5.Words, x5.To, x5.Role, x5.Must, x5.Fixed, x5.Default, x5.Weighs⟩ : VGateField))).set x0_2.toNat (⟨x9.Name, x9.Kind, x9.Least, x9.Most, r8.1, x9.To, x9.Role, x9.Must, x9.Fixed, x9.Default, x9.Weighs⟩ : VGateField)).set x0_2.toNat (⟨x11.Name, x11.Kind, x11.Least, x11.Most, x11.Words, r10, x11.Role, x11.Must, x11.Fixed, x11.Default, x11.Weighs⟩ : VGateField)).set x0_2.toNat ((⟨x12.Name, x12.Kind, x12.Least, x12.Most, x12.Words, x12.To, IntKind.i64.wrap (r8.2 + 1), x12.Must, x12.Fixed, x12.Default, x12.Weighs⟩ : VGateField))).set x0_2.toNat ((⟨x13.Name, x13.Kind, x13.Least, x13.Most, x13.Words, x13.To, x13.Role, ((IntKind.i64.wrap ((IntKind.i64.wrap (r8.2 + 1)) + 1)).tmod 3) == 0, x13.Fixed, x13.Default, x13.Weighs⟩ : VGateField))).set x0_2.toNat ((⟨x14.Name, x14.Kind, x14.Least, x14.Most, x14.Words, x14.To, x14.Role, x14.Must, ((IntKind.i64.wrap ((IntKind.i64.wrap ((IntKind.i64.wrap (r8.2 + 1)) + 1)) + 1)).tmod 3) == 0, x14.Default, x14.Weighs⟩ : VGateField))).set x0_2.toNat (⟨x16.Name, x16.Kind, x16.Least, x16.Most, x16.Words, x16.To, x16.Role, x16.Must, x16.Fixed, r15, x16.Weighs⟩ : VGateField)).length : Int))) (Option.bind ((((((((((x0_0.set x0_2.toNat (⟨r1, x2.Kind, x2.Least, x2.Most, x2.Words, x2.To, x2.Role, x2.Must, x2.Fixed, x2.Default, x2.Weighs⟩ : VGateField)).set x0_2.toNat ((⟨x3.Name, IntKind.i64.wrap (x0_1 + 1), x3.Least, x3.Most, x3.Words, x3.To, x3.Role, x3.Must, x3.Fixed, x3.Default, x3.Weighs⟩ : VGateField))).set x0_2.toNat ((⟨x4.Name, x4.Kind, IntKind.i64.wrap ((IntKind.i64.wrap (x0_1 + 1)) + 1), x4.Most, x4.Words, x4.To, x4.Role, x4.Must, x4.Fixed, x4.Default, x4.Weighs⟩ : VGateField))).set x0_2.toNat ((⟨x5.Name, x5.Kind, x5.Least, IntKind.i64.wrap ((IntKind.i64.wrap ((IntKind.i64.wrap (x0_1 + 1)) + 1)) + 1), x5.Words, x5.To, x5.Role, x5.Must, x5.Fixed, x5.Default, x5.Weighs⟩ : VGateField))).set x0_2.toNat (⟨x9.Name, x9.Kind, x9.Least, x9.Most, r8.1, x9.To, x9.Role, x9.Must, x9.Fixed, x9.Default, x9.Weighs⟩ : VGateField)).set x0_2.toNat (⟨x11.Name, x11.Kind, x11.Least, x11.Most, x11.Words, r10, x11.Role, x11.Must, x11.Fixed, x11.Default, x11.Weighs⟩ : VGateField)).set x0_2.toNat ((⟨x12.Name, x12.Kind, x12.Least, x12.Most, x12.Words, x12.To, IntKind.i64.wrap (r8.2 + 1), x12.Must, x12.Fixed, x12.Default, x12.Weighs⟩ : VGateField))).set x0_2.toNat ((⟨x13.Name, x13.Kind, x13.Least, x13.Most, x13.Words, x13.To, x13.Role, ((IntKind.i64.wrap ((IntKind.i64.wrap (r8.2 + 1)) + 1)).tmod 3) == 0, x13.Fixed, x13.Default, x13.Weighs⟩ : VGateField))).set x0_2.toNat ((⟨x14.Name, x14.Kind, x14.Least, x14.Most, x14.Words, x14.To, x14.Role, x14.Must, ((IntKind.i64.wrap ((IntKind.i64.wrap ((IntKind.i64.wrap (r8.2 + 1)) + 1)) + 1)).tmod 3) == 0, x14.Default, x14.Weighs⟩ : VGateField))).set x0_2.toNat (⟨x16.Name, x16.Kind, x16.Least, x16.Most, x16.Words, x16.To, x16.Role, x16.Must, x16.Fixed, r15, x16.Weighs⟩ : VGateField))[x0_2.toNat]? fun x18 => rec0 (((((((((((x0_0.set x0_2.toNat (⟨r1, x2.Kind, x2.Least, x2.Most, x2.Words, x2.To, x2.Role, x2.Must, x2.Fixed, x2.Default, x2.Weighs⟩ : VGateField)).set x0_2.toNat ((⟨x3.Name, IntKind.i64.wrap (x0_1 + 1), x3.Least, x3.Most, x3.Words, x3.To, x3.Role, x3.Must, x3.Fixed, x3.Default, x3.Weighs⟩ : VGateField))).set x0_2.toNat ((⟨x4.Name, x4.Kind, IntKind.i64.wrap ((IntKind.i64.wrap (x0_1 + 1)) + 1), x4.Most, x4.Words, x4.To, x4.Role, x4.Must, x4.Fixed, x4.Default, x4.Weighs⟩ : VGateField))).set x0_2.toNat ((⟨x5.Name, x5.Kind, x5.Least, IntKind.i64.wrap ((IntKind.i64.wrap ((IntKind.i64.wrap (x0_1 + 1)) + 1)) + 1), x5.Words, x5.To, x5.Role, x5.Must, x5.Fixed, x5.Default, x5.Weighs⟩ : VGateField))).set x0_2.toNat (⟨x9.Name, x9.Kind, x9.Least, x9.Most, r8.1, x9.To, x9.Role, x9.Must, x9.Fixed, x9.Default, x9.Weighs⟩ : VGateField)).set x0_2.toNat (⟨x11.Name, x11.Kind, x11.Least, x11.Most, x11.Words, r10, x11.Role, x11.Must, x11.Fixed, x11.Default, x11.Weighs⟩ : VGateField)).set x0_2.toNat ((⟨x12.Name, x12.Kind, x12.Least, x12.Most, x12.Words, x12.To, IntKind.i64.wrap (r8.2 + 1), x12.Must, x12.Fixed, x12.Default, x12.Weighs⟩ : VGateField))).set x0_2.toNat ((⟨x13.Name, x13.Kind, x13.Least, x13.Most, x13.Words, x13.To, x13.Role, ((IntKind.i64.wrap ((IntKind.i64.wrap (r8.2 + 1)) + 1)).tmod 3) == 0, x13.Fixed, x13.Default, x13.Weighs⟩ : VGateField))).set x0_2.toNat ((⟨x14.Name, x14.Kind, x14.Least, x14.Most, x14.Words, x14.To, x14.Role, x14.Must, ((IntKind.i64.wrap ((IntKind.i64.wrap ((IntKind.i64.wrap (r8.2 + 1)) + 1)) + 1)).tmod 3) == 0, x14.Default, x14.Weighs⟩ : VGateField))).set x0_2.toNat (⟨x16.Name, x16.Kind, x16.Least, x16.Most, x16.Words, x16.To, x16.Role, x16.Must, x16.Fixed, r15, x16.Weighs⟩ : VGateField)).set x0_2.toNat (⟨x18.Name, x18.Kind, x18.Least, x18.Most, x18.Words, x18.To, x18.Role, x18.Must, x18.Fixed, x18.Default, r17⟩ : VGateField), IntKind.i64.wrap ((IntKind.i64.wrap ((IntKind.i64.wrap ((IntKind.i64.wrap ((IntKind.i64.wrap ((IntKind.i64.wrap (r8.2 + 1)) + 1)) + 1)) + 1)) + 1)) + 1), IntKind.i64.wrap (x0_2 + 1))) none) none) none) none) none) none)) none) none)) none) none) none) none) none) none) none) none) none) none) none) none) none) none)
      (some (x0_0, x0_1))
noncomputable def LP62_0 (n : Nat)  (x : A62_0) : Option (List (C .e100) × Int) := lpN (r62_0 n ) n x
noncomputable def MP62_0 (kp : Nat → Prop) (kh : Nat → Option Obj) (hd : Nat → Value) (n : Nat)  (x : A62_0) : Option (List (C .e100) × Int) := iter (fun rec S => run (X62.gh kp kh hd) (F62 n) (codeAt (bodyOf Go.Proofs.Try.f62) [1, 0, 1, 0, 0]) 0 S (lopK rec (blkK 0 (seqK (run (X62.gh kp kh hd) (F62 n) (codeAt (bodyOf Go.Proofs.Try.f62) [1, 1]) 0) (kTopW (X62.gh kp kh hd) Go.Proofs.Try.f62 [true, false] dec62))))) [0, 1, 5] n (s62_0 x)
theorem m62_0 (kp : Nat → Prop) (kh : Nat → Option Obj) (hd : Nat → Value) (n : Nat)  (x : A62_0) : MP62_0 kp kh hd n  x = LP62_0 n  x := by
  refine iter_eq s62_0 (r62_0 n ) (fun rec0 x => ?_) n x
  obtain ⟨x0_0, x0_1, x0_2⟩ := x
  kernel_rfl
noncomputable def G62n (n : Nat) (a0 : List (C .e100)) (a1 : Int) : Option (List (C .e100) × Int) :=
      LP62_0 n  (a0, a1, 0)
theorem t62 (kp : Nat → Prop) (kh : Nat → Option Obj) (hd : Nat → Value) (n : Nat) (a0 : List (C .e100)) (a1 : Int) : runFnW (X62.gh kp kh hd) (F62 n) Go.Proofs.Try.f62 [(false, [.row .e100 a0]), (false, [.int .i64 a1])] dec62 = G62n n a0 a1 := by
  have h : runFnW (X62.gh kp kh hd) (F62 n) Go.Proofs.Try.f62 [(false, [.row .e100 a0]), (false, [.int .i64 a1])] dec62 =
      MP62_0 kp kh hd n  (a0, a1, 0) := by kernel_rfl
  simp only [h, G62n, m62_0]
noncomputable def G62 (a0 : List (C .e100)) (a1 : Int) : Option (List (C .e100) × Int) := G62n fuel a0 a1
noncomputable def con62 : ConW C := { R0 := List (C .e100) × Int, out := fun r => [.row .e100 r.1], ret := fun r => [(false, [.int .i64 r.2])], g := fun rs => match rs with
  | [(false, [.row .e100 y0]), (false, [.int .i64 y1])] => G62 y0 y1
  | _ => none }
theorem x62 : XOk Go.Proofs.Try.prog X62 := ⟨tks_ok, els_ok, mps_ok, meths_ok⟩
theorem q62 : Cons Go.Proofs.Try.prog X62 := ⟨lkR_ok (l := [(61, con61)]) ⟨c61, trivial⟩, lkW_ok (l := [(63, con63)]) ⟨c63, trivial⟩, lkI_ok (l := []) trivial⟩
theorem c62 : ConWOk Go.Proofs.Try.prog KK 62 con62 := by
  refine conw_of x62 q62 (by kernel_rfl) (f := 62) (fn := Go.Proofs.Try.f62) (c := bodyOf Go.Proofs.Try.f62) (by kernel_rfl) (by kernel_rfl) (by kernel_rfl) (nameB (by kernel_rfl)) con62 dec62 (fun os rs r0 h => ?_) (fun rs r0 h => ?_)
  · unfold dec62 at h
    split at h
    · cases h; exact ⟨rfl, rfl⟩
    · cases h
  · simp only [con62] at h
    split at h
    · rename_i y0 y1
      exact ⟨Nat.le_of_ble_eq_true (by kernel_rfl), F62 fuel, fun kp kh hd => (t62 kp kh hd fuel y0 y1).trans h⟩
    · cases h
/-! ### f23 loop.example/wharfdesk/laws.markGateShapeS -/
noncomputable def X23 : Cx C := { K := KK, tk := lk tks, con := lkC [(61, con61)], conw := lkC [(62, con62)], inl := lkA [], hold := [], mp := lk mps, meth := lkS meths, off := 1507328 }
def F23 (n : Nat) : Cf := { N := n, keep := [0, 1, 4, 5, 9], live := lk [(0, [0, 1, 5])] }
def dec23 (os : List (Lf C)) (rs : List (Bool × List (Lf C))) : Option (List (C .e81) × Int) := match os, rs with
  | [.row .e81 o0], [(false, [.int .i64 z0])] => some (o0, z0)
  | _, _ => none
abbrev A23_0 : Type := List (C .e81) × Int × Int
def s23_0 : A23_0 → St C := fun (x0_0, x0_1, x0_2) => { env := [(0, .one (.ref 100000 [])), (1, .one (.int .i64 x0_1)), (5, .one (.int .i64 x0_2)), (90000, .frame), (90001, .hdr 100000 0)], objs := [(100000, .row .e81 x0_0 false)], base := 0 }
noncomputable def r23_0 (n : Nat)  (rec0 : A23_0 → Option (List (C .e81) × Int)) : A23_0 → Option (List (C .e81) × Int) := fun (x0_0, x0_1, x0_2) =>
      cond (decide (x0_2 < (x0_0.length : Int)))
      (Option.bind (G61 x0_1) fun r1 =>
      cond (decide (0 ≤ x0_2)) (cond (decide (x0_2 < (x0_0.length : Int))) (Option.bind x0_0[x0_2.toNat]? fun x2 => cond (decide (0 ≤ x0_2)) (cond (decide (x0_2 < ((x0_0.set x0_2.toNat (⟨r1, x2.Fields⟩ : VGateShape)).length : Int))) (Option.bind (x0_0.set x0_2.toNat (⟨r1, x2.Fields⟩ : VGateShape))[x0_2.toNat]? fun x3 => Option.bind (x0_0.set x0_2.toNat (⟨r1, x2.Fields⟩ : VGateShape))[x0_2.toNat]? fun x4 => Option.bind (G62 x4.Fields (IntKind.i64.wrap (x0_1 + 1))) fun r5 =>
      Option.bind (x0_0.set x0_2.toNat (⟨r1, x2.Fields⟩ : VGateShape))[x0_2.toNat]? fun x6 => rec0 ((x0_0.set x0_2.toNat (⟨r1, x2.Fields⟩ : VGateShape)).set x0_2.toNat (⟨x6.Kind, r5.1⟩ : VGateShape), r5.2, IntKind.i64.wrap (x0_2 + 1))) none) none) none) none)
      (some (x0_0, x0_1))
noncomputable def LP23_0 (n : Nat)  (x : A23_0) : Option (List (C .e81) × Int) := lpN (r23_0 n ) n x
noncomputable def MP23_0 (kp : Nat → Prop) (kh : Nat → Option Obj) (hd : Nat → Value) (n : Nat)  (x : A23_0) : Option (List (C .e81) × Int) := iter (fun rec S => run (X23.gh kp kh hd) (F23 n) (codeAt (bodyOf Go.Proofs.Try.f23) [1, 0, 1, 0, 0]) 0 S (lopK rec (blkK 0 (seqK (run (X23.gh kp kh hd) (F23 n) (codeAt (bodyOf Go.Proofs.Try.f23) [1, 1]) 0) (kTopW (X23.gh kp kh hd) Go.Proofs.Try.f23 [true, false] dec23))))) [0, 1, 5] n (s23_0 x)
theorem m23_0 (kp : Nat → Prop) (kh : Nat → Option Obj) (hd : Nat → Value) (n : Nat)  (x : A23_0) : MP23_0 kp kh hd n  x = LP23_0 n  x := by
  refine iter_eq s23_0 (r23_0 n ) (fun rec0 x => ?_) n x
  obtain ⟨x0_0, x0_1, x0_2⟩ := x
  kernel_rfl
noncomputable def G23n (n : Nat) (a0 : List (C .e81)) (a1 : Int) : Option (List (C .e81) × Int) :=
      LP23_0 n  (a0, a1, 0)
theorem t23 (kp : Nat → Prop) (kh : Nat → Option Obj) (hd : Nat → Value) (n : Nat) (a0 : List (C .e81)) (a1 : Int) : runFnW (X23.gh kp kh hd) (F23 n) Go.Proofs.Try.f23 [(false, [.row .e81 a0]), (false, [.int .i64 a1])] dec23 = G23n n a0 a1 := by
  have h : runFnW (X23.gh kp kh hd) (F23 n) Go.Proofs.Try.f23 [(false, [.row .e81 a0]), (false, [.int .i64 a1])] dec23 =
      MP23_0 kp kh hd n  (a0, a1, 0) := by kernel_rfl
  simp only [h, G23n, m23_0]
noncomputable def G23 (a0 : List (C .e81)) (a1 : Int) : Option (List (C .e81) × Int) := G23n fuel a0 a1
noncomputable def con23 : ConW C := { R0 := List (C .e81) × Int, out := fun r => [.row .e81 r.1], ret := fun r => [(false, [.int .i64 r.2])], g := fun rs => match rs with
  | [(false, [.row .e81 y0]), (false, [.int .i64 y1])] => G23 y0 y1
  | _ => none }
theorem x23 : XOk Go.Proofs.Try.prog X23 := ⟨tks_ok, els_ok, mps_ok, meths_ok⟩
theorem q23 : Cons Go.Proofs.Try.prog X23 := ⟨lkR_ok (l := [(61, con61)]) ⟨c61, trivial⟩, lkW_ok (l := [(62, con62)]) ⟨c62, trivial⟩, lkI_ok (l := []) trivial⟩
theorem c23 : ConWOk Go.Proofs.Try.prog KK 23 con23 := by
  refine conw_of x23 q23 (by kernel_rfl) (f := 23) (fn := Go.Proofs.Try.f23) (c := bodyOf Go.Proofs.Try.f23) (by kernel_rfl) (by kernel_rfl) (by kernel_rfl) (nameB (by kernel_rfl)) con23 dec23 (fun os rs r0 h => ?_) (fun rs r0 h => ?_)
  · unfold dec23 at h
    split at h
    · cases h; exact ⟨rfl, rfl⟩
    · cases h
  · simp only [con23] at h
    split at h
    · rename_i y0 y1
      exact ⟨Nat.le_of_ble_eq_true (by kernel_rfl), F23 fuel, fun kp kh hd => (t23 kp kh hd fuel y0 y1).trans h⟩
    · cases h
/-! ### f24 loop.example/wharfdesk/laws.markGateMendS -/
noncomputable def X24 : Cx C := { K := KK, tk := lk tks, con := lkC [(61, con61)], conw := lkC [], inl := lkA [], hold := [], mp := lk mps, meth := lkS meths, off := 1572864 }
def F24 (n : Nat) : Cf := { N := n, keep := [0, 1, 4, 5, 9], live := lk [(0, [0, 1, 5])] }
def dec24 (os : List (Lf C)) (rs : List (Bool × List (Lf C))) : Option (List (C .e83) × Int) := match os, rs with
  | [.row .e83 o0], [(false, [.int .i64 z0])] => some (o0, z0)
  | _, _ => none
abbrev A24_0 : Type := List (C .e83) × Int × Int
def s24_0 : A24_0 → St C := fun (x0_0, x0_1, x0_2) => { env := [(0, .one (.ref 100000 [])), (1, .one (.int .i64 x0_1)), (5, .one (.int .i64 x0_2)), (90000, .frame), (90001, .hdr 100000 0)], objs := [(100000, .row .e83 x0_0 false)], base := 0 }
noncomputable def r24_0 (n : Nat)  (rec0 : A24_0 → Option (List (C .e83) × Int)) : A24_0 → Option (List (C .e83) × Int) := fun (x0_0, x0_1, x0_2) =>
      cond (decide (x0_2 < (x0_0.length : Int)))
      (Option.bind (G61 x0_1) fun r1 =>
      cond (decide (0 ≤ x0_2)) (cond (decide (x0_2 < (x0_0.length : Int))) (Option.bind x0_0[x0_2.toNat]? fun x2 => Option.bind (G61 (IntKind.i64.wrap (x0_1 + 1))) fun r3 =>
      cond (decide (0 ≤ x0_2)) (cond (decide (x0_2 < ((x0_0.set x0_2.toNat (⟨r1, x2.Field, x2.When, x2.Is, x2.Put, x2.From⟩ : VGateMend)).length : Int))) (Option.bind (x0_0.set x0_2.toNat (⟨r1, x2.Field, x2.When, x2.Is, x2.Put, x2.From⟩ : VGateMend))[x0_2.toNat]? fun x4 => Option.bind (G61 (IntKind.i64.wrap ((IntKind.i64.wrap (x0_1 + 1)) + 1))) fun r5 =>
      cond (decide (0 ≤ x0_2)) (cond (decide (x0_2 < (((x0_0.set x0_2.toNat (⟨r1, x2.Field, x2.When, x2.Is, x2.Put, x2.From⟩ : VGateMend)).set x0_2.toNat (⟨x4.Kind, r3, x4.When, x4.Is, x4.Put, x4.From⟩ : VGateMend)).length : Int))) (Option.bind ((x0_0.set x0_2.toNat (⟨r1, x2.Field, x2.When, x2.Is, x2.Put, x2.From⟩ : VGateMend)).set x0_2.toNat (⟨x4.Kind, r3, x4.When, x4.Is, x4.Put, x4.From⟩ : VGateMend))[x0_2.toNat]? fun x6 => Option.bind (G61 (IntKind.i64.wrap ((IntKind.i64.wrap ((IntKind.i64.wrap (x0_1 + 1)) + 1)) + 1))) fun r7 =>
      cond (decide (0 ≤ x0_2)) (cond (decide (x0_2 < ((((x0_0.set x0_2.toNat (⟨r1, x2.Field, x2.When, x2.Is, x2.Put, x2.From⟩ : VGateMend)).set x0_2.toNat (⟨x4.Kind, r3, x4.When, x4.Is, x4.Put, x4.From⟩ : VGateMend)).set x0_2.toNat (⟨x6.Kind, x6.Field, r5, x6.Is, x6.Put, x6.From⟩ : VGateMend)).length : Int))) (Option.bind (((x0_0.set x0_2.toNat (⟨r1, x2.Field, x2.When, x2.Is, x2.Put, x2.From⟩ : VGateMend)).set x0_2.toNat (⟨x4.Kind, r3, x4.When, x4.Is, x4.Put, x4.From⟩ : VGateMend)).set x0_2.toNat (⟨x6.Kind, x6.Field, r5, x6.Is, x6.Put, x6.From⟩ : VGateMend))[x0_2.toNat]? fun x8 => Option.bind (G61 (IntKind.i64.wrap ((IntKind.i64.wrap ((IntKind.i64.wrap ((IntKind.i64.wrap (x0_1 + 1)) + 1)) + 1)) + 1))) fun r9 =>
      cond (decide (0 ≤ x0_2)) (cond (decide (x0_2 < (((((x0_0.set x0_2.toNat (⟨r1, x2.Field, x2.When, x2.Is, x2.Put, x2.From⟩ : VGateMend)).set x0_2.toNat (⟨x4.Kind, r3, x4.When, x4.Is, x4.Put, x4.From⟩ : VGateMend)).set x0_2.toNat (⟨x6.Kind, x6.Field, r5, x6.Is, x6.Put, x6.From⟩ : VGateMend)).set x0_2.toNat (⟨x8.Kind, x8.Field, x8.When, r7, x8.Put, x8.From⟩ : VGateMend)).length : Int))) (Option.bind ((((x0_0.set x0_2.toNat (⟨r1, x2.Field, x2.When, x2.Is, x2.Put, x2.From⟩ : VGateMend)).set x0_2.toNat (⟨x4.Kind, r3, x4.When, x4.Is, x4.Put, x4.From⟩ : VGateMend)).set x0_2.toNat (⟨x6.Kind, x6.Field, r5, x6.Is, x6.Put, x6.From⟩ : VGateMend)).set x0_2.toNat (⟨x8.Kind, x8.Field, x8.When, r7, x8.Put, x8.From⟩ : VGateMend))[x0_2.toNat]? fun x10 => Option.bind (G61 (IntKind.i64.wrap ((IntKind.i64.wrap ((IntKind.i64.wrap ((IntKind.i64.wrap ((IntKind.i64.wrap (x0_1 + 1)) + 1)) + 1)) + 1)) + 1))) fun r11 =>
      cond (decide (0 ≤ x0_2)) (cond (decide (x0_2 < ((((((x0_0.set x0_2.toNat (⟨r1, x2.Field, x2.When, x2.Is, x2.Put, x2.From⟩ : VGateMend)).set x0_2.toNat (⟨x4.Kind, r3, x4.When, x4.Is, x4.Put, x4.From⟩ : VGateMend)).set x0_2.toNat (⟨x6.Kind, x6.Field, r5, x6.Is, x6.Put, x6.From⟩ : VGateMend)).set x0_2.toNat (⟨x8.Kind, x8.Field, x8.When, r7, x8.Put, x8.From⟩ : VGateMend)).set x0_2.toNat (⟨x10.Kind, x10.Field, x10.When, x10.Is, r9, x10.From⟩ : VGateMend)).length : Int))) (Option.bind (((((x0_0.set x0_2.toNat (⟨r1, x2.Field, x2.When, x2.Is, x2.Put, x2.From⟩ : VGateMend)).set x0_2.toNat (⟨x4.Kind, r3, x4.When, x4.Is, x4.Put, x4.From⟩ : VGateMend)).set x0_2.toNat (⟨x6.Kind, x6.Field, r5, x6.Is, x6.Put, x6.From⟩ : VGateMend)).set x0_2.toNat (⟨x8.Kind, x8.Field, x8.When, r7, x8.Put, x8.From⟩ : VGateMend)).set x0_2.toNat (⟨x10.Kind, x10.Field, x10.When, x10.Is, r9, x10.From⟩ : VGateMend))[x0_2.toNat]? fun x12 => rec0 ((((((x0_0.set x0_2.toNat (⟨r1, x2.Field, x2.When, x2.Is, x2.Put, x2.From⟩ : VGateMend)).set x0_2.toNat (⟨x4.Kind, r3, x4.When, x4.Is, x4.Put, x4.From⟩ : VGateMend)).set x0_2.toNat (⟨x6.Kind, x6.Field, r5, x6.Is, x6.Put, x6.From⟩ : VGateMend)).set x0_2.toNat (⟨x8.Kind, x8.Field, x8.When, r7, x8.Put, x8.From⟩ : VGateMend)).set x0_2.toNat (⟨x10.Kind, x10.Field, x10.When, x10.Is, r9, x10.From⟩ : VGateMend)).set x0_2.toNat (⟨x12.Kind, x12.Field, x12.When, x12.Is, x12.Put, r11⟩ : VGateMend), IntKind.i64.wrap ((IntKind.i64.wrap ((IntKind.i64.wrap ((IntKind.i64.wrap ((IntKind.i64.wrap ((IntKind.i64.wrap (x0_1 + 1)) + 1)) + 1)) + 1)) + 1)) + 1), IntKind.i64.wrap (x0_2 + 1))) none) none) none) none) none) none) none) none) none) none) none) none)
      (some (x0_0, x0_1))
noncomputable def LP24_0 (n : Nat)  (x : A24_0) : Option (List (C .e83) × Int) := lpN (r24_0 n ) n x
noncomputable def MP24_0 (kp : Nat → Prop) (kh : Nat → Option Obj) (hd : Nat → Value) (n : Nat)  (x : A24_0) : Option (List (C .e83) × Int) := iter (fun rec S => run (X24.gh kp kh hd) (F24 n) (codeAt (bodyOf Go.Proofs.Try.f24) [1, 0, 1, 0, 0]) 0 S (lopK rec (blkK 0 (seqK (run (X24.gh kp kh hd) (F24 n) (codeAt (bodyOf Go.Proofs.Try.f24) [1, 1]) 0) (kTopW (X24.gh kp kh hd) Go.Proofs.Try.f24 [true, false] dec24))))) [0, 1, 5] n (s24_0 x)
theorem m24_0 (kp : Nat → Prop) (kh : Nat → Option Obj) (hd : Nat → Value) (n : Nat)  (x : A24_0) : MP24_0 kp kh hd n  x = LP24_0 n  x := by
  refine iter_eq s24_0 (r24_0 n ) (fun rec0 x => ?_) n x
  obtain ⟨x0_0, x0_1, x0_2⟩ := x
  kernel_rfl
noncomputable def G24n (n : Nat) (a0 : List (C .e83)) (a1 : Int) : Option (List (C .e83) × Int) :=
      LP24_0 n  (a0, a1, 0)
theorem t24 (kp : Nat → Prop) (kh : Nat → Option Obj) (hd : Nat → Value) (n : Nat) (a0 : List (C .e83)) (a1 : Int) : runFnW (X24.gh kp kh hd) (F24 n) Go.Proofs.Try.f24 [(false, [.row .e83 a0]), (false, [.int .i64 a1])] dec24 = G24n n a0 a1 := by
  have h : runFnW (X24.gh kp kh hd) (F24 n) Go.Proofs.Try.f24 [(false, [.row .e83 a0]), (false, [.int .i64 a1])] dec24 =
      MP24_0 kp kh hd n  (a0, a1, 0) := by kernel_rfl
  simp only [h, G24n, m24_0]
noncomputable def G24 (a0 : List (C .e83)) (a1 : Int) : Option (List (C .e83) × Int) := G24n fuel a0 a1
noncomputable def con24 : ConW C := { R0 := List (C .e83) × Int, out := fun r => [.row .e83 r.1], ret := fun r => [(false, [.int .i64 r.2])], g := fun rs => match rs with
  | [(false, [.row .e83 y0]), (false, [.int .i64 y1])] => G24 y0 y1
  | _ => none }
theorem x24 : XOk Go.Proofs.Try.prog X24 := ⟨tks_ok, els_ok, mps_ok, meths_ok⟩
theorem q24 : Cons Go.Proofs.Try.prog X24 := ⟨lkR_ok (l := [(61, con61)]) ⟨c61, trivial⟩, lkW_ok (l := []) trivial, lkI_ok (l := []) trivial⟩
theorem c24 : ConWOk Go.Proofs.Try.prog KK 24 con24 := by
  refine conw_of x24 q24 (by kernel_rfl) (f := 24) (fn := Go.Proofs.Try.f24) (c := bodyOf Go.Proofs.Try.f24) (by kernel_rfl) (by kernel_rfl) (by kernel_rfl) (nameB (by kernel_rfl)) con24 dec24 (fun os rs r0 h => ?_) (fun rs r0 h => ?_)
  · unfold dec24 at h
    split at h
    · cases h; exact ⟨rfl, rfl⟩
    · cases h
  · simp only [con24] at h
    split at h
    · rename_i y0 y1
      exact ⟨Nat.le_of_ble_eq_true (by kernel_rfl), F24 fuel, fun kp kh hd => (t24 kp kh hd fuel y0 y1).trans h⟩
    · cases h
/-! ### f25 loop.example/wharfdesk/laws.markGateObject -/
noncomputable def X25 : Cx C := { K := KK, tk := lk tks, con := lkC [], conw := lkC [(63, con63)], inl := lkA [], hold := [], mp := lk mps, meth := lkS meths, off := 1638400 }
def F25 (n : Nat) : Cf := { N := n, keep := [0, 1, 2, 4], live := lk [] }
def dec25 (os : List (Lf C)) (rs : List (Bool × List (Lf C))) : Option (List (C .e9) × List (C .e9) × Int) := match os, rs with
  | [.row .e9 o0, .row .e9 o1], [(false, [.int .i64 z0])] => some (o0, o1, z0)
  | _, _ => none
noncomputable def G25n (n : Nat) (a0 : VGateObject) (a1 : Int) : Option (List (C .e9) × List (C .e9) × Int) :=
      Option.bind (G63 a0.Values a1) fun r1 =>
      Option.bind (G63 a0.Holds r1.2) fun r2 =>
      some (r1.1, r2.1, r2.2)
theorem t25 (kp : Nat → Prop) (kh : Nat → Option Obj) (hd : Nat → Value) (n : Nat) (a0 : VGateObject) (a1 : Int) : runFnW (X25.gh kp kh hd) (F25 n) Go.Proofs.Try.f25 [(true, [.str a0.Kind, .str a0.Name, .str a0.Team, .row .e9 a0.Values, .bool a0.Ending, .row .e9 a0.Holds, .int .i64 a0.Version]), (false, [.int .i64 a1])] dec25 = G25n n a0 a1 := by
  kernel_rfl
noncomputable def G25 (a0 : VGateObject) (a1 : Int) : Option (List (C .e9) × List (C .e9) × Int) := G25n fuel a0 a1
noncomputable def con25 : ConW C := { R0 := List (C .e9) × List (C .e9) × Int, out := fun r => [.row .e9 r.1, .row .e9 r.2.1], ret := fun r => [(false, [.int .i64 r.2.2])], g := fun rs => match rs with
  | [(true, [.str y0_0, .str y0_1, .str y0_2, .row .e9 y0_3, .bool y0_4, .row .e9 y0_5, .int .i64 y0_6]), (false, [.int .i64 y1])] => G25 ⟨y0_0, y0_1, y0_2, y0_3, y0_4, y0_5, y0_6⟩ y1
  | _ => none }
theorem x25 : XOk Go.Proofs.Try.prog X25 := ⟨tks_ok, els_ok, mps_ok, meths_ok⟩
theorem q25 : Cons Go.Proofs.Try.prog X25 := ⟨lkR_ok (l := []) trivial, lkW_ok (l := [(63, con63)]) ⟨c63, trivial⟩, lkI_ok (l := []) trivial⟩
theorem c25 : ConWOk Go.Proofs.Try.prog KK 25 con25 := by
  refine conw_of x25 q25 (by kernel_rfl) (f := 25) (fn := Go.Proofs.Try.f25) (c := bodyOf Go.Proofs.Try.f25) (by kernel_rfl) (by kernel_rfl) (by kernel_rfl) (nameB (by kernel_rfl)) con25 dec25 (fun os rs r0 h => ?_) (fun rs r0 h => ?_)
  · unfold dec25 at h
    split at h
    · cases h; exact ⟨rfl, rfl⟩
    · cases h
  · simp only [con25] at h
    split at h
    · rename_i y0_0 y0_1 y0_2 y0_3 y0_4 y0_5 y0_6 y1
      exact ⟨Nat.le_of_ble_eq_true (by kernel_rfl), F25 fuel, fun kp kh hd => (t25 kp kh hd fuel ⟨y0_0, y0_1, y0_2, y0_3, y0_4, y0_5, y0_6⟩ y1).trans h⟩
    · cases h
/-! ### f64 loop.example/wharfdesk/laws.heldStringS -/
noncomputable def X64 : Cx C := { K := KK, tk := lk tks, con := lkC [(61, con61)], conw := lkC [], inl := lkA [], hold := [], mp := lk mps, meth := lkS meths, off := 4194304 }
def F64 (n : Nat) : Cf := { N := n, keep := [0, 1, 4, 5, 9, 18], live := lk [(0, [0, 1, 5])] }
def dec64 (rs : List (Bool × List (Lf C))) : Option (Int) := match rs with
  | [(false, [.int .i64 z0])] => some z0
  | _ => none
abbrev A64_0 : Type := List (C .e9) × Int × Int
def s64_0 : A64_0 → St C := fun (x0_0, x0_1, x0_2) => { env := [(0, .one (.row .e9 x0_0)), (1, .one (.int .i64 x0_1)), (5, .one (.int .i64 x0_2))], objs := [], base := 0 }
noncomputable def r64_0 (n : Nat)  (rec0 : A64_0 → Option (Int)) : A64_0 → Option (Int) := fun (x0_0, x0_1, x0_2) =>
      cond (decide (x0_2 < (x0_0.length : Int)))
      (cond (decide (0 ≤ x0_2)) (Option.bind x0_0[x0_2.toNat]? fun x1 => Option.bind (G61 x0_1) fun r2 =>
      cond (!decide (x1 = r2))
      (some ((-1)))
      (rec0 (x0_0, IntKind.i64.wrap (x0_1 + 1), IntKind.i64.wrap (x0_2 + 1)))) none)
      (some (x0_1))
noncomputable def LP64_0 (n : Nat)  (x : A64_0) : Option (Int) := lpN (r64_0 n ) n x
noncomputable def MP64_0 (n : Nat)  (x : A64_0) : Option (Int) := iter (fun rec S => run X64 (F64 n) (codeAt (bodyOf Go.Proofs.Try.f64) [1, 0, 1, 0, 0]) 0 S (lopK rec (blkK 0 (seqK (run X64 (F64 n) (codeAt (bodyOf Go.Proofs.Try.f64) [1, 1]) 0) (kTop X64 Go.Proofs.Try.f64 dec64))))) [0, 1, 5] n (s64_0 x)
theorem m64_0 (n : Nat)  (x : A64_0) : MP64_0 n  x = LP64_0 n  x := by
  refine iter_eq s64_0 (r64_0 n ) (fun rec0 x => ?_) n x
  obtain ⟨x0_0, x0_1, x0_2⟩ := x
  kernel_rfl
noncomputable def G64n (n : Nat) (a0 : List (C .e9)) (a1 : Int) : Option (Int) :=
      LP64_0 n  (a0, a1, 0)
theorem t64 (n : Nat) (a0 : List (C .e9)) (a1 : Int) : runFn X64 (F64 n) Go.Proofs.Try.f64 [.one (.row .e9 a0), .one (.int .i64 a1)] dec64 = G64n n a0 a1 := by
  have h : runFn X64 (F64 n) Go.Proofs.Try.f64 [.one (.row .e9 a0), .one (.int .i64 a1)] dec64 =
      MP64_0 n  (a0, a1, 0) := by kernel_rfl
  simp only [h, G64n, m64_0]
noncomputable def G64 (a0 : List (C .e9)) (a1 : Int) : Option (Int) := G64n fuel a0 a1
noncomputable def con64 : Con C := { R0 := Int, ret := fun r => [(false, [.int .i64 r])], g := fun vs => match vs with
  | [.one (.row .e9 y0), .one (.int .i64 y1)] => G64 y0 y1
  | _ => none }
theorem x64 : XOk Go.Proofs.Try.prog X64 := ⟨tks_ok, els_ok, mps_ok, meths_ok⟩
theorem q64 : Cons Go.Proofs.Try.prog X64 := ⟨lkR_ok (l := [(61, con61)]) ⟨c61, trivial⟩, lkW_ok (l := []) trivial, lkI_ok (l := []) trivial⟩
theorem c64 : ConOk Go.Proofs.Try.prog KK 64 con64 := by
  refine con_dec x64 q64 (by kernel_rfl) (f := 64) (fn := Go.Proofs.Try.f64) (c := bodyOf Go.Proofs.Try.f64) (by kernel_rfl) (by kernel_rfl) (by kernel_rfl) (nameB (by kernel_rfl)) con64 dec64 (fun rs r0 h => ?_) (fun vs r0 h => ?_)
  · unfold dec64 at h
    split at h
    · cases h; rfl
    · cases h
  · simp only [con64] at h
    split at h
    · rename_i y0 y1
      exact ⟨Nat.le_of_ble_eq_true (by kernel_rfl), F64 fuel, (t64 fuel y0 y1).trans h⟩
    · cases h
/-! ### f26 loop.example/wharfdesk/laws.heldGateObject -/
noncomputable def X26 : Cx C := { K := KK, tk := lk tks, con := lkC [(64, con64)], conw := lkC [], inl := lkA [], hold := [], mp := lk mps, meth := lkS meths, off := 1703936 }
def F26 (n : Nat) : Cf := { N := n, keep := [0, 1, 2, 4, 10, 16], live := lk [] }
def dec26 (rs : List (Bool × List (Lf C))) : Option (Int) := match rs with
  | [(false, [.int .i64 z0])] => some z0
  | _ => none
noncomputable def G26n (n : Nat) (a0 : VGateObject) (a1 : Int) : Option (Int) :=
      Option.bind (G64 a0.Values a1) fun r1 =>
      cond (decide (r1 < 0))
      (some ((-1)))
      (Option.bind (G64 a0.Holds r1) fun r2 =>
      cond (decide (r2 < 0))
      (some ((-1)))
      (some (r2)))
theorem t26 (n : Nat) (a0 : VGateObject) (a1 : Int) : runFn X26 (F26 n) Go.Proofs.Try.f26 [.agg [.str a0.Kind, .str a0.Name, .str a0.Team, .row .e9 a0.Values, .bool a0.Ending, .row .e9 a0.Holds, .int .i64 a0.Version], .one (.int .i64 a1)] dec26 = G26n n a0 a1 := by
  kernel_rfl
noncomputable def G26 (a0 : VGateObject) (a1 : Int) : Option (Int) := G26n fuel a0 a1
noncomputable def con26 : Con C := { R0 := Int, ret := fun r => [(false, [.int .i64 r])], g := fun vs => match vs with
  | [.agg [.str y0_0, .str y0_1, .str y0_2, .row .e9 y0_3, .bool y0_4, .row .e9 y0_5, .int .i64 y0_6], .one (.int .i64 y1)] => G26 ⟨y0_0, y0_1, y0_2, y0_3, y0_4, y0_5, y0_6⟩ y1
  | _ => none }
theorem x26 : XOk Go.Proofs.Try.prog X26 := ⟨tks_ok, els_ok, mps_ok, meths_ok⟩
theorem q26 : Cons Go.Proofs.Try.prog X26 := ⟨lkR_ok (l := [(64, con64)]) ⟨c64, trivial⟩, lkW_ok (l := []) trivial, lkI_ok (l := []) trivial⟩
theorem c26 : ConOk Go.Proofs.Try.prog KK 26 con26 := by
  refine con_dec x26 q26 (by kernel_rfl) (f := 26) (fn := Go.Proofs.Try.f26) (c := bodyOf Go.Proofs.Try.f26) (by kernel_rfl) (by kernel_rfl) (by kernel_rfl) (nameB (by kernel_rfl)) con26 dec26 (fun rs r0 h => ?_) (fun vs r0 h => ?_)
  · unfold dec26 at h
    split at h
    · cases h; rfl
    · cases h
  · simp only [con26] at h
    split at h
    · rename_i y0_0 y0_1 y0_2 y0_3 y0_4 y0_5 y0_6 y1
      exact ⟨Nat.le_of_ble_eq_true (by kernel_rfl), F26 fuel, (t26 fuel ⟨y0_0, y0_1, y0_2, y0_3, y0_4, y0_5, y0_6⟩ y1).trans h⟩
    · cases h
/-! ### f4 loop.example/wharfdesk/laws.FnExactGateMended -/
noncomputable def X4 : Cx C := { K := KK, tk := lk tks, con := lkC [(12, con12), (13, con13), (14, con14), (15, con15), (16, con16), (17, con17), (18, con18), (19, con19), (20, con20), (21, con21), (22, con22), (26, con26)], conw := lkC [(23, con23), (24, con24), (25, con25)], inl := lkA [], hold := [], mp := lk mps, meth := lkS meths, off := 262144 }
def F4 (n : Nat) : Cf := { N := n, keep := [0, 1, 2, 5, 6, 7, 8, 9, 10, 11, 12, 13, 14, 15, 16, 21, 26, 31, 52, 57, 62, 67, 84, 92, 95, 106, 111, 114], live := lk [] }
def dec4 (rs : List (Bool × List (Lf C))) : Option (Bool) := match rs with
  | [(false, [.bool z0])] => some z0
  | _ => none
noncomputable def G4n (n : Nat) (a0 : List (C .e74)) (a1 : List (C .e77)) (a2 : VGateObject) : Option (Bool) :=
      Option.bind (G12 a0 1048576) fun r1 =>
      cond (decide (r1 < 0))
      (some (true))
      (Option.bind (G13 a1 r1) fun r2 =>
      cond (decide (r2 < 0))
      (some (true))
      (Option.bind (G14 a2 r2) fun r3 =>
      cond (decide (r3 < 0))
      (some (true))
      (Option.bind (G16 a0) fun r4 =>
      Option.bind (G17 a1) fun r5 =>
      Option.bind (G18 a2) fun r6 =>
      Option.bind (G15 r4 r5 r6) fun r7 =>
      Option.bind (G16 a0) fun r8 =>
      Option.bind (G17 a1) fun r9 =>
      Option.bind (G18 a2) fun r10 =>
      Option.bind (G19 r8 r9 r10) fun r11 =>
      Option.bind (G20 r11 r7) fun r12 =>
      cond (!r12)
      (some (false))
      (Option.bind (G16 a0) fun r13 =>
      Option.bind (G21 r8 r13) fun r14 =>
      cond (!r14)
      (some (false))
      (Option.bind (G17 a1) fun r15 =>
      Option.bind (G22 r9 r15) fun r16 =>
      cond (!r16)
      (some (false))
      (Option.bind (G18 a2) fun r17 =>
      Option.bind (G20 r10 r17) fun r18 =>
      cond (!r18)
      (some (false))
      (Option.bind (G23 r8 1) fun r19 =>
      Option.bind (G24 r9 r19.2) fun r20 =>
      Option.bind (G25 r10 r20.2) fun r21 =>
      cond (decide (r21.2.2 < 0))
      (some (false))
      (Option.bind (G20 r11 r7) fun r22 =>
      cond (!r22)
      (some (false))
      (Option.bind (G25 r11 1) fun r23 =>
      Option.bind (G26 (⟨r11.Kind, r11.Name, r11.Team, r23.1, r11.Ending, r23.2.1, r11.Version⟩ : VGateObject) 1) fun r24 =>
      cond (decide (r24 < 0))
      (some (false))
      (cond (r24 != r23.2.2)
      (some (false))
      (Option.bind (G16 a0) fun r25 =>
      Option.bind (G17 a1) fun r26 =>
      Option.bind (G18 a2) fun r27 =>
      Option.bind (G19 r25 r26 r27) fun r28 =>
      Option.bind (G20 r28 r7) fun r29 =>
      cond (!r29)
      (some (false))
      (Option.bind (G26 (⟨r11.Kind, r11.Name, r11.Team, r23.1, r11.Ending, r23.2.1, r11.Version⟩ : VGateObject) 1) fun r30 =>
      cond (decide (r30 < 0))
      (some (false))
      (cond (r30 != r23.2.2)
      (some (false))
      (some (true)))))))))))))))
theorem t4 (n : Nat) (a0 : List (C .e74)) (a1 : List (C .e77)) (a2 : VGateObject) : runFn X4 (F4 n) Go.Proofs.Try.f4 [.one (.row .e74 a0), .one (.row .e77 a1), .agg [.str a2.Kind, .str a2.Name, .str a2.Team, .row .e9 a2.Values, .bool a2.Ending, .row .e9 a2.Holds, .int .i64 a2.Version]] dec4 = G4n n a0 a1 a2 := by
  kernel_rfl
noncomputable def G4 (a0 : List (C .e74)) (a1 : List (C .e77)) (a2 : VGateObject) : Option (Bool) := G4n fuel a0 a1 a2
noncomputable def con4 : Con C := { R0 := Bool, ret := fun r => [(false, [.bool r])], g := fun vs => match vs with
  | [.one (.row .e74 y0), .one (.row .e77 y1), .agg [.str y2_0, .str y2_1, .str y2_2, .row .e9 y2_3, .bool y2_4, .row .e9 y2_5, .int .i64 y2_6]] => G4 y0 y1 ⟨y2_0, y2_1, y2_2, y2_3, y2_4, y2_5, y2_6⟩
  | _ => none }
theorem x4 : XOk Go.Proofs.Try.prog X4 := ⟨tks_ok, els_ok, mps_ok, meths_ok⟩
theorem q4 : Cons Go.Proofs.Try.prog X4 := ⟨lkR_ok (l := [(12, con12), (13, con13), (14, con14), (15, con15), (16, con16), (17, con17), (18, con18), (19, con19), (20, con20), (21, con21), (22, con22), (26, con26)]) ⟨c12, c13, c14, c15, c16, c17, c18, c19, c20, c21, c22, c26, trivial⟩, lkW_ok (l := [(23, con23), (24, con24), (25, con25)]) ⟨c23, c24, c25, trivial⟩, lkI_ok (l := []) trivial⟩
theorem c4 : ConOk Go.Proofs.Try.prog KK 4 con4 := by
  refine con_dec x4 q4 (by kernel_rfl) (f := 4) (fn := Go.Proofs.Try.f4) (c := bodyOf Go.Proofs.Try.f4) (by kernel_rfl) (by kernel_rfl) (by kernel_rfl) (nameB (by kernel_rfl)) con4 dec4 (fun rs r0 h => ?_) (fun vs r0 h => ?_)
  · unfold dec4 at h
    split at h
    · cases h; rfl
    · cases h
  · simp only [con4] at h
    split at h
    · rename_i y0 y1 y2_0 y2_1 y2_2 y2_3 y2_4 y2_5 y2_6
      exact ⟨Nat.le_of_ble_eq_true (by kernel_rfl), F4 fuel, (t4 fuel y0 y1 ⟨y2_0, y2_1, y2_2, y2_3, y2_4, y2_5, y2_6⟩).trans h⟩
    · cases h

end Go.Proofs.Ytkiognopoigbhaa.Ab

/- The functions that the law calls, written plainly, and their contracts: each call answers what its plain function answers. No conditions. -/
set_option linter.unusedVariables false
set_option linter.unusedSimpArgs false
set_option maxRecDepth 100000
namespace Go.Proofs.Ytkiognopoigbhaa.Ab
open Go Go.RowKit
/-! ### f5 loop.example/wharfdesk/laws.FnExactGateShaped -/
noncomputable def X5 : Cx C := { K := KK, tk := lk tks, con := lkC [(12, con12), (13, con13), (14, con14), (16, con16), (17, con17), (18, con18), (20, con20), (21, con21), (22, con22), (26, con26), (27, con27), (28, con28)], conw := lkC [(23, con23), (24, con24), (25, con25)], inl := lkA [], hold := [], mp := lk mps, meth := lkS meths, off := 327680 }
def F5 (n : Nat) : Cf := { N := n, keep := [0, 1, 2, 5, 6, 7, 8, 9, 10, 11, 12, 13, 14, 15, 16, 21, 26, 31, 52, 57, 62, 67, 84, 92, 95, 106, 111, 114], live := lk [] }
def dec5 (rs : List (Bool × List (Lf C))) : Option (Bool) := match rs with
  | [(false, [.bool z0])] => some z0
  | _ => none
noncomputable def G5n (n : Nat) (a0 : List (C .e74)) (a1 : List (C .e77)) (a2 : VGateObject) : Option (Bool) :=
      Option.bind (G12 a0 1048576) fun r1 =>
      cond (decide (r1 < 0))
      (some (true))
      (Option.bind (G13 a1 r1) fun r2 =>
      cond (decide (r2 < 0))
      (some (true))
      (Option.bind (G14 a2 r2) fun r3 =>
      cond (decide (r3 < 0))
      (some (true))
      (Option.bind (G16 a0) fun r4 =>
      Option.bind (G17 a1) fun r5 =>
      Option.bind (G18 a2) fun r6 =>
      Option.bind (G27 r4 r5 r6) fun r7 =>
      Option.bind (G16 a0) fun r8 =>
      Option.bind (G17 a1) fun r9 =>
      Option.bind (G18 a2) fun r10 =>
      Option.bind (G28 r8 r9 r10) fun r11 =>
      Option.bind (G20 r11 r7) fun r12 =>
      cond (!r12)
      (some (false))
      (Option.bind (G16 a0) fun r13 =>
      Option.bind (G21 r8 r13) fun r14 =>
      cond (!r14)
      (some (false))
      (Option.bind (G17 a1) fun r15 =>
      Option.bind (G22 r9 r15) fun r16 =>
      cond (!r16)
      (some (false))
      (Option.bind (G18 a2) fun r17 =>
      Option.bind (G20 r10 r17) fun r18 =>
      cond (!r18)
      (some (false))
      (Option.bind (G23 r8 1) fun r19 =>
      Option.bind (G24 r9 r19.2) fun r20 =>
      Option.bind (G25 r10 r20.2) fun r21 =>
      cond (decide (r21.2.2 < 0))
      (some (false))
      (Option.bind (G20 r11 r7) fun r22 =>
      cond (!r22)
      (some (false))
      (Option.bind (G25 r11 1) fun r23 =>
      Option.bind (G26 (⟨r11.Kind, r11.Name, r11.Team, r23.1, r11.Ending, r23.2.1, r11.Version⟩ : VGateObject) 1) fun r24 =>
      cond (decide (r24 < 0))
      (some (false))
      (cond (r24 != r23.2.2)
      (some (false))
      (Option.bind (G16 a0) fun r25 =>
      Option.bind (G17 a1) fun r26 =>
      Option.bind (G18 a2) fun r27 =>
      Option.bind (G28 r25 r26 r27) fun r28 =>
      Option.bind (G20 r28 r7) fun r29 =>
      cond (!r29)
      (some (false))
      (Option.bind (G26 (⟨r11.Kind, r11.Name, r11.Team, r23.1, r11.Ending, r23.2.1, r11.Version⟩ : VGateObject) 1) fun r30 =>
      cond (decide (r30 < 0))
      (some (false))
      (cond (r30 != r23.2.2)
      (some (false))
      (some (true)))))))))))))))
theorem t5 (n : Nat) (a0 : List (C .e74)) (a1 : List (C .e77)) (a2 : VGateObject) : runFn X5 (F5 n) Go.Proofs.Try.f5 [.one (.row .e74 a0), .one (.row .e77 a1), .agg [.str a2.Kind, .str a2.Name, .str a2.Team, .row .e9 a2.Values, .bool a2.Ending, .row .e9 a2.Holds, .int .i64 a2.Version]] dec5 = G5n n a0 a1 a2 := by
  kernel_rfl
noncomputable def G5 (a0 : List (C .e74)) (a1 : List (C .e77)) (a2 : VGateObject) : Option (Bool) := G5n fuel a0 a1 a2
noncomputable def con5 : Con C := { R0 := Bool, ret := fun r => [(false, [.bool r])], g := fun vs => match vs with
  | [.one (.row .e74 y0), .one (.row .e77 y1), .agg [.str y2_0, .str y2_1, .str y2_2, .row .e9 y2_3, .bool y2_4, .row .e9 y2_5, .int .i64 y2_6]] => G5 y0 y1 ⟨y2_0, y2_1, y2_2, y2_3, y2_4, y2_5, y2_6⟩
  | _ => none }
theorem x5 : XOk Go.Proofs.Try.prog X5 := ⟨tks_ok, els_ok, mps_ok, meths_ok⟩
theorem q5 : Cons Go.Proofs.Try.prog X5 := ⟨lkR_ok (l := [(12, con12), (13, con13), (14, con14), (16, con16), (17, con17), (18, con18), (20, con20), (21, con21), (22, con22), (26, con26), (27, con27), (28, con28)]) ⟨c12, c13, c14, c16, c17, c18, c20, c21, c22, c26, c27, c28, trivial⟩, lkW_ok (l := [(23, con23), (24, con24), (25, con25)]) ⟨c23, c24, c25, trivial⟩, lkI_ok (l := []) trivial⟩
theorem c5 : ConOk Go.Proofs.Try.prog KK 5 con5 := by
  refine con_dec x5 q5 (by kernel_rfl) (f := 5) (fn := Go.Proofs.Try.f5) (c := bodyOf Go.Proofs.Try.f5) (by kernel_rfl) (by kernel_rfl) (by kernel_rfl) (nameB (by kernel_rfl)) con5 dec5 (fun rs r0 h => ?_) (fun vs r0 h => ?_)
  · unfold dec5 at h
    split at h
    · cases h; rfl
    · cases h
  · simp only [con5] at h
    split at h
    · rename_i y0 y1 y2_0 y2_1 y2_2 y2_3 y2_4 y2_5 y2_6
      exact ⟨Nat.le_of_ble_eq_true (by kernel_rfl), F5 fuel, (t5 fuel y0 y1 ⟨y2_0, y2_1, y2_2, y2_3, y2_4, y2_5, y2_6⟩).trans h⟩
    · cases h

end Go.Proofs.Ytkiognopoigbhaa.Ab

/- Loops told place by place; numbers that do not overflow. -/
set_option linter.unusedVariables false
set_option linter.unusedSimpArgs false
namespace Go.Proofs.Ytkiognopoigbhaa.Ab
open Go Go.RowKit

theorem wrap_id {n : Int} (h0 : -9223372036854775808 ≤ n) (h1 : n < 9223372036854775808) : IntKind.i64.wrap n = n := by
  simp [IntKind.wrap, IntKind.bits, IntKind.signed]
  omega

theorem lp_open {A R : Type} {rnd : (A → Option R) → A → Option R} {n : Nat} {x : A} (h : 0 < n) : lpN rnd n x = rnd (lpN rnd (n - 1)) x := by
  obtain ⟨m, rfl⟩ : ∃ k, n = k + 1 := ⟨n - 1, by omega⟩
  rfl
def allN (p : Nat → Bool) (len i : Nat) : Bool := (List.range' i (len - i)).all p
theorem allN_step {p : Nat → Bool} {len i : Nat} (h : i < len) : allN p len i = (p i && allN p len (i + 1)) := by
  unfold allN
  rw [show len - i = (len - (i + 1)) + 1 by omega, List.range'_succ]
  rfl
theorem allN_end (p : Nat → Bool) (len : Nat) : allN p len len = true := by simp [allN]
theorem wrap_pred {i : Nat} (h : 0 < i) (h2 : i < 4611686018427387904) : IntKind.i64.wrap ((i : Int) - 1) = ((i - 1 : Nat) : Int) := by
  rw [wrap_id (by omega) (by omega)]; omega

theorem fuel_big : 1152921504606846976 ≤ fuel := by unfold fuel; omega
theorem alt_self {R : Type} (a : Option R) : alt a a = a := by
  unfold alt
  cases a <;> simp
theorem wrap_nat {i : Nat} (h : i < 4611686018427387904) : IntKind.i64.wrap ((i : Int) + 1) = ((i + 1 : Nat) : Int) := by
  rw [wrap_id (by omega) (by omega)]; rfl
theorem lp_succ {A R : Type} (rnd : (A → Option R) → A → Option R) (n : Nat) (x : A) : lpN rnd (n + 1) x = rnd (lpN rnd n) x := rfl
/-- A loop over places, its state told place by place. -/
theorem lp_idx {A R : Type} {rnd : (A → Option R) → A → Option R} (st : Nat → A) (val : Nat → Option R) (len : Nat) (hend : ∀ rec, rnd rec (st len) = val len) (hstep : ∀ rec i, i < len → rec (st (i + 1)) = val (i + 1) → rnd rec (st i) = val i) :
    ∀ n i, i ≤ len → len - i < n → lpN rnd n (st i) = val i := by
  intro n
  induction n with
  | zero => intro i _ h; omega
  | succ n ih =>
    intro i hi hn
    rw [lp_succ]
    rcases Nat.lt_or_ge i len with h | h
    · exact hstep _ i h (ih (i + 1) (by omega) (by omega))
    · have e : i = len := by omega
      subst e
      exact hend _
theorem get_cast {α : Type} {xs : List α} {i : Nat} (h : i < xs.length) : xs[((i : Int)).toNat]? = some xs[i] := by simp [h]


end Go.Proofs.Ytkiognopoigbhaa.Ab

/- The plain law: what is marked is held; what is compared with itself is alike. Printed out of the types. -/
set_option linter.unusedVariables false
set_option linter.unusedSimpArgs false
set_option maxRecDepth 10000
namespace Go.Proofs.Ytkiognopoigbhaa.Ab
open Go Go.RowKit

theorem fuel_big2 : 2305843009213693952 ≤ fuel := by unfold fuel; omega
theorem len_sum {α : Type} {w : α → Nat} (h : ∀ x, 1 ≤ w x) : ∀ xs : List α, xs.length ≤ (xs.map w).sum
  | [] => Nat.le_refl _
  | x :: t => by have := len_sum h t; have := h x; simp only [List.length_cons, List.map_cons, List.sum_cons]; omega
theorem sum_get {α : Type} {w : α → Nat} : ∀ {xs : List α} {i : Nat} (hi : i < xs.length), w xs[i] ≤ (xs.map w).sum
  | [], _, h => by simp at h
  | x :: t, 0, _ => by simp
  | x :: t, i + 1, h => by
    have := sum_get (w := w) (xs := t) (i := i) (by simpa using h)
    simp only [List.getElem_cons_succ, List.map_cons, List.sum_cons]; omega
theorem sum_drop {α : Type} {w : α → Nat} {xs : List α} {i : Nat} (hi : i < xs.length) : ((xs.drop i).map w).sum = w xs[i] + ((xs.drop (i + 1)).map w).sum := by
  rw [List.drop_eq_getElem_cons hi, List.map_cons, List.sum_cons]
inductive HC {α : Type} (gm : α → Int → Int → Prop) (ys : List α) : Nat → Int → Int → Prop
  | done (k) : HC gm ys ys.length k k
  | step {i k k1 k'} (hi : i < ys.length) (h : gm ys[i] k k1) (h0 : 0 ≤ k) (r : HC gm ys (i + 1) k1 k') : HC gm ys i k k'
theorem held_lp {α : Type} {gm : α → Int → Int → Prop} {ys : List α} {rnd : (List α × Int × Int → Option Int) → List α × Int × Int → Option Int}
    (hend : ∀ rec k, rnd rec (ys, k, (ys.length : Int)) = some k)
    (hstep : ∀ rec i (hi : i < ys.length) k k1, gm ys[i] k k1 → 0 ≤ k → rnd rec (ys, k, (i : Int)) = rec (ys, k1, ((i + 1 : Nat) : Int)))
    {i : Nat} {k k' : Int} (h : HC gm ys i k k') : ∀ n, ys.length - i < n → lpN rnd n (ys, k, (i : Int)) = some k' := by
  induction h with
  | done k => intro n hn; rw [lp_open (by omega)]; exact hend _ _
  | @step i k k1 k' hi hm h0 _ ih =>
    intro n hn
    rw [lp_open (by omega), hstep _ i hi k k1 hm h0]
    exact ih _ (by omega)
theorem mark_lp {α : Type} {w : α → Nat} {gm : α → Int → Int → Prop} {rnd : (List α × Int × Int → Option (List α × Int)) → List α × Int × Int → Option (List α × Int)}
    (hend : ∀ rec (zs : List α) k, rnd rec (zs, k, (zs.length : Int)) = some (zs, k))
    (hstep : ∀ (zs : List α) i (hi : i < zs.length) k, zs.length ≤ 1152921504606846976 → 0 ≤ k → k + (w zs[i] : Int) ≤ 1152921504606846976 → ∃ y, (∀ rec, rnd rec (zs, k, (i : Int)) = rec (zs.set i y, k + (w zs[i] : Int), ((i + 1 : Nat) : Int))) ∧ gm y k (k + (w zs[i] : Int))) :
    ∀ n i (zs : List α) k, zs.length ≤ 1152921504606846976 → i ≤ zs.length → zs.length - i < n → 0 ≤ k → k + ((((zs.drop i).map w).sum : Nat) : Int) ≤ 1152921504606846976 → ∃ ys, lpN rnd n (zs, k, (i : Int)) = some (ys, k + ((((zs.drop i).map w).sum : Nat) : Int)) ∧ ys.length = zs.length ∧ (∀ j, j < i → ys[j]? = zs[j]?) ∧ HC gm ys i k (k + ((((zs.drop i).map w).sum : Nat) : Int)) := by
  intro n
  induction n with
  | zero => intro i zs k _ _ h; omega
  | succ n ih =>
    intro i zs k hl hi hn h0 hk
    rw [lp_succ]
    rcases Nat.lt_or_ge i zs.length with h | h
    · rw [sum_drop h] at hk ⊢
      obtain ⟨y, e, g⟩ := hstep zs i h k hl h0 (by omega)
      rw [e]
      have hd : (zs.set i y).drop (i + 1) = zs.drop (i + 1) := by rw [List.drop_set_of_lt (by omega)]
      obtain ⟨ys, e, e1, e2, e3⟩ := ih (i + 1) (zs.set i y) (k + (w zs[i] : Int)) (by rw [List.length_set]; omega) (by rw [List.length_set]; omega) (by rw [List.length_set]; omega) (by omega) (by rw [hd]; omega)
      rw [hd] at e e3
      rw [List.length_set] at e1
      have ek : k + (w zs[i] : Int) + ((((zs.drop (i + 1)).map w).sum : Nat) : Int) = k + ((w zs[i] + ((zs.drop (i + 1)).map w).sum : Nat) : Int) := by omega
      rw [ek] at e e3
      refine ⟨ys, e, e1, fun j hj => ?_, ?_⟩
      · rw [e2 j (by omega), List.getElem?_set_ne (by omega)]
      · have hy := e2 i (by omega)
        rw [List.getElem?_set_self h] at hy
        have hi' : i < ys.length := by omega
        rw [List.getElem?_eq_getElem hi'] at hy
        refine HC.step hi' ?_ h0 e3
        rw [Option.some.inj hy]
        exact g
    · obtain rfl : i = zs.length := by omega
      rw [hend]
      have e0 : k + ((((zs.drop zs.length).map w).sum : Nat) : Int) = k := by simp
      rw [e0]
      exact ⟨zs, rfl, rfl, fun _ _ => rfl, HC.done _⟩
theorem mark_both {α : Type} {w : α → Nat} {gm : α → Int → Int → Prop} {rm : (List α × Int × Int → Option (List α × Int)) → List α × Int × Int → Option (List α × Int)} {rh : (List α × Int × Int → Option Int) → List α × Int × Int → Option Int}
    (hw : ∀ x, 1 ≤ w x)
    (hend : ∀ rec (zs : List α) k, rm rec (zs, k, (zs.length : Int)) = some (zs, k))
    (hstep : ∀ (zs : List α) i (hi : i < zs.length) k, zs.length ≤ 1152921504606846976 → 0 ≤ k → k + (w zs[i] : Int) ≤ 1152921504606846976 → ∃ y, (∀ rec, rm rec (zs, k, (i : Int)) = rec (zs.set i y, k + (w zs[i] : Int), ((i + 1 : Nat) : Int))) ∧ gm y k (k + (w zs[i] : Int)))
    (hend2 : ∀ rec (ys : List α) k, rh rec (ys, k, (ys.length : Int)) = some k)
    (hstep2 : ∀ rec (ys : List α) i (hi : i < ys.length) k k1, ys.length ≤ 1152921504606846976 → gm ys[i] k k1 → 0 ≤ k → rh rec (ys, k, (i : Int)) = rec (ys, k1, ((i + 1 : Nat) : Int)))
    {xs : List α} {k : Int} (h0 : 0 ≤ k) (hk : k + (((xs.map w).sum : Nat) : Int) ≤ 1152921504606846976) :
    ∃ ys, lpN rm fuel (xs, k, 0) = some (ys, k + (((xs.map w).sum : Nat) : Int)) ∧ lpN rh fuel (ys, k, 0) = some (k + (((xs.map w).sum : Nat) : Int)) := by
  have hl := len_sum hw xs
  obtain ⟨ys, e, e1, _, e3⟩ := mark_lp hend hstep fuel 0 xs k (by omega) (Nat.zero_le _) (by have := fuel_big2; omega) h0 (by simpa using hk)
  refine ⟨ys, e, ?_⟩
  exact held_lp (fun rec k => hend2 rec ys k) (fun rec i hi k k1 g h0 => hstep2 rec ys i hi k k1 (by omega) g h0) e3 fuel (by have := fuel_big2; omega)
theorem eq_lp {α : Type} {xs : List α} {rnd : (List α × List α × Int → Option Bool) → List α × List α × Int → Option Bool}
    (hl : xs.length ≤ 1152921504606846976)
    (hend : ∀ rec, rnd rec (xs, xs, (xs.length : Int)) = some true)
    (hstep : ∀ rec i (hi : i < xs.length), rnd rec (xs, xs, (i : Int)) = rec (xs, xs, ((i + 1 : Nat) : Int))) : lpN rnd fuel (xs, xs, 0) = some true :=
  lp_idx (st := fun i => (xs, xs, (i : Int))) (val := fun _ => some true) xs.length hend (fun rec i hi hr => by rw [hstep rec i hi]; exact hr) fuel 0 (Nat.zero_le _) (by have := fuel_big2; omega)

theorem mt_lp : ∀ (m : Nat) (x : Int) (s : ByteArray) (n : Nat), 0 ≤ x → x < (10 : Int) ^ m → x ≤ 2305843009213693952 → s.size + m ≤ 1000 → m < n → ∃ t, lpN (r61_0 fuel) n (x, s) = some t := by
  intro m
  induction m with
  | zero =>
    intro x s n h0 h1 hx hs hn
    rw [lp_open (by omega)]
    have hc : ¬ x > 0 := by omega
    have hz : (⟨#[109]⟩ : ByteArray).size + s.size ≤ 9223372036854775807 := by have : (⟨#[109]⟩ : ByteArray).size = 1 := rfl; omega
    simp only [r61_0, hc, hz, decide_false, decide_true, cond_false, cond_true]
    exact ⟨_, rfl⟩
  | succ m ih =>
    intro x s n h0 h1 hx hs hn
    rw [lp_open (by omega)]
    have hz : (⟨#[109]⟩ : ByteArray).size + s.size ≤ 9223372036854775807 := by have : (⟨#[109]⟩ : ByteArray).size = 1 := rfl; omega
    by_cases hc : x > 0
    · have ht : ¬ ((10 : Int) = 0) := by decide
      have hd : x.tdiv 10 = x / 10 := Int.tdiv_eq_ediv_of_nonneg h0
      have hp : (10 : Int) ^ (m + 1) = 10 ^ m * 10 := Int.pow_succ _ _
      have hw : IntKind.i64.wrap (x.tdiv 10) = x / 10 := by rw [hd, wrap_id (by omega) (by omega)]
      have hone : ∀ b : Int, (strOf KK .e5 ([b] : List (C .e5))).size = 1 := fun b => rfl
      have hz' : ∀ b : Int, (strOf KK .e5 ([b] : List (C .e5))).size + s.size ≤ 9223372036854775807 := fun b => by rw [hone]; omega
      simp only [r61_0, hc, hz', ht, decide_false, decide_true, cond_false, cond_true, hw]
      refine ih (x / 10) _ (n - 1) (by omega) (by omega) (by omega) ?_ (by omega)
      rw [ByteArray.size_append, hone]; omega
    · simp only [r61_0, hc, hz, decide_false, decide_true, cond_false, cond_true]
      exact ⟨_, rfl⟩
noncomputable def mt (k : Int) : ByteArray := (G61 k).getD ⟨#[]⟩
theorem g61_mt {k : Int} (h : 0 ≤ k) (h2 : k ≤ 2305843009213693952) : G61 k = some (mt k) := by
  have : ∃ t, G61 k = some t := by
    unfold G61 G61n
    by_cases hc : k ≤ 0
    · exact ⟨⟨#[109, 48]⟩, by simp only [hc, decide_true, cond_true]⟩
    · simp only [hc, decide_false, cond_false]
      exact mt_lp 19 k _ fuel h (by have : (10 : Int) ^ 19 = 10000000000000000000 := rfl; omega) h2 (by decide) (by have := fuel_big; omega)
  obtain ⟨t, e⟩ := this
  unfold mt
  rw [e]
  rfl

def w_String (_ : ByteArray) : Nat := 1
def w_StringS (xs : List ByteArray) : Nat := (xs.map w_String).sum
theorem w_String_pos (x : ByteArray) : 1 ≤ w_String x := by unfold w_String; omega
theorem w_StringS_len (xs : List ByteArray) : xs.length ≤ w_StringS xs := len_sum w_String_pos xs
theorem eq_StringS {xs : List ByteArray} (h : w_StringS xs ≤ 1152921504606846976) : G58 xs xs = some true := by
  have hl := w_StringS_len xs
  unfold G58 G58n
  simp only [bne_self_eq_false, cond_false]
  refine eq_lp (rnd := r58_0 fuel) (by omega) (fun rec => by simp [r58_0]) (fun rec i hi => ?_)
  have hw := wrap_nat (i := i) (by omega)
  have h1 : (i : Int) < (xs.length : Int) := by omega
  simp only [r58_0]
  rw [get_cast hi, hw]
  simp only [h1, decide_true, cond_true, Int.natCast_nonneg, Option.bind_some, bne_self_eq_false, Bool.not_true, cond_false]
def gm_String (y : ByteArray) (k k1 : Int) : Prop := y = mt (k) ∧ k1 = k + 1 ∧ k1 ≤ 1152921504606846976
set_option maxHeartbeats 2000000 in
theorem mark_StringS {xs : List ByteArray} {k : Int} (h0 : 0 ≤ k) (h : k + (w_StringS xs : Int) ≤ 1152921504606846976) : ∃ ys : List ByteArray, G63 xs k = some (ys, k + (w_StringS xs : Int)) ∧ G64 ys k = some (k + (w_StringS xs : Int)) := by
  refine mark_both (α := ByteArray) (w := w_String) (gm := gm_String) (rm := r63_0 fuel) (rh := r64_0 fuel) w_String_pos (fun rec zs k => by simp [r63_0]) (fun zs i hi k hl h0 hk => ?_) (fun rec ys k => by simp [r64_0]) (fun rec ys i hi k k1 hl g h0 => ?_) h0 h
  · have hw := wrap_nat (i := i) (by omega)
    have h1 : (i : Int) < (zs.length : Int) := by omega
    have h30 : ¬ ((3 : Int) = 0) := by decide
    have h30n : ¬ ((3 : Nat) = 0) := by decide
    unfold w_String at hk ⊢
    have w0 : IntKind.i64.wrap (k + 1) = k + 1 := wrap_id (by omega) (by omega)
    have he : k + ((1 : Nat) : Int) = k + 1 := by omega
    rw [he]
    refine ⟨mt (k), fun rec => ?_, ⟨rfl, rfl, by omega⟩⟩
    simp only [r63_0]
    rw [hw]
    simp only [get_cast hi, List.getElem?_eq_getElem hi, h30, h30n, decide_false, h1, w0, g61_mt (k := k) (by omega) (by omega), decide_true, cond_true, cond_false, Int.natCast_nonneg, Option.bind_some, Int.toNat_natCast, List.length_set, List.set_set, List.getElem?_set_self hi]
  · obtain ⟨e, rfl, hb⟩ := g
    have hw := wrap_nat (i := i) (by omega)
    have h1 : (i : Int) < (ys.length : Int) := by omega
    have h30 : ¬ ((3 : Int) = 0) := by decide
    have h30n : ¬ ((3 : Nat) = 0) := by decide
    have w0 : IntKind.i64.wrap (k + 1) = k + 1 := wrap_id (by omega) (by omega)
    simp only [r64_0]
    rw [hw]
    simp only [get_cast hi, e, h30, h30n, decide_false, h1, w0, g61_mt (k := k) (by omega) (by omega), decide_true, decide_false, cond_true, cond_false, Int.natCast_nonneg, Option.bind_some, bne_self_eq_false, beq_self_eq_true, Bool.not_true]
def w_GateField (x : VGateField) : Nat := 10 + w_StringS x.Words
def w_GateFieldS (xs : List VGateField) : Nat := (xs.map w_GateField).sum
theorem w_GateField_pos (x : VGateField) : 1 ≤ w_GateField x := by unfold w_GateField; omega
theorem w_GateFieldS_len (xs : List VGateField) : xs.length ≤ w_GateFieldS xs := len_sum w_GateField_pos xs
theorem eq_GateField {x : VGateField} (h : w_GateField x ≤ 1152921504606846976) : G110 x x = some true := by
  unfold w_GateField at h
  simp only [G20, G20n, G59, G59n, G60, G60n, G110, G110n, eq_StringS (xs := x.Words) (by omega), bne_self_eq_false, cond_false, decide_true, Bool.not_true, Option.bind_some, beq_self_eq_true]
theorem eq_GateFieldS {xs : List VGateField} (h : w_GateFieldS xs ≤ 1152921504606846976) : G90 xs xs = some true := by
  have hl := w_GateFieldS_len xs
  unfold G90 G90n
  simp only [bne_self_eq_false, cond_false]
  refine eq_lp (rnd := r90_0 fuel) (by omega) (fun rec => by simp [r90_0]) (fun rec i hi => ?_)
  have hw := wrap_nat (i := i) (by omega)
  have h1 : (i : Int) < (xs.length : Int) := by omega
  have he := eq_GateField (x := xs[i]) (by have := sum_get (w := w_GateField) hi; unfold w_GateFieldS at h; omega)
  simp only [r90_0]
  rw [get_cast hi, hw]
  simp only [h1, decide_true, cond_true, Int.natCast_nonneg, Option.bind_some, bne_self_eq_false, Bool.not_true, cond_false, he]
set_option maxHeartbeats 2000000 in
theorem markO_GateFieldS {xs : List VGateField} {k : Int} (h0 : 0 ≤ k) (h : k + (w_GateFieldS xs : Int) ≤ 1152921504606846976) : ∃ ys : List VGateField, G62 xs k = some (ys, k + (w_GateFieldS xs : Int)) := by
  have hlw := w_GateFieldS_len xs
  have key := mark_lp (α := VGateField) (w := w_GateField) (gm := fun _ _ _ => True) (rnd := r62_0 fuel) (fun rec zs k => by simp [r62_0]) (fun zs i hi k hl h0 hk => ?_) fuel 0 xs k (by omega) (Nat.zero_le _) (by have := fuel_big2; omega) h0 (by simpa [w_GateFieldS] using h)
  · obtain ⟨ys, e, _⟩ := key
    refine ⟨ys, ?_⟩
    unfold G62 G62n LP62_0 w_GateFieldS
    simpa using e
  · have hw := wrap_nat (i := i) (by omega)
    have h1 : (i : Int) < (zs.length : Int) := by omega
    have h30 : ¬ ((3 : Int) = 0) := by decide
    have h30n : ¬ ((3 : Nat) = 0) := by decide
    unfold w_GateField at hk ⊢
    generalize en0 : w_StringS (zs[i]).Words = n0 at hk ⊢
    obtain ⟨l0, ml0, hl0⟩ := mark_StringS (xs := (zs[i]).Words) (k := k + 1 + 1 + 1 + 1) (by omega) (by rw [en0]; omega)
    rw [en0] at ml0 hl0
    have w0 : IntKind.i64.wrap (k + 1) = k + 1 := wrap_id (by omega) (by omega)
    have w1 : IntKind.i64.wrap (k + 1 + 1) = k + 1 + 1 := wrap_id (by omega) (by omega)
    have w2 : IntKind.i64.wrap (k + 1 + 1 + 1) = k + 1 + 1 + 1 := wrap_id (by omega) (by omega)
    have w3 : IntKind.i64.wrap (k + 1 + 1 + 1 + 1) = k + 1 + 1 + 1 + 1 := wrap_id (by omega) (by omega)
    have w4 : IntKind.i64.wrap (k + 1 + 1 + 1 + 1 + (n0 : Int) + 1) = k + 1 + 1 + 1 + 1 + (n0 : Int) + 1 := wrap_id (by omega) (by omega)
    have w5 : IntKind.i64.wrap (k + 1 + 1 + 1 + 1 + (n0 : Int) + 1 + 1) = k + 1 + 1 + 1 + 1 + (n0 : Int) + 1 + 1 := wrap_id (by omega) (by omega)
    have w6 : IntKind.i64.wrap (k + 1 + 1 + 1 + 1 + (n0 : Int) + 1 + 1 + 1) = k + 1 + 1 + 1 + 1 + (n0 : Int) + 1 + 1 + 1 := wrap_id (by omega) (by omega)
    have w7 : IntKind.i64.wrap (k + 1 + 1 + 1 + 1 + (n0 : Int) + 1 + 1 + 1 + 1) = k + 1 + 1 + 1 + 1 + (n0 : Int) + 1 + 1 + 1 + 1 := wrap_id (by omega) (by omega)
    have w8 : IntKind.i64.wrap (k + 1 + 1 + 1 + 1 + (n0 : Int) + 1 + 1 + 1 + 1 + 1) = k + 1 + 1 + 1 + 1 + (n0 : Int) + 1 + 1 + 1 + 1 + 1 := wrap_id (by omega) (by omega)
    have w9 : IntKind.i64.wrap (k + 1 + 1 + 1 + 1 + (n0 : Int) + 1 + 1 + 1 + 1 + 1 + 1) = k + 1 + 1 + 1 + 1 + (n0 : Int) + 1 + 1 + 1 + 1 + 1 + 1 := wrap_id (by omega) (by omega)
    have he : k + ((10 + n0 : Nat) : Int) = k + 1 + 1 + 1 + 1 + (n0 : Int) + 1 + 1 + 1 + 1 + 1 + 1 := by omega
    rw [he]
    refine ⟨(⟨mt (k), k + 1, k + 1 + 1, k + 1 + 1 + 1, l0, mt (k + 1 + 1 + 1 + 1 + (n0 : Int)), k + 1 + 1 + 1 + 1 + (n0 : Int) + 1, ((k + 1 + 1 + 1 + 1 + (n0 : Int) + 1 + 1).tmod 3 == 0), ((k + 1 + 1 + 1 + 1 + (n0 : Int) + 1 + 1 + 1).tmod 3 == 0), mt (k + 1 + 1 + 1 + 1 + (n0 : Int) + 1 + 1 + 1 + 1), mt (k + 1 + 1 + 1 + 1 + (n0 : Int) + 1 + 1 + 1 + 1 + 1)⟩ : VGateField), fun rec => ?_, trivial⟩
    simp only [r62_0]
    rw [hw]
    simp only [get_cast hi, List.getElem?_eq_getElem hi, h30, h30n, decide_false, h1, w0, w1, w2, w3, w4, w5, w6, w7, w8, w9, ml0, g61_mt (k := k) (by omega) (by omega), g61_mt (k := k + 1 + 1 + 1 + 1 + (n0 : Int)) (by omega) (by omega), g61_mt (k := k + 1 + 1 + 1 + 1 + (n0 : Int) + 1 + 1 + 1 + 1) (by omega) (by omega), g61_mt (k := k + 1 + 1 + 1 + 1 + (n0 : Int) + 1 + 1 + 1 + 1 + 1) (by omega) (by omega), decide_true, cond_true, cond_false, Int.natCast_nonneg, Option.bind_some, Int.toNat_natCast, List.length_set, List.set_set, List.getElem?_set_self hi]
def w_GateShape (x : VGateShape) : Nat := 1 + w_GateFieldS x.Fields
def w_GateShapeS (xs : List VGateShape) : Nat := (xs.map w_GateShape).sum
theorem w_GateShape_pos (x : VGateShape) : 1 ≤ w_GateShape x := by unfold w_GateShape; omega
theorem w_GateShapeS_len (xs : List VGateShape) : xs.length ≤ w_GateShapeS xs := len_sum w_GateShape_pos xs
theorem eq_GateShape {x : VGateShape} (h : w_GateShape x ≤ 1152921504606846976) : G59 x x = some true := by
  unfold w_GateShape at h
  simp only [G20, G20n, G59, G59n, G60, G60n, G110, G110n, eq_GateFieldS (xs := x.Fields) (by omega), bne_self_eq_false, cond_false, decide_true, Bool.not_true, Option.bind_some, beq_self_eq_true]
theorem eq_GateShapeS {xs : List VGateShape} (h : w_GateShapeS xs ≤ 1152921504606846976) : G21 xs xs = some true := by
  have hl := w_GateShapeS_len xs
  unfold G21 G21n
  simp only [bne_self_eq_false, cond_false]
  refine eq_lp (rnd := r21_0 fuel) (by omega) (fun rec => by simp [r21_0]) (fun rec i hi => ?_)
  have hw := wrap_nat (i := i) (by omega)
  have h1 : (i : Int) < (xs.length : Int) := by omega
  have he := eq_GateShape (x := xs[i]) (by have := sum_get (w := w_GateShape) hi; unfold w_GateShapeS at h; omega)
  simp only [r21_0]
  rw [get_cast hi, hw]
  simp only [h1, decide_true, cond_true, Int.natCast_nonneg, Option.bind_some, bne_self_eq_false, Bool.not_true, cond_false, he]
set_option maxHeartbeats 2000000 in
theorem markO_GateShapeS {xs : List VGateShape} {k : Int} (h0 : 0 ≤ k) (h : k + (w_GateShapeS xs : Int) ≤ 1152921504606846976) : ∃ ys : List VGateShape, G23 xs k = some (ys, k + (w_GateShapeS xs : Int)) := by
  have hlw := w_GateShapeS_len xs
  have key := mark_lp (α := VGateShape) (w := w_GateShape) (gm := fun _ _ _ => True) (rnd := r23_0 fuel) (fun rec zs k => by simp [r23_0]) (fun zs i hi k hl h0 hk => ?_) fuel 0 xs k (by omega) (Nat.zero_le _) (by have := fuel_big2; omega) h0 (by simpa [w_GateShapeS] using h)
  · obtain ⟨ys, e, _⟩ := key
    refine ⟨ys, ?_⟩
    unfold G23 G23n LP23_0 w_GateShapeS
    simpa using e
  · have hw := wrap_nat (i := i) (by omega)
    have h1 : (i : Int) < (zs.length : Int) := by omega
    have h30 : ¬ ((3 : Int) = 0) := by decide
    have h30n : ¬ ((3 : Nat) = 0) := by decide
    unfold w_GateShape at hk ⊢
    generalize en0 : w_GateFieldS (zs[i]).Fields = n0 at hk ⊢
    obtain ⟨l0, ml0⟩ := markO_GateFieldS (xs := (zs[i]).Fields) (k := k + 1) (by omega) (by rw [en0]; omega)
    rw [en0] at ml0
    have w0 : IntKind.i64.wrap (k + 1) = k + 1 := wrap_id (by omega) (by omega)
    have he : k + ((1 + n0 : Nat) : Int) = k + 1 + (n0 : Int) := by omega
    rw [he]
    refine ⟨(⟨mt (k), l0⟩ : VGateShape), fun rec => ?_, trivial⟩
    simp only [r23_0]
    rw [hw]
    simp only [get_cast hi, List.getElem?_eq_getElem hi, h30, h30n, decide_false, h1, w0, ml0, g61_mt (k := k) (by omega) (by omega), decide_true, cond_true, cond_false, Int.natCast_nonneg, Option.bind_some, Int.toNat_natCast, List.length_set, List.set_set, List.getElem?_set_self hi]
def w_GateMend (x : VGateMend) : Nat := 6
def w_GateMendS (xs : List VGateMend) : Nat := (xs.map w_GateMend).sum
theorem w_GateMend_pos (x : VGateMend) : 1 ≤ w_GateMend x := by unfold w_GateMend; omega
theorem w_GateMendS_len (xs : List VGateMend) : xs.length ≤ w_GateMendS xs := len_sum w_GateMend_pos xs
theorem eq_GateMend {x : VGateMend} (h : w_GateMend x ≤ 1152921504606846976) : G60 x x = some true := by
  unfold w_GateMend at h
  simp only [G20, G20n, G59, G59n, G60, G60n, G110, G110n, bne_self_eq_false, cond_false, decide_true, Bool.not_true, Option.bind_some, beq_self_eq_true]
theorem eq_GateMendS {xs : List VGateMend} (h : w_GateMendS xs ≤ 1152921504606846976) : G22 xs xs = some true := by
  have hl := w_GateMendS_len xs
  unfold G22 G22n
  simp only [bne_self_eq_false, cond_false]
  refine eq_lp (rnd := r22_0 fuel) (by omega) (fun rec => by simp [r22_0]) (fun rec i hi => ?_)
  have hw := wrap_nat (i := i) (by omega)
  have h1 : (i : Int) < (xs.length : Int) := by omega
  have he := eq_GateMend (x := xs[i]) (by have := sum_get (w := w_GateMend) hi; unfold w_GateMendS at h; omega)
  simp only [r22_0]
  rw [get_cast hi, hw]
  simp only [h1, decide_true, cond_true, Int.natCast_nonneg, Option.bind_some, bne_self_eq_false, Bool.not_true, cond_false, he]
set_option maxHeartbeats 2000000 in
theorem markO_GateMendS {xs : List VGateMend} {k : Int} (h0 : 0 ≤ k) (h : k + (w_GateMendS xs : Int) ≤ 1152921504606846976) : ∃ ys : List VGateMend, G24 xs k = some (ys, k + (w_GateMendS xs : Int)) := by
  have hlw := w_GateMendS_len xs
  have key := mark_lp (α := VGateMend) (w := w_GateMend) (gm := fun _ _ _ => True) (rnd := r24_0 fuel) (fun rec zs k => by simp [r24_0]) (fun zs i hi k hl h0 hk => ?_) fuel 0 xs k (by omega) (Nat.zero_le _) (by have := fuel_big2; omega) h0 (by simpa [w_GateMendS] using h)
  · obtain ⟨ys, e, _⟩ := key
    refine ⟨ys, ?_⟩
    unfold G24 G24n LP24_0 w_GateMendS
    simpa using e
  · have hw := wrap_nat (i := i) (by omega)
    have h1 : (i : Int) < (zs.length : Int) := by omega
    have h30 : ¬ ((3 : Int) = 0) := by decide
    have h30n : ¬ ((3 : Nat) = 0) := by decide
    unfold w_GateMend at hk ⊢
    have w0 : IntKind.i64.wrap (k + 1) = k + 1 := wrap_id (by omega) (by omega)
    have w1 : IntKind.i64.wrap (k + 1 + 1) = k + 1 + 1 := wrap_id (by omega) (by omega)
    have w2 : IntKind.i64.wrap (k + 1 + 1 + 1) = k + 1 + 1 + 1 := wrap_id (by omega) (by omega)
    have w3 : IntKind.i64.wrap (k + 1 + 1 + 1 + 1) = k + 1 + 1 + 1 + 1 := wrap_id (by omega) (by omega)
    have w4 : IntKind.i64.wrap (k + 1 + 1 + 1 + 1 + 1) = k + 1 + 1 + 1 + 1 + 1 := wrap_id (by omega) (by omega)
    have w5 : IntKind.i64.wrap (k + 1 + 1 + 1 + 1 + 1 + 1) = k + 1 + 1 + 1 + 1 + 1 + 1 := wrap_id (by omega) (by omega)
    have he : k + ((6 : Nat) : Int) = k + 1 + 1 + 1 + 1 + 1 + 1 := by omega
    rw [he]
    refine ⟨(⟨mt (k), mt (k + 1), mt (k + 1 + 1), mt (k + 1 + 1 + 1), mt (k + 1 + 1 + 1 + 1), mt (k + 1 + 1 + 1 + 1 + 1)⟩ : VGateMend), fun rec => ?_, trivial⟩
    simp only [r24_0]
    rw [hw]
    simp only [get_cast hi, List.getElem?_eq_getElem hi, h30, h30n, decide_false, h1, w0, w1, w2, w3, w4, w5, g61_mt (k := k) (by omega) (by omega), g61_mt (k := k + 1) (by omega) (by omega), g61_mt (k := k + 1 + 1) (by omega) (by omega), g61_mt (k := k + 1 + 1 + 1) (by omega) (by omega), g61_mt (k := k + 1 + 1 + 1 + 1) (by omega) (by omega), g61_mt (k := k + 1 + 1 + 1 + 1 + 1) (by omega) (by omega), decide_true, cond_true, cond_false, Int.natCast_nonneg, Option.bind_some, Int.toNat_natCast, List.length_set, List.set_set, List.getElem?_set_self hi]
end Go.Proofs.Ytkiognopoigbhaa.Ab

/- A codec, printed by codec.py: what a kind tells. -/
set_option linter.unusedVariables false
namespace Go.Proofs.Ytkiognopoigbhaa.Ab
open Go Go.RowKit
theorem ek3 : ∀ ls : List (Lf C), kindsB [.int .i64] ls = true → ∃ x, d3 ls = some x := by
  intro ls0 g0
  obtain ⟨l0, ls1, rfl, h0, g1⟩ := kinds_cons g0
  obtain ⟨x0, rfl⟩ := kind_int h0
  obtain rfl := kinds_nil g1
  exact ⟨_, rfl⟩
theorem ek5 : ∀ ls : List (Lf C), kindsB [.int .u8] ls = true → ∃ x, d5 ls = some x := by
  intro ls0 g0
  obtain ⟨l0, ls1, rfl, h0, g1⟩ := kinds_cons g0
  obtain ⟨x0, rfl⟩ := kind_int h0
  obtain rfl := kinds_nil g1
  exact ⟨_, rfl⟩
theorem ek9 : ∀ ls : List (Lf C), kindsB [.str] ls = true → ∃ x, d9 ls = some x := by
  intro ls0 g0
  obtain ⟨l0, ls1, rfl, h0, g1⟩ := kinds_cons g0
  obtain ⟨x0, rfl⟩ := kind_str h0
  obtain rfl := kinds_nil g1
  exact ⟨_, rfl⟩
theorem ek29 : ∀ ls : List (Lf C), kindsB [.sli .e81] ls = true → ∃ x, d29 ls = some x := by
  intro ls0 g0
  obtain ⟨l0, ls1, rfl, h0, g1⟩ := kinds_cons g0
  obtain ⟨x0, rfl⟩ := kind_sli h0
  obtain rfl := kinds_nil g1
  exact ⟨_, rfl⟩
theorem ek30 : ∀ ls : List (Lf C), kindsB [.sli .e83] ls = true → ∃ x, d30 ls = some x := by
  intro ls0 g0
  obtain ⟨l0, ls1, rfl, h0, g1⟩ := kinds_cons g0
  obtain ⟨x0, rfl⟩ := kind_sli h0
  obtain rfl := kinds_nil g1
  exact ⟨_, rfl⟩
theorem ek37 : ∀ ls : List (Lf C), kindsB [.sli .e9] ls = true → ∃ x, d37 ls = some x := by
  intro ls0 g0
  obtain ⟨l0, ls1, rfl, h0, g1⟩ := kinds_cons g0
  obtain ⟨x0, rfl⟩ := kind_sli h0
  obtain rfl := kinds_nil g1
  exact ⟨_, rfl⟩
theorem ek43 : ∀ ls : List (Lf C), kindsB [.str, .str, .str, .sli .e9, .bool, .sli .e9, .int .i64] ls = true → ∃ x, d43 ls = some x := by
  intro ls0 g0
  obtain ⟨l0, ls1, rfl, h0, g1⟩ := kinds_cons g0
  obtain ⟨x0, rfl⟩ := kind_str h0
  obtain ⟨l1, ls2, rfl, h1, g2⟩ := kinds_cons g1
  obtain ⟨x1, rfl⟩ := kind_str h1
  obtain ⟨l2, ls3, rfl, h2, g3⟩ := kinds_cons g2
  obtain ⟨x2, rfl⟩ := kind_str h2
  obtain ⟨l3, ls4, rfl, h3, g4⟩ := kinds_cons g3
  obtain ⟨x3, rfl⟩ := kind_sli h3
  obtain ⟨l4, ls5, rfl, h4, g5⟩ := kinds_cons g4
  obtain ⟨x4, rfl⟩ := kind_bool h4
  obtain ⟨l5, ls6, rfl, h5, g6⟩ := kinds_cons g5
  obtain ⟨x5, rfl⟩ := kind_sli h5
  obtain ⟨l6, ls7, rfl, h6, g7⟩ := kinds_cons g6
  obtain ⟨x6, rfl⟩ := kind_int h6
  obtain rfl := kinds_nil g7
  exact ⟨_, rfl⟩
theorem ek60 : ∀ ls : List (Lf C), kindsB [.sli .e100] ls = true → ∃ x, d60 ls = some x := by
  intro ls0 g0
  obtain ⟨l0, ls1, rfl, h0, g1⟩ := kinds_cons g0
  obtain ⟨x0, rfl⟩ := kind_sli h0
  obtain rfl := kinds_nil g1
  exact ⟨_, rfl⟩
theorem ek74 : ∀ ls : List (Lf C), kindsB [.str, .sli .e134] ls = true → ∃ x, d74 ls = some x := by
  intro ls0 g0
  obtain ⟨l0, ls1, rfl, h0, g1⟩ := kinds_cons g0
  obtain ⟨x0, rfl⟩ := kind_str h0
  obtain ⟨l1, ls2, rfl, h1, g2⟩ := kinds_cons g1
  obtain ⟨x1, rfl⟩ := kind_sli h1
  obtain rfl := kinds_nil g2
  exact ⟨_, rfl⟩
theorem ek77 : ∀ ls : List (Lf C), kindsB [.str, .str, .str, .str, .str, .str] ls = true → ∃ x, d77 ls = some x := by
  intro ls0 g0
  obtain ⟨l0, ls1, rfl, h0, g1⟩ := kinds_cons g0
  obtain ⟨x0, rfl⟩ := kind_str h0
  obtain ⟨l1, ls2, rfl, h1, g2⟩ := kinds_cons g1
  obtain ⟨x1, rfl⟩ := kind_str h1
  obtain ⟨l2, ls3, rfl, h2, g3⟩ := kinds_cons g2
  obtain ⟨x2, rfl⟩ := kind_str h2
  obtain ⟨l3, ls4, rfl, h3, g4⟩ := kinds_cons g3
  obtain ⟨x3, rfl⟩ := kind_str h3
  obtain ⟨l4, ls5, rfl, h4, g5⟩ := kinds_cons g4
  obtain ⟨x4, rfl⟩ := kind_str h4
  obtain ⟨l5, ls6, rfl, h5, g6⟩ := kinds_cons g5
  obtain ⟨x5, rfl⟩ := kind_str h5
  obtain rfl := kinds_nil g6
  exact ⟨_, rfl⟩
theorem ek81 : ∀ ls : List (Lf C), kindsB [.str, .sli .e100] ls = true → ∃ x, d81 ls = some x := by
  intro ls0 g0
  obtain ⟨l0, ls1, rfl, h0, g1⟩ := kinds_cons g0
  obtain ⟨x0, rfl⟩ := kind_str h0
  obtain ⟨l1, ls2, rfl, h1, g2⟩ := kinds_cons g1
  obtain ⟨x1, rfl⟩ := kind_sli h1
  obtain rfl := kinds_nil g2
  exact ⟨_, rfl⟩
theorem ek83 : ∀ ls : List (Lf C), kindsB [.str, .str, .str, .str, .str, .str] ls = true → ∃ x, d83 ls = some x := by
  intro ls0 g0
  obtain ⟨l0, ls1, rfl, h0, g1⟩ := kinds_cons g0
  obtain ⟨x0, rfl⟩ := kind_str h0
  obtain ⟨l1, ls2, rfl, h1, g2⟩ := kinds_cons g1
  obtain ⟨x1, rfl⟩ := kind_str h1
  obtain ⟨l2, ls3, rfl, h2, g3⟩ := kinds_cons g2
  obtain ⟨x2, rfl⟩ := kind_str h2
  obtain ⟨l3, ls4, rfl, h3, g4⟩ := kinds_cons g3
  obtain ⟨x3, rfl⟩ := kind_str h3
  obtain ⟨l4, ls5, rfl, h4, g5⟩ := kinds_cons g4
  obtain ⟨x4, rfl⟩ := kind_str h4
  obtain ⟨l5, ls6, rfl, h5, g6⟩ := kinds_cons g5
  obtain ⟨x5, rfl⟩ := kind_str h5
  obtain rfl := kinds_nil g6
  exact ⟨_, rfl⟩
theorem ek100 : ∀ ls : List (Lf C), kindsB [.str, .int .i64, .int .i64, .int .i64, .sli .e9, .str, .int .i64, .bool, .bool, .str, .str] ls = true → ∃ x, d100 ls = some x := by
  intro ls0 g0
  obtain ⟨l0, ls1, rfl, h0, g1⟩ := kinds_cons g0
  obtain ⟨x0, rfl⟩ := kind_str h0
  obtain ⟨l1, ls2, rfl, h1, g2⟩ := kinds_cons g1
  obtain ⟨x1, rfl⟩ := kind_int h1
  obtain ⟨l2, ls3, rfl, h2, g3⟩ := kinds_cons g2
  obtain ⟨x2, rfl⟩ := kind_int h2
  obtain ⟨l3, ls4, rfl, h3, g4⟩ := kinds_cons g3
  obtain ⟨x3, rfl⟩ := kind_int h3
  obtain ⟨l4, ls5, rfl, h4, g5⟩ := kinds_cons g4
  obtain ⟨x4, rfl⟩ := kind_sli h4
  obtain ⟨l5, ls6, rfl, h5, g6⟩ := kinds_cons g5
  obtain ⟨x5, rfl⟩ := kind_str h5
  obtain ⟨l6, ls7, rfl, h6, g7⟩ := kinds_cons g6
  obtain ⟨x6, rfl⟩ := kind_int h6
  obtain ⟨l7, ls8, rfl, h7, g8⟩ := kinds_cons g7
  obtain ⟨x7, rfl⟩ := kind_bool h7
  obtain ⟨l8, ls9, rfl, h8, g9⟩ := kinds_cons g8
  obtain ⟨x8, rfl⟩ := kind_bool h8
  obtain ⟨l9, ls10, rfl, h9, g10⟩ := kinds_cons g9
  obtain ⟨x9, rfl⟩ := kind_str h9
  obtain ⟨l10, ls11, rfl, h10, g11⟩ := kinds_cons g10
  obtain ⟨x10, rfl⟩ := kind_str h10
  obtain rfl := kinds_nil g11
  exact ⟨_, rfl⟩
theorem ek103 : ∀ ls : List (Lf C), kindsB [.str, .str] ls = true → ∃ x, d103 ls = some x := by
  intro ls0 g0
  obtain ⟨l0, ls1, rfl, h0, g1⟩ := kinds_cons g0
  obtain ⟨x0, rfl⟩ := kind_str h0
  obtain ⟨l1, ls2, rfl, h1, g2⟩ := kinds_cons g1
  obtain ⟨x1, rfl⟩ := kind_str h1
  obtain rfl := kinds_nil g2
  exact ⟨_, rfl⟩
theorem ek106 : ∀ ls : List (Lf C), kindsB [.str, .str] ls = true → ∃ x, d106 ls = some x := by
  intro ls0 g0
  obtain ⟨l0, ls1, rfl, h0, g1⟩ := kinds_cons g0
  obtain ⟨x0, rfl⟩ := kind_str h0
  obtain ⟨l1, ls2, rfl, h1, g2⟩ := kinds_cons g1
  obtain ⟨x1, rfl⟩ := kind_str h1
  obtain rfl := kinds_nil g2
  exact ⟨_, rfl⟩
theorem ek134 : ∀ ls : List (Lf C), kindsB [.str, .int .i64, .int .i64, .int .i64, .sli .e9, .str, .int .i64, .bool, .bool, .str, .str] ls = true → ∃ x, d134 ls = some x := by
  intro ls0 g0
  obtain ⟨l0, ls1, rfl, h0, g1⟩ := kinds_cons g0
  obtain ⟨x0, rfl⟩ := kind_str h0
  obtain ⟨l1, ls2, rfl, h1, g2⟩ := kinds_cons g1
  obtain ⟨x1, rfl⟩ := kind_int h1
  obtain ⟨l2, ls3, rfl, h2, g3⟩ := kinds_cons g2
  obtain ⟨x2, rfl⟩ := kind_int h2
  obtain ⟨l3, ls4, rfl, h3, g4⟩ := kinds_cons g3
  obtain ⟨x3, rfl⟩ := kind_int h3
  obtain ⟨l4, ls5, rfl, h4, g5⟩ := kinds_cons g4
  obtain ⟨x4, rfl⟩ := kind_sli h4
  obtain ⟨l5, ls6, rfl, h5, g6⟩ := kinds_cons g5
  obtain ⟨x5, rfl⟩ := kind_str h5
  obtain ⟨l6, ls7, rfl, h6, g7⟩ := kinds_cons g6
  obtain ⟨x6, rfl⟩ := kind_int h6
  obtain ⟨l7, ls8, rfl, h7, g8⟩ := kinds_cons g7
  obtain ⟨x7, rfl⟩ := kind_bool h7
  obtain ⟨l8, ls9, rfl, h8, g9⟩ := kinds_cons g8
  obtain ⟨x8, rfl⟩ := kind_bool h8
  obtain ⟨l9, ls10, rfl, h9, g10⟩ := kinds_cons g9
  obtain ⟨x9, rfl⟩ := kind_str h9
  obtain ⟨l10, ls11, rfl, h10, g11⟩ := kinds_cons g10
  obtain ⟨x10, rfl⟩ := kind_str h10
  obtain rfl := kinds_nil g11
  exact ⟨_, rfl⟩
theorem ek199 : ∀ ls : List (Lf C), kindsB [.int .i64, .str, .str, .sli .e3, .str, .str, .str] ls = true → ∃ x, d199 ls = some x := by
  intro ls0 g0
  obtain ⟨l0, ls1, rfl, h0, g1⟩ := kinds_cons g0
  obtain ⟨x0, rfl⟩ := kind_int h0
  obtain ⟨l1, ls2, rfl, h1, g2⟩ := kinds_cons g1
  obtain ⟨x1, rfl⟩ := kind_str h1
  obtain ⟨l2, ls3, rfl, h2, g3⟩ := kinds_cons g2
  obtain ⟨x2, rfl⟩ := kind_str h2
  obtain ⟨l3, ls4, rfl, h3, g4⟩ := kinds_cons g3
  obtain ⟨x3, rfl⟩ := kind_sli h3
  obtain ⟨l4, ls5, rfl, h4, g5⟩ := kinds_cons g4
  obtain ⟨x4, rfl⟩ := kind_str h4
  obtain ⟨l5, ls6, rfl, h5, g6⟩ := kinds_cons g5
  obtain ⟨x5, rfl⟩ := kind_str h5
  obtain ⟨l6, ls7, rfl, h6, g7⟩ := kinds_cons g6
  obtain ⟨x6, rfl⟩ := kind_str h6
  obtain rfl := kinds_nil g7
  exact ⟨_, rfl⟩
theorem ek201 : ∀ ls : List (Lf C), kindsB [.str, .str, .int .i64, .int .i64] ls = true → ∃ x, d201 ls = some x := by
  intro ls0 g0
  obtain ⟨l0, ls1, rfl, h0, g1⟩ := kinds_cons g0
  obtain ⟨x0, rfl⟩ := kind_str h0
  obtain ⟨l1, ls2, rfl, h1, g2⟩ := kinds_cons g1
  obtain ⟨x1, rfl⟩ := kind_str h1
  obtain ⟨l2, ls3, rfl, h2, g3⟩ := kinds_cons g2
  obtain ⟨x2, rfl⟩ := kind_int h2
  obtain ⟨l3, ls4, rfl, h3, g4⟩ := kinds_cons g3
  obtain ⟨x3, rfl⟩ := kind_int h3
  obtain rfl := kinds_nil g4
  exact ⟨_, rfl⟩
theorem ek203 : ∀ ls : List (Lf C), kindsB [.str, .str, .str, .int .i64, .int .i64] ls = true → ∃ x, d203 ls = some x := by
  intro ls0 g0
  obtain ⟨l0, ls1, rfl, h0, g1⟩ := kinds_cons g0
  obtain ⟨x0, rfl⟩ := kind_str h0
  obtain ⟨l1, ls2, rfl, h1, g2⟩ := kinds_cons g1
  obtain ⟨x1, rfl⟩ := kind_str h1
  obtain ⟨l2, ls3, rfl, h2, g3⟩ := kinds_cons g2
  obtain ⟨x2, rfl⟩ := kind_str h2
  obtain ⟨l3, ls4, rfl, h3, g4⟩ := kinds_cons g3
  obtain ⟨x3, rfl⟩ := kind_int h3
  obtain ⟨l4, ls5, rfl, h4, g5⟩ := kinds_cons g4
  obtain ⟨x4, rfl⟩ := kind_int h4
  obtain rfl := kinds_nil g5
  exact ⟨_, rfl⟩
def okT : Ty → Bool
  | .e3 => true
  | .e5 => true
  | .e9 => true
  | .e29 => true
  | .e30 => true
  | .e37 => true
  | .e43 => true
  | .e60 => true
  | .e74 => true
  | .e77 => true
  | .e81 => true
  | .e83 => true
  | .e100 => true
  | .e103 => true
  | .e106 => true
  | .e134 => true
  | .e173 => false
  | .e199 => true
  | .e201 => true
  | .e203 => true
set_option maxRecDepth 100000 in
theorem tab_ok : Tab Go.Proofs.Try.prog KK (lk tks) okT := by
  refine tab_of tks_ok els_ok (by kernel_rfl) fun t ht => ?_
  cases t
  · exact ⟨_, rfl, rfl, ek3⟩
  · exact ⟨_, rfl, rfl, ek5⟩
  · exact ⟨_, rfl, rfl, ek9⟩
  · exact ⟨_, rfl, rfl, ek29⟩
  · exact ⟨_, rfl, rfl, ek30⟩
  · exact ⟨_, rfl, rfl, ek37⟩
  · exact ⟨_, rfl, rfl, ek43⟩
  · exact ⟨_, rfl, rfl, ek60⟩
  · exact ⟨_, rfl, rfl, ek74⟩
  · exact ⟨_, rfl, rfl, ek77⟩
  · exact ⟨_, rfl, rfl, ek81⟩
  · exact ⟨_, rfl, rfl, ek83⟩
  · exact ⟨_, rfl, rfl, ek100⟩
  · exact ⟨_, rfl, rfl, ek103⟩
  · exact ⟨_, rfl, rfl, ek106⟩
  · exact ⟨_, rfl, rfl, ek134⟩
  · cases ht
  · exact ⟨_, rfl, rfl, ek199⟩
  · exact ⟨_, rfl, rfl, ek201⟩
  · exact ⟨_, rfl, rfl, ek203⟩
end Go.Proofs.Ytkiognopoigbhaa.Ab

/- The plain law: the size guards and the copies of the law's own helpers. Printed out of the types. -/
set_option linter.unusedVariables false
set_option linter.unusedSimpArgs false
set_option maxRecDepth 10000
namespace Go.Proofs.Ytkiognopoigbhaa.Ab
open Go Go.RowKit

theorem take_set {α : Type} {xs ys : List α} {i : Nat} (hi : i < xs.length) (e : xs.length = ys.length) : (xs.take i ++ ys.drop i).set i xs[i] = xs.take (i + 1) ++ ys.drop (i + 1) := by
  have hl : (xs.take i).length = i := by simp; omega
  rw [List.set_append_right _ _ (by omega), hl, Nat.sub_self, List.drop_eq_getElem_cons (show i < ys.length by omega), List.set_cons_zero, ← List.take_append_getElem hi, List.append_assoc]
  rfl
theorem get_mix {α : Type} {xs ys : List α} {i : Nat} (hi : i < xs.length) (e : xs.length = ys.length) : (xs.take i ++ ys.drop i)[((i : Int)).toNat]? = some (ys[i]'(by omega)) := by
  have hl : (xs.take i).length = i := by simp; omega
  rw [Int.toNat_natCast, List.getElem?_append_right (by omega), hl, Nat.sub_self, List.getElem?_drop, Nat.add_zero, List.getElem?_eq_getElem (by omega)]
theorem len_mix {α : Type} {xs ys : List α} {i : Nat} (hi : i ≤ xs.length) (e : xs.length = ys.length) : (xs.take i ++ ys.drop i).length = xs.length := by
  simp; omega
theorem max_len {n : Nat} (h : n ≤ maxLen) : n ≤ 9223372036854775807 := h
theorem sub_wrap {a : Int} {n : Nat} (h0 : 0 ≤ a) (h1 : a ≤ 1048576) (h2 : n ≤ 9223372036854775807) : IntKind.i64.wrap (a - (n : Int)) = a - (n : Int) := wrap_id (by omega) (by omega)
/-- What a size guard says: a rest below nought, or the rest when the size is taken off. -/
def Szd (a : Int) (s : Nat) (o : Option Int) : Prop := ∃ r, o = some r ∧ (r < 0 ∨ (0 ≤ r ∧ r + (s : Int) = a))
theorem szd_sub {a : Int} {n s : Nat} {o : Option Int} (h0 : 0 ≤ a) (h1 : a ≤ 1048576) (h2 : n ≤ 9223372036854775807) (hk : 0 ≤ IntKind.i64.wrap (a - (n : Int)) → IntKind.i64.wrap (a - (n : Int)) + n = a → Szd (IntKind.i64.wrap (a - (n : Int))) s o) : Szd a (n + s) (cond (decide (IntKind.i64.wrap (a - (n : Int)) < 0)) (some (-1)) o) := by
  rw [sub_wrap h0 h1 h2] at hk ⊢
  by_cases hc : a - (n : Int) < 0
  · simp only [hc, decide_true, cond_true]
    exact ⟨-1, rfl, Or.inl (by omega)⟩
  · simp only [hc, decide_false, cond_false]
    obtain ⟨r, e, hr⟩ := hk (by omega) (by omega)
    refine ⟨r, e, hr.imp id fun ⟨x, y⟩ => ⟨x, by omega⟩⟩
theorem szd_ret {a : Int} (h0 : 0 ≤ a) : Szd a 0 (some a) := ⟨a, rfl, Or.inr ⟨h0, by omega⟩⟩
theorem szd_bind {a : Int} {s t : Nat} {o : Option Int} {k : Int → Option Int} (h : Szd a s o) (hk : ∀ b, 0 ≤ b → b + (s : Int) = a → Szd b t (k b)) : Szd a (s + t) (Option.bind o fun r => cond (decide (r < 0)) (some (-1)) (k r)) := by
  obtain ⟨r, rfl, hr | ⟨x, y⟩⟩ := h
  · simp only [Option.bind_some, hr, decide_true, cond_true]
    exact ⟨-1, rfl, Or.inl (by omega)⟩
  · have : ¬ r < 0 := by omega
    simp only [Option.bind_some, this, decide_false, cond_false]
    obtain ⟨r', e, hr⟩ := hk r x y
    exact ⟨r', e, hr.imp id fun ⟨x, y⟩ => ⟨x, by omega⟩⟩
theorem szd_lp {α : Type} {xs : List α} {s : α → Nat} {rnd : (List α × Int × Int → Option Int) → List α × Int × Int → Option Int}
    (hend : ∀ rec a, rnd rec (xs, a, (xs.length : Int)) = some a)
    (hstep : ∀ rec a t i (hi : i < xs.length), 0 ≤ a → a ≤ 1048576 → (∀ b, 0 ≤ b → b + (s xs[i] : Int) = a → Szd b t (rec (xs, b, ((i + 1 : Nat) : Int)))) → Szd a (s xs[i] + t) (rnd rec (xs, a, (i : Int)))) :
    ∀ n i a, i ≤ xs.length → xs.length - i < n → 0 ≤ a → a ≤ 1048576 → Szd a (((xs.drop i).map s).sum) (lpN rnd n (xs, a, (i : Int))) := by
  intro n
  induction n with
  | zero => intro i a _ h; omega
  | succ n ih =>
    intro i a hi hn h0 h1
    rw [lp_succ]
    rcases Nat.lt_or_ge i xs.length with h | h
    · rw [sum_drop h]
      exact hstep _ _ _ i h h0 h1 fun b hb he => ih (i + 1) b (by omega) (by omega) hb (by omega)
    · obtain rfl : i = xs.length := by omega
      rw [hend]
      simpa using szd_ret h0
theorem w_sum {α : Type} {w s : α → Nat} (h : ∀ x, w x ≤ 64 * (1 + s x)) : ∀ xs : List α, (xs.map w).sum ≤ 64 * (xs.length + (xs.map s).sum)
  | [] => by simp
  | x :: t => by have := w_sum h t; have := h x; simp only [List.length_cons, List.map_cons, List.sum_cons]; omega
theorem copy_lp {α : Type} {xs : List α} {rnd : (List α × List α × Int → Option (List α)) → List α × List α × Int → Option (List α)}
    (hl : xs.length ≤ 1048576) (hend : ∀ rec ys, rnd rec (xs, ys, (xs.length : Int)) = some ys)
    (hstep : ∀ rec ys i (hi : i < xs.length) (hy : i < ys.length), rnd rec (xs, ys, (i : Int)) = rec (xs, ys.set i xs[i], ((i + 1 : Nat) : Int))) (ys : List α) (e : xs.length = ys.length) : lpN rnd fuel (xs, ys, 0) = some xs := by
  have key := lp_idx (rnd := rnd) (st := fun i => (xs, xs.take i ++ ys.drop i, (i : Int))) (val := fun i => some xs) xs.length (fun rec => by rw [hend]; simp [e, List.take_of_length_le (Nat.le_of_eq e)]) (fun rec i hi hr => by
    rw [hstep rec _ i hi (by rw [len_mix (by omega) e]; exact hi), take_set hi e]
    exact hr) fuel 0 (Nat.zero_le _) (by have := fuel_big2; omega)
  simpa using key

def s_String (x : ByteArray) : Nat := x.size
def sm_String (x : ByteArray) : Prop := x.size ≤ 9223372036854775807
def s_StringS (xs : List ByteArray) : Nat := xs.length + (xs.map s_String).sum
theorem s_StringS_len (xs : List ByteArray) : xs.length ≤ s_StringS xs := by unfold s_StringS; omega
theorem s_StringS_get {xs : List ByteArray} {i : Nat} (hi : i < xs.length) : s_String xs[i] ≤ s_StringS xs := by have := sum_get (w := s_String) hi; unfold s_StringS; omega
theorem s_StringS_mem {xs : List ByteArray} {x : ByteArray} (h : x ∈ xs) : s_String x ≤ s_StringS xs := by obtain ⟨i, hi, rfl⟩ := List.mem_iff_getElem.1 h; exact s_StringS_get hi
theorem ws_String (x : ByteArray) : w_String x ≤ 64 * (1 + s_String x) := by
  simp only [w_String, s_String]; omega
theorem ws_StringS (xs : List ByteArray) : w_StringS xs ≤ 64 * s_StringS xs := w_sum ws_String xs
theorem sm_String_of {x : C .e9} (h : ∀ (i : Nat) (l : Lf C), (KK.enc .e9 x)[i]? = some l → Sm KK l) : sm_String x := by
  have := h 0 _ rfl
  cases this; exact max_len ‹_›
theorem sm_StringS_of {xs : List (C .e9)} (h : Sm KK (.row .e9 xs)) : xs.length ≤ 9223372036854775807 ∧ ∀ y ∈ xs, sm_String y := by
  cases h with
  | row _ _ hl hs =>
    refine ⟨max_len hl, fun y hy => ?_⟩
    obtain ⟨j, hj, rfl⟩ := List.mem_iff_getElem.1 hy
    exact sm_String_of (fun i l e => hs j hj i l e)
theorem sz_StringS {xs : List ByteArray} (h : xs.length ≤ 9223372036854775807) (hs : ∀ y ∈ xs, sm_String y) {a : Int} (h0 : 0 ≤ a) (h1 : a ≤ 1048576) : Szd a (s_StringS xs) (G46 xs a) := by
  unfold G46 G46n s_StringS
  refine szd_sub h0 h1 h fun b0 c0 => ?_
  refine szd_lp (rnd := r46_0 fuel) (s := s_String) (fun rec a => by simp [r46_0]) (fun rec a t i hi h0 h1 hr => ?_) fuel 0 _ (Nat.zero_le _) (by have := fuel_big; omega) b0 (by omega)
  have hw := wrap_nat (i := i) (by omega)
  have h1' : (i : Int) < (xs.length : Int) := by omega
  simp only [r46_0]
  rw [get_cast hi, hw]
  simp only [h1', decide_true, cond_true, Int.natCast_nonneg, Option.bind_some]
  exact szd_sub (n := xs[i].size) h0 h1 (hs _ (List.getElem_mem hi)) fun b c => hr _ b c
theorem to_StringS {xs : List ByteArray} (h : s_StringS xs ≤ 1048576) : G51 xs = some xs := by
  have hl := s_StringS_len xs
  unfold G51 G51n
  have h1 : (xs.length : Int) * 16 ≤ 140737488355328 := by omega
  simp only [h1, decide_true, cond_true, Int.natCast_nonneg]
  refine copy_lp (rnd := r51_0 fuel) (by omega) (fun rec ys => by simp [r51_0]) (fun rec ys i hi hy => ?_) _ (by simp)
  have hw := wrap_nat (i := i) (by omega)
  have h1 : (i : Int) < (xs.length : Int) := by omega
  have h2 : (i : Int) < (ys.length : Int) := by omega
  simp only [r51_0]
  rw [get_cast hi, get_cast hy, hw]
  simp only [h1, h2, decide_true, cond_true, Int.natCast_nonneg, Option.bind_some, Int.toNat_natCast]
def s_GateField (x : VGateField) : Nat := x.Name.size + (s_StringS x.Words + (x.To.size + (x.Default.size + (x.Weighs.size + (0)))))
def sm_GateField (x : VGateField) : Prop := x.Name.size ≤ 9223372036854775807 ∧ (x.Words.length ≤ 9223372036854775807 ∧ ∀ y ∈ x.Words, sm_String y) ∧ x.To.size ≤ 9223372036854775807 ∧ x.Default.size ≤ 9223372036854775807 ∧ x.Weighs.size ≤ 9223372036854775807 ∧ True
def s_GateFieldS (xs : List VGateField) : Nat := xs.length + (xs.map s_GateField).sum
theorem s_GateFieldS_len (xs : List VGateField) : xs.length ≤ s_GateFieldS xs := by unfold s_GateFieldS; omega
theorem s_GateFieldS_get {xs : List VGateField} {i : Nat} (hi : i < xs.length) : s_GateField xs[i] ≤ s_GateFieldS xs := by have := sum_get (w := s_GateField) hi; unfold s_GateFieldS; omega
theorem s_GateFieldS_mem {xs : List VGateField} {x : VGateField} (h : x ∈ xs) : s_GateField x ≤ s_GateFieldS xs := by obtain ⟨i, hi, rfl⟩ := List.mem_iff_getElem.1 h; exact s_GateFieldS_get hi
theorem ws_GateField (x : VGateField) : w_GateField x ≤ 64 * (1 + s_GateField x) := by
  have := w_sum ws_String x.Words
  simp only [w_GateField, s_GateField, w_StringS, s_StringS]; omega
theorem ws_GateFieldS (xs : List VGateField) : w_GateFieldS xs ≤ 64 * s_GateFieldS xs := w_sum ws_GateField xs
theorem sm_GateField_of {x : C .e134} (h : ∀ (i : Nat) (l : Lf C), (KK.enc .e134 x)[i]? = some l → Sm KK l) : sm_GateField x := by
  refine ⟨?_, ⟨?_, ?_⟩, ?_, ?_, ?_, trivial⟩
  · have := h 0 _ rfl
    cases this; exact max_len ‹_›
  · have := h 4 _ rfl
    cases this; exact max_len ‹_›
  · intro y hy
    obtain ⟨j, hj, rfl⟩ := List.mem_iff_getElem.1 hy
    have := h 4 _ rfl
    cases this with
    | row _ _ hl hs => exact sm_String_of (fun i l e => hs j hj i l e)
  · have := h 5 _ rfl
    cases this; exact max_len ‹_›
  · have := h 9 _ rfl
    cases this; exact max_len ‹_›
  · have := h 10 _ rfl
    cases this; exact max_len ‹_›
theorem sm_GateFieldS_of {xs : List (C .e134)} (h : Sm KK (.row .e134 xs)) : xs.length ≤ 9223372036854775807 ∧ ∀ y ∈ xs, sm_GateField y := by
  cases h with
  | row _ _ hl hs =>
    refine ⟨max_len hl, fun y hy => ?_⟩
    obtain ⟨j, hj, rfl⟩ := List.mem_iff_getElem.1 hy
    exact sm_GateField_of (fun i l e => hs j hj i l e)
theorem sz_GateField {x : VGateField} (h : sm_GateField x) {a : Int} (h0 : 0 ≤ a) (h1 : a ≤ 1048576) : Szd a (s_GateField x) (G107 x a) := by
  obtain ⟨m0, m1, m2, m3, m4, -⟩ := h
  unfold G107 G107n s_GateField
  refine szd_sub h0 h1 m0 fun b0 c0 => ?_
  refine szd_bind (sz_StringS m1.1 m1.2 b0 (by omega)) fun x1 b1 c1 => ?_
  refine szd_sub b1 (by omega) m2 fun b2 c2 => ?_
  refine szd_sub b2 (by omega) m3 fun b3 c3 => ?_
  refine szd_sub b3 (by omega) m4 fun b4 c4 => ?_
  exact szd_ret b4
theorem sz_GateFieldS {xs : List VGateField} (h : xs.length ≤ 9223372036854775807) (hs : ∀ y ∈ xs, sm_GateField y) {a : Int} (h0 : 0 ≤ a) (h1 : a ≤ 1048576) : Szd a (s_GateFieldS xs) (G81 xs a) := by
  unfold G81 G81n s_GateFieldS
  refine szd_sub h0 h1 h fun b0 c0 => ?_
  refine szd_lp (rnd := r81_0 fuel) (s := s_GateField) (fun rec a => by simp [r81_0]) (fun rec a t i hi h0 h1 hr => ?_) fuel 0 _ (Nat.zero_le _) (by have := fuel_big; omega) b0 (by omega)
  have hw := wrap_nat (i := i) (by omega)
  have h1' : (i : Int) < (xs.length : Int) := by omega
  simp only [r81_0]
  rw [get_cast hi, hw]
  simp only [h1', decide_true, cond_true, Int.natCast_nonneg, Option.bind_some]
  exact szd_bind (sz_GateField (hs _ (List.getElem_mem hi)) h0 h1) fun b b0 b1 => hr b b0 b1
theorem to_GateField {x : VGateField} (h : s_GateField x ≤ 1048576) : G108 x = some x := by
  unfold s_GateField at h
  unfold G108 G108n
  simp only [to_StringS (xs := x.Words) (by omega), Option.bind_some]
theorem to_GateFieldS {xs : List VGateField} (h : s_GateFieldS xs ≤ 1048576) : G86 xs = some xs := by
  have hl := s_GateFieldS_len xs
  unfold G86 G86n
  have h1 : (xs.length : Int) * 128 ≤ 140737488355328 := by omega
  simp only [h1, decide_true, cond_true, Int.natCast_nonneg]
  refine copy_lp (rnd := r86_0 fuel) (by omega) (fun rec ys => by simp [r86_0]) (fun rec ys i hi hy => ?_) _ (by simp)
  have hw := wrap_nat (i := i) (by omega)
  have h1 : (i : Int) < (xs.length : Int) := by omega
  have h2 : (i : Int) < (ys.length : Int) := by omega
  have he := to_GateField (x := xs[i]) (by have := s_GateFieldS_get hi; omega)
  simp only [r86_0]
  rw [get_cast hi, get_cast hy, hw]
  simp only [h1, h2, decide_true, cond_true, Int.natCast_nonneg, Option.bind_some, Int.toNat_natCast, he]
def s_GateShape (x : VGateShape) : Nat := x.Kind.size + (s_GateFieldS x.Fields + (0))
def sm_GateShape (x : VGateShape) : Prop := x.Kind.size ≤ 9223372036854775807 ∧ (x.Fields.length ≤ 9223372036854775807 ∧ ∀ y ∈ x.Fields, sm_GateField y) ∧ True
def s_GateShapeS (xs : List VGateShape) : Nat := xs.length + (xs.map s_GateShape).sum
theorem s_GateShapeS_len (xs : List VGateShape) : xs.length ≤ s_GateShapeS xs := by unfold s_GateShapeS; omega
theorem s_GateShapeS_get {xs : List VGateShape} {i : Nat} (hi : i < xs.length) : s_GateShape xs[i] ≤ s_GateShapeS xs := by have := sum_get (w := s_GateShape) hi; unfold s_GateShapeS; omega
theorem s_GateShapeS_mem {xs : List VGateShape} {x : VGateShape} (h : x ∈ xs) : s_GateShape x ≤ s_GateShapeS xs := by obtain ⟨i, hi, rfl⟩ := List.mem_iff_getElem.1 h; exact s_GateShapeS_get hi
theorem ws_GateShape (x : VGateShape) : w_GateShape x ≤ 64 * (1 + s_GateShape x) := by
  have := w_sum ws_GateField x.Fields
  simp only [w_GateShape, s_GateShape, w_GateFieldS, s_GateFieldS]; omega
theorem ws_GateShapeS (xs : List VGateShape) : w_GateShapeS xs ≤ 64 * s_GateShapeS xs := w_sum ws_GateShape xs
theorem sm_GateShape_of {x : C .e74} (h : ∀ (i : Nat) (l : Lf C), (KK.enc .e74 x)[i]? = some l → Sm KK l) : sm_GateShape x := by
  refine ⟨?_, ⟨?_, ?_⟩, trivial⟩
  · have := h 0 _ rfl
    cases this; exact max_len ‹_›
  · have := h 1 _ rfl
    cases this; exact max_len ‹_›
  · intro y hy
    obtain ⟨j, hj, rfl⟩ := List.mem_iff_getElem.1 hy
    have := h 1 _ rfl
    cases this with
    | row _ _ hl hs => exact sm_GateField_of (fun i l e => hs j hj i l e)
theorem sm_GateShapeS_of {xs : List (C .e74)} (h : Sm KK (.row .e74 xs)) : xs.length ≤ 9223372036854775807 ∧ ∀ y ∈ xs, sm_GateShape y := by
  cases h with
  | row _ _ hl hs =>
    refine ⟨max_len hl, fun y hy => ?_⟩
    obtain ⟨j, hj, rfl⟩ := List.mem_iff_getElem.1 hy
    exact sm_GateShape_of (fun i l e => hs j hj i l e)
theorem sz_GateShape {x : VGateShape} (h : sm_GateShape x) {a : Int} (h0 : 0 ≤ a) (h1 : a ≤ 1048576) : Szd a (s_GateShape x) (G44 x a) := by
  obtain ⟨m0, m1, -⟩ := h
  unfold G44 G44n s_GateShape
  refine szd_sub h0 h1 m0 fun b0 c0 => ?_
  refine szd_bind (sz_GateFieldS m1.1 m1.2 b0 (by omega)) fun x1 b1 c1 => ?_
  exact szd_ret b1
theorem sz_GateShapeS {xs : List VGateShape} (h : xs.length ≤ 9223372036854775807) (hs : ∀ y ∈ xs, sm_GateShape y) {a : Int} (h0 : 0 ≤ a) (h1 : a ≤ 1048576) : Szd a (s_GateShapeS xs) (G12 xs a) := by
  unfold G12 G12n s_GateShapeS
  refine szd_sub h0 h1 h fun b0 c0 => ?_
  refine szd_lp (rnd := r12_0 fuel) (s := s_GateShape) (fun rec a => by simp [r12_0]) (fun rec a t i hi h0 h1 hr => ?_) fuel 0 _ (Nat.zero_le _) (by have := fuel_big; omega) b0 (by omega)
  have hw := wrap_nat (i := i) (by omega)
  have h1' : (i : Int) < (xs.length : Int) := by omega
  simp only [r12_0]
  rw [get_cast hi, hw]
  simp only [h1', decide_true, cond_true, Int.natCast_nonneg, Option.bind_some]
  exact szd_bind (sz_GateShape (hs _ (List.getElem_mem hi)) h0 h1) fun b b0 b1 => hr b b0 b1
theorem to_GateShape {x : VGateShape} (h : s_GateShape x ≤ 1048576) : G49 x = some x := by
  unfold s_GateShape at h
  unfold G49 G49n
  simp only [to_GateFieldS (xs := x.Fields) (by omega), Option.bind_some]
theorem to_GateShapeS {xs : List VGateShape} (h : s_GateShapeS xs ≤ 1048576) : G16 xs = some xs := by
  have hl := s_GateShapeS_len xs
  unfold G16 G16n
  have h1 : (xs.length : Int) * 40 ≤ 140737488355328 := by omega
  simp only [h1, decide_true, cond_true, Int.natCast_nonneg]
  refine copy_lp (rnd := r16_0 fuel) (by omega) (fun rec ys => by simp [r16_0]) (fun rec ys i hi hy => ?_) _ (by simp)
  have hw := wrap_nat (i := i) (by omega)
  have h1 : (i : Int) < (xs.length : Int) := by omega
  have h2 : (i : Int) < (ys.length : Int) := by omega
  have he := to_GateShape (x := xs[i]) (by have := s_GateShapeS_get hi; omega)
  simp only [r16_0]
  rw [get_cast hi, get_cast hy, hw]
  simp only [h1, h2, decide_true, cond_true, Int.natCast_nonneg, Option.bind_some, Int.toNat_natCast, he]
def s_GateMend (x : VGateMend) : Nat := x.Kind.size + (x.Field.size + (x.When.size + (x.Is.size + (x.Put.size + (x.From.size + (0))))))
def sm_GateMend (x : VGateMend) : Prop := x.Kind.size ≤ 9223372036854775807 ∧ x.Field.size ≤ 9223372036854775807 ∧ x.When.size ≤ 9223372036854775807 ∧ x.Is.size ≤ 9223372036854775807 ∧ x.Put.size ≤ 9223372036854775807 ∧ x.From.size ≤ 9223372036854775807 ∧ True
def s_GateMendS (xs : List VGateMend) : Nat := xs.length + (xs.map s_GateMend).sum
theorem s_GateMendS_len (xs : List VGateMend) : xs.length ≤ s_GateMendS xs := by unfold s_GateMendS; omega
theorem s_GateMendS_get {xs : List VGateMend} {i : Nat} (hi : i < xs.length) : s_GateMend xs[i] ≤ s_GateMendS xs := by have := sum_get (w := s_GateMend) hi; unfold s_GateMendS; omega
theorem s_GateMendS_mem {xs : List VGateMend} {x : VGateMend} (h : x ∈ xs) : s_GateMend x ≤ s_GateMendS xs := by obtain ⟨i, hi, rfl⟩ := List.mem_iff_getElem.1 h; exact s_GateMendS_get hi
theorem ws_GateMend (x : VGateMend) : w_GateMend x ≤ 64 * (1 + s_GateMend x) := by
  simp only [w_GateMend, s_GateMend]; omega
theorem ws_GateMendS (xs : List VGateMend) : w_GateMendS xs ≤ 64 * s_GateMendS xs := w_sum ws_GateMend xs
theorem sm_GateMend_of {x : C .e77} (h : ∀ (i : Nat) (l : Lf C), (KK.enc .e77 x)[i]? = some l → Sm KK l) : sm_GateMend x := by
  refine ⟨?_, ?_, ?_, ?_, ?_, ?_, trivial⟩
  · have := h 0 _ rfl
    cases this; exact max_len ‹_›
  · have := h 1 _ rfl
    cases this; exact max_len ‹_›
  · have := h 2 _ rfl
    cases this; exact max_len ‹_›
  · have := h 3 _ rfl
    cases this; exact max_len ‹_›
  · have := h 4 _ rfl
    cases this; exact max_len ‹_›
  · have := h 5 _ rfl
    cases this; exact max_len ‹_›
theorem sm_GateMendS_of {xs : List (C .e77)} (h : Sm KK (.row .e77 xs)) : xs.length ≤ 9223372036854775807 ∧ ∀ y ∈ xs, sm_GateMend y := by
  cases h with
  | row _ _ hl hs =>
    refine ⟨max_len hl, fun y hy => ?_⟩
    obtain ⟨j, hj, rfl⟩ := List.mem_iff_getElem.1 hy
    exact sm_GateMend_of (fun i l e => hs j hj i l e)
theorem sz_GateMend {x : VGateMend} (h : sm_GateMend x) {a : Int} (h0 : 0 ≤ a) (h1 : a ≤ 1048576) : Szd a (s_GateMend x) (G45 x a) := by
  obtain ⟨m0, m1, m2, m3, m4, m5, -⟩ := h
  unfold G45 G45n s_GateMend
  refine szd_sub h0 h1 m0 fun b0 c0 => ?_
  refine szd_sub b0 (by omega) m1 fun b1 c1 => ?_
  refine szd_sub b1 (by omega) m2 fun b2 c2 => ?_
  refine szd_sub b2 (by omega) m3 fun b3 c3 => ?_
  refine szd_sub b3 (by omega) m4 fun b4 c4 => ?_
  refine szd_sub b4 (by omega) m5 fun b5 c5 => ?_
  exact szd_ret b5
theorem sz_GateMendS {xs : List VGateMend} (h : xs.length ≤ 9223372036854775807) (hs : ∀ y ∈ xs, sm_GateMend y) {a : Int} (h0 : 0 ≤ a) (h1 : a ≤ 1048576) : Szd a (s_GateMendS xs) (G13 xs a) := by
  unfold G13 G13n s_GateMendS
  refine szd_sub h0 h1 h fun b0 c0 => ?_
  refine szd_lp (rnd := r13_0 fuel) (s := s_GateMend) (fun rec a => by simp [r13_0]) (fun rec a t i hi h0 h1 hr => ?_) fuel 0 _ (Nat.zero_le _) (by have := fuel_big; omega) b0 (by omega)
  have hw := wrap_nat (i := i) (by omega)
  have h1' : (i : Int) < (xs.length : Int) := by omega
  simp only [r13_0]
  rw [get_cast hi, hw]
  simp only [h1', decide_true, cond_true, Int.natCast_nonneg, Option.bind_some]
  exact szd_bind (sz_GateMend (hs _ (List.getElem_mem hi)) h0 h1) fun b b0 b1 => hr b b0 b1
theorem to_GateMend {x : VGateMend} (h : s_GateMend x ≤ 1048576) : G50 x = some x := by
  unfold s_GateMend at h
  unfold G50 G50n
  rfl
theorem to_GateMendS {xs : List VGateMend} (h : s_GateMendS xs ≤ 1048576) : G17 xs = some xs := by
  have hl := s_GateMendS_len xs
  unfold G17 G17n
  have h1 : (xs.length : Int) * 96 ≤ 140737488355328 := by omega
  simp only [h1, decide_true, cond_true, Int.natCast_nonneg]
  refine copy_lp (rnd := r17_0 fuel) (by omega) (fun rec ys => by simp [r17_0]) (fun rec ys i hi hy => ?_) _ (by simp)
  have hw := wrap_nat (i := i) (by omega)
  have h1 : (i : Int) < (xs.length : Int) := by omega
  have h2 : (i : Int) < (ys.length : Int) := by omega
  have he := to_GateMend (x := xs[i]) (by have := s_GateMendS_get hi; omega)
  simp only [r17_0]
  rw [get_cast hi, get_cast hy, hw]
  simp only [h1, h2, decide_true, cond_true, Int.natCast_nonneg, Option.bind_some, Int.toNat_natCast, he]
def s_GateObject (x : VGateObject) : Nat := x.Kind.size + (x.Name.size + (x.Team.size + (s_StringS x.Values + (s_StringS x.Holds + (0)))))
def sm_GateObject (x : VGateObject) : Prop := x.Kind.size ≤ 9223372036854775807 ∧ x.Name.size ≤ 9223372036854775807 ∧ x.Team.size ≤ 9223372036854775807 ∧ (x.Values.length ≤ 9223372036854775807 ∧ ∀ y ∈ x.Values, sm_String y) ∧ (x.Holds.length ≤ 9223372036854775807 ∧ ∀ y ∈ x.Holds, sm_String y) ∧ True
def s_GateObjectS (xs : List VGateObject) : Nat := xs.length + (xs.map s_GateObject).sum
theorem s_GateObjectS_len (xs : List VGateObject) : xs.length ≤ s_GateObjectS xs := by unfold s_GateObjectS; omega
theorem s_GateObjectS_get {xs : List VGateObject} {i : Nat} (hi : i < xs.length) : s_GateObject xs[i] ≤ s_GateObjectS xs := by have := sum_get (w := s_GateObject) hi; unfold s_GateObjectS; omega
theorem s_GateObjectS_mem {xs : List VGateObject} {x : VGateObject} (h : x ∈ xs) : s_GateObject x ≤ s_GateObjectS xs := by obtain ⟨i, hi, rfl⟩ := List.mem_iff_getElem.1 h; exact s_GateObjectS_get hi
theorem sz_GateObject {x : VGateObject} (h : sm_GateObject x) {a : Int} (h0 : 0 ≤ a) (h1 : a ≤ 1048576) : Szd a (s_GateObject x) (G14 x a) := by
  obtain ⟨m0, m1, m2, m3, m4, -⟩ := h
  unfold G14 G14n s_GateObject
  refine szd_sub h0 h1 m0 fun b0 c0 => ?_
  refine szd_sub b0 (by omega) m1 fun b1 c1 => ?_
  refine szd_sub b1 (by omega) m2 fun b2 c2 => ?_
  refine szd_bind (sz_StringS m3.1 m3.2 b2 (by omega)) fun x3 b3 c3 => ?_
  refine szd_bind (sz_StringS m4.1 m4.2 b3 (by omega)) fun x4 b4 c4 => ?_
  exact szd_ret b4
theorem to_GateObject {x : VGateObject} (h : s_GateObject x ≤ 1048576) : G18 x = some x := by
  unfold s_GateObject at h
  unfold G18 G18n
  simp only [to_StringS (xs := x.Values) (by omega), to_StringS (xs := x.Holds) (by omega), Option.bind_some]
end Go.Proofs.Ytkiognopoigbhaa.Ab

