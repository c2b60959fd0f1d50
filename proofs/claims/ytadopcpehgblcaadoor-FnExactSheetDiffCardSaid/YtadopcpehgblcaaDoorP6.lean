/- The functions that the law calls, written plainly, and their contracts: each call answers what its plain function answers. No conditions. -/
import Derived.Test.YtadopcpehgblcaaDoorP5
set_option linter.unusedVariables false
set_option linter.unusedSimpArgs false
set_option linter.unusedSectionVars false
set_option linter.unusedVariables false
set_option linter.unusedSimpArgs false
set_option maxRecDepth 100000
namespace Go.Proofs.YtadopcpehgblcaaDoor.Ab
open Go Go.RowKit
/-! ### f20 (loop.example/wharfdesk/impl.Sheet).at -/
noncomputable def X20 (n : Nat) : Cx C := mkX [] [] [(41, I41 n), (42, I42 n)] [6, 10] 1310720
def F20 (n : Nat) : Cf := { N := n, keep := [0, 1, 2, 3, 4, 5, 6], live := lk [] }
noncomputable abbrev dec20 := deR KK [.int .i64]
abbrev A20_0 : Type := Int
section
variable (x0 : List (C .e42)) (x1 : Int) (x3 : Int) (x4 : ByteArray) (x5 : ByteArray)
def s20_0 : A20_0 → St C := fun x2 => { env := [(0, .one (.row .e42 x0)), (1, .one (.vo 1311296)), (7, .one (.int .i64 x1)), (8, .one (.int .i64 x2)), (1006, .sus (false, [.int .i64 x3]) 11006)], objs := [(1311296, .box (.clo 42 0 [(false, 1), (false, 1)]) [.ptr 1310976 0, .ptr 1311040 0]), (1310976, .box .mem [.str x4]), (1311040, .box .mem [.str x5])], base := 11000 }
end
noncomputable def r20_0 (x0 : List (C .e42)) (x1 : Int) (x4 : ByteArray) (x5 : ByteArray) (n : Nat)   (rec0 : A20_0 → Option (Int)) : A20_0 → Option (Int) := fun x2 =>
 cond (decide (x2 < x1))
 (cond (decide (0 ≤ x2)) (Option.bind x0[x2.toNat]? fun e1 => cond (decide (e1.Kind = x4))
 (cond (decide (e1.Name = x5))
 (some (x2))
 (rec0 (IntKind.i64.wrap (x2 + 1))))
 (rec0 (IntKind.i64.wrap (x2 + 1)))) none)
 (some ((-1)))
section
variable (x0 : List (C .e42)) (x1 : Int) (x3 : Int) (x4 : ByteArray) (x5 : ByteArray)
noncomputable def MP20_0 (n : Nat)  (x : A20_0) : Option (Int) := iter (fun rec S => run (X41 n) (F41 n) (codeAt (bodyOf Tryd.f41) [1, 0, 1, 0, 0]) 0 S (lopK rec (blkK 0 (seqK (run (X41 n) (F41 n) (codeAt (bodyOf Tryd.f41) [1, 1]) 0) (inlK (X41 n) Tryd.f41 (callK 10000 0 (some 10) (restK (X20 n) (codeAt (bodyOf Tryd.f20) [1, 0]) 4 (regK (F20 n) (seqK (run (X20 n) (F20 n) (codeAt (bodyOf Tryd.f20) [1, 1]) 0) (kTop (X20 n) Tryd.f20 dec20)))))))))) [0, 1, 7, 8] n (s20_0 x0 x1 x3 x4 x5 x)
theorem m20_0 (n : Nat)  (x : A20_0) : MP20_0 x0 x1 x3 x4 x5 n  x = lpN (r20_0 x0 x1 x4 x5 n  ) n x := by
  refine iter_eq (s20_0 x0 x1 x3 x4 x5) (r20_0 x0 x1 x4 x5 n  ) (fun rec0 x2 => ?_) n x
  kernel_rfl
end
noncomputable def G20n (n : Nat) (a0 : VSheet) (a1 : ByteArray) (a2 : ByteArray) : Option (Int) :=
 lpN (r20_0 a0.Blocks (a0.Blocks.length : Int) a1 a2 n ) n 0
theorem t20 (n : Nat) (a0 : VSheet) (a1 : ByteArray) (a2 : ByteArray) : runFn (X20 n) (F20 n) Tryd.f20 [.agg [.row .e42 a0.Blocks], .one (.str a1), .one (.str a2)] dec20 = G20n n a0 a1 a2 := by
  refine Eq.trans (b :=
   MP20_0 a0.Blocks (a0.Blocks.length : Int) 0 a1 a2 n   0) (by kernel_rfl) ?_
  simp only [G20n, m20_0]
noncomputable def G20 (a0 : VSheet) (a1 : ByteArray) (a2 : ByteArray) : Option (Int) := G20n fuel a0 a1 a2
noncomputable def con20 : Con C := mkC KK [.el .e30, .str, .str] [.int .i64] G20
theorem c20 : ConOk Tryd.prog KK 20 con20 := cO (mkQ trivial trivial ⟨i41 _, i42 _, trivial⟩ : Cons Tryd.prog (X20 fuel)) (fn := Tryd.f20) (by kernel_rfl) (by kernel_rfl) (by kernel_rfl) (by kernel_rfl) (F20 fuel) (by kernel_rfl) (fun a0 a1 a2 => t20 fuel a0 a1 a2)
/-! ### f21 loop.example/wharfdesk/impl.cloneLines -/
noncomputable def X21 : Cx C := mkX [] [] [] [] 1376256
def F21 (n : Nat) : Cf := { N := n, keep := [0, 2, 3, 5, 6, 7, 8, 9], live := lk [(0, [3, 6, 7, 8])] }
noncomputable abbrev dec21 := deR KK [.row .e70]
abbrev A21_0 : Type := List (C .e70) × Int
section
variable (x1 : List (C .e70)) (x2 : Int)
def s21_0 : A21_0 → St C := fun (x0, x3) => { env := [(3, .one (.ref 100003 [])), (6, .one (.row .e70 x1)), (7, .one (.int .i64 x2)), (8, .one (.int .i64 x3))], objs := [(100003, .row .e70 x0 false)], base := 0 }
end
noncomputable def r21_0 (x1 : List (C .e70)) (x2 : Int) (n : Nat)   (rec0 : A21_0 → Option (List (C .e70))) : A21_0 → Option (List (C .e70)) := fun (x0, x3) =>
 cond (decide (x3 < x2))
 (cond (decide (0 ≤ x3)) (Option.bind x1[x3.toNat]? fun e1 => cond (decide (((([] : List (C .e9))).length + e1.Words.length) * 16 ≤ 140737488355328)) (cond (decide ((x0.length + (([(⟨e1.Key, (([] : List (C .e9))) ++ e1.Words⟩ : VSheetLine)] : List (C .e70))).length) * 40 ≤ 140737488355328)) (rec0 ((x0 ++ (([(⟨e1.Key, (([] : List (C .e9))) ++ e1.Words⟩ : VSheetLine)] : List (C .e70))), IntKind.i64.wrap (x3 + 1)))) none) none) none)
 (some (x0))
section
variable (x1 : List (C .e70)) (x2 : Int)
noncomputable def MP21_0 (n : Nat)  (x : A21_0) : Option (List (C .e70)) := iter (fun rec S => run X21 (F21 n) (codeAt (bodyOf Tryd.f21) [1, 1, 0, 1, 0, 0]) 0 S (lopK rec (blkK 0 (seqK (run X21 (F21 n) (codeAt (bodyOf Tryd.f21) [1, 1, 1]) 0) (kTop X21 Tryd.f21 dec21))))) [3, 6, 7, 8] n (s21_0 x1 x2 x)
theorem m21_0 (n : Nat)  (x : A21_0) : MP21_0 x1 x2 n  x = lpN (r21_0 x1 x2 n  ) n x := by
  refine iter_eq (s21_0 x1 x2) (r21_0 x1 x2 n  ) (fun rec0 x => ?_) n x
  obtain ⟨x0, x3⟩ := x
  kernel_rfl
end
noncomputable def G21n (n : Nat) (a0 : List (C .e70)) : Option (List (C .e70)) :=
 lpN (r21_0 a0 (a0.length : Int) n ) n ((([] : List (C .e70)), 0))
theorem t21 (n : Nat) (a0 : List (C .e70)) : runFn X21 (F21 n) Tryd.f21 [.one (.row .e70 a0)] dec21 = G21n n a0 := by
  refine Eq.trans (b :=
   MP21_0 a0 (a0.length : Int) n   ((([] : List (C .e70)), 0))) (by kernel_rfl) ?_
  simp only [G21n, m21_0]
noncomputable def G21 (a0 : List (C .e70)) : Option (List (C .e70)) := G21n fuel a0
noncomputable def con21 : Con C := mkC KK [.row .e70] [.row .e70] G21
theorem c21 : ConOk Tryd.prog KK 21 con21 := cO (mkQ trivial trivial trivial : Cons Tryd.prog X21) (fn := Tryd.f21) (by kernel_rfl) (by kernel_rfl) (by kernel_rfl) (by kernel_rfl) (F21 fuel) (by kernel_rfl) (fun a0 => t21 fuel a0)
/-! ### f23 loop.example/wharfdesk/impl.of, run in place -/
noncomputable def X23 : Cx C := mkX [] [] [] [] 1507328
def F23 (n : Nat) : Cf := { N := n, keep := [0, 1, 2, 4, 5, 7, 9, 10, 11, 12, 18], live := lk [(0, [1, 5, 9, 10, 11, 1000100005])] }
noncomputable def I23 (n : Nat) : Inl C := inlOf X23 (F23 n) Tryd.f23
theorem i23 (n : Nat) : InlOk Tryd.prog KK 23 (I23 n) := iO (mkQ trivial trivial trivial : Cons Tryd.prog X23) (F23 n) (fn := Tryd.f23) (by kernel_rfl) (by kernel_rfl) (by kernel_rfl) (by kernel_rfl)
/-! ### f46 slices.Equal[[]string,string] -/
noncomputable def X46 : Cx C := mkX [] [] [] [] 3014656
def F46 (n : Nat) : Cf := { N := n, keep := [0, 1, 4, 5, 10, 12, 13, 14, 24], live := lk [(0, [0, 1, 12, 13])] }
noncomputable abbrev dec46 := deR KK [.bool]
abbrev A46_0 : Type := Int
section
variable (x0 : List (C .e9)) (x1 : List (C .e9)) (x2 : Int)
def s46_0 : A46_0 → St C := fun x3 => { env := [(0, .one (.row .e9 x0)), (1, .one (.row .e9 x1)), (12, .one (.int .i64 x2)), (13, .one (.int .i64 x3))], objs := [], base := 0 }
end
noncomputable def r46_0 (x0 : List (C .e9)) (x1 : List (C .e9)) (x2 : Int) (n : Nat)   (rec0 : A46_0 → Option (Bool)) : A46_0 → Option (Bool) := fun x3 =>
 cond (decide (x3 < x2))
 (cond (decide (0 ≤ x3)) (Option.bind x0[x3.toNat]? fun e1 => cond (decide (0 ≤ x3)) (Option.bind x1[x3.toNat]? fun e2 => cond (!decide (e1 = e2))
 (some (false))
 (rec0 (IntKind.i64.wrap (x3 + 1)))) none) none)
 (some (true))
section
variable (x0 : List (C .e9)) (x1 : List (C .e9)) (x2 : Int)
noncomputable def MP46_0 (n : Nat)  (x : A46_0) : Option (Bool) := iter (fun rec S => run X46 (F46 n) (codeAt (bodyOf Tryd.f46) [1, 1, 0, 1, 0, 0]) 0 S (lopK rec (blkK 0 (seqK (run X46 (F46 n) (codeAt (bodyOf Tryd.f46) [1, 1, 1]) 0) (kTop X46 Tryd.f46 dec46))))) [0, 1, 12, 13] n (s46_0 x0 x1 x2 x)
theorem m46_0 (n : Nat)  (x : A46_0) : MP46_0 x0 x1 x2 n  x = lpN (r46_0 x0 x1 x2 n  ) n x := by
  refine iter_eq (s46_0 x0 x1 x2) (r46_0 x0 x1 x2 n  ) (fun rec0 x3 => ?_) n x
  kernel_rfl
end
noncomputable def G46n (n : Nat) (a0 : List (C .e9)) (a1 : List (C .e9)) : Option (Bool) :=
 cond ((a0.length : Int) != (a1.length : Int))
 (some (false))
 (lpN (r46_0 a0 a1 (a0.length : Int) n ) n 0)
theorem t46 (n : Nat) (a0 : List (C .e9)) (a1 : List (C .e9)) : runFn X46 (F46 n) Tryd.f46 [.one (.row .e9 a0), .one (.row .e9 a1)] dec46 = G46n n a0 a1 := by
  refine Eq.trans (b :=
   cond ((a0.length : Int) != (a1.length : Int))
   (some (false))
   (MP46_0 a0 a1 (a0.length : Int) n   0)) (by kernel_rfl) ?_
  simp only [G46n, m46_0]
noncomputable def G46 (a0 : List (C .e9)) (a1 : List (C .e9)) : Option (Bool) := G46n fuel a0 a1
noncomputable def con46 : Con C := mkC KK [.row .e9, .row .e9] [.bool] G46
theorem c46 : ConOk Tryd.prog KK 46 con46 := cO (mkQ trivial trivial trivial : Cons Tryd.prog X46) (fn := Tryd.f46) (by kernel_rfl) (by kernel_rfl) (by kernel_rfl) (by kernel_rfl) (F46 fuel) (by kernel_rfl) (fun a0 a1 => t46 fuel a0 a1)
/-! ### f45 loop.example/wharfdesk/impl.sameLines$1, run in place -/
noncomputable def X45 : Cx C := mkX [(46, con46)] [] [] [] 2949120
def F45 (n : Nat) : Cf := { N := n, keep := [0, 1, 2, 3, 4], live := lk [] }
noncomputable def I45 (n : Nat) : Inl C := inlOf X45 (F45 n) Tryd.f45
theorem i45 (n : Nat) : InlOk Tryd.prog KK 45 (I45 n) := iO (mkQ ⟨c46, trivial⟩ trivial trivial : Cons Tryd.prog X45) (F45 n) (fn := Tryd.f45) (by kernel_rfl) (by kernel_rfl) (by kernel_rfl) (by kernel_rfl)
/-! ### f44 slices.EqualFunc[[]loop.example/wharfdesk/impl.SheetLine,[]loop.example/wharfdesk/impl.SheetLine,loop.example/wharfdesk/impl.SheetLine,loop.example/wharfdesk/impl.SheetLine], run in place -/
noncomputable def X44 (n : Nat) : Cx C := mkX [] [] [(45, I45 n)] [1, 2, 15, 16, 17, 29, 30] 2883584
def F44 (n : Nat) : Cf := { N := n, keep := [0, 1, 2, 6, 7, 8, 9, 14, 15, 16, 17, 18, 30], live := lk [(0, [1, 2, 15, 16, 17])] }
noncomputable def I44 (n : Nat) : Inl C := inlOf (X44 n) (F44 n) Tryd.f44
theorem i44 (n : Nat) : InlOk Tryd.prog KK 44 (I44 n) := iO (mkQ trivial trivial ⟨i45 _, trivial⟩ : Cons Tryd.prog (X44 n)) (F44 n) (fn := Tryd.f44) (by kernel_rfl) (by kernel_rfl) (by kernel_rfl) (by kernel_rfl)
/-! ### f24 loop.example/wharfdesk/impl.sameLines -/
noncomputable def X24 (n : Nat) : Cx C := mkX [] [] [(44, I44 n), (45, I45 n)] [4, 7] 1572864
def F24 (n : Nat) : Cf := { N := n, keep := [0, 1, 4], live := lk [] }
noncomputable abbrev dec24 := deR KK [.bool]
abbrev A24_0 : Type := Int
section
variable (x0 : List (C .e70)) (x1 : List (C .e70)) (x2 : Int) (x4 : Bool)
def s24_0 : A24_0 → St C := fun x3 => { env := [(1, .one (.row .e70 x0)), (2, .one (.fnc (some 45))), (15, .one (.row .e70 x1)), (16, .one (.int .i64 x2)), (17, .one (.int .i64 x3)), (1004, .sus (false, [.bool x4]) 8004)], objs := [], base := 8000 }
end
noncomputable def r24_0 (x0 : List (C .e70)) (x1 : List (C .e70)) (x2 : Int) (n : Nat)   (rec0 : A24_0 → Option (Bool)) : A24_0 → Option (Bool) := fun x3 =>
 cond (decide (x3 < x2))
 (cond (decide (0 ≤ x3)) (Option.bind x1[x3.toNat]? fun e1 => cond (decide (0 ≤ x3)) (Option.bind x0[x3.toNat]? fun e2 => cond (decide (e1.Key = e2.Key))
 (Option.bind (G46 e1.Words e2.Words) fun r3 =>
 cond (!r3)
 (some (false))
 (rec0 (IntKind.i64.wrap (x3 + 1))))
 (some (false))) none) none)
 (some (true))
section
variable (x0 : List (C .e70)) (x1 : List (C .e70)) (x2 : Int) (x4 : Bool)
noncomputable def MP24_0 (n : Nat)  (x : A24_0) : Option (Bool) := iter (fun rec S => run (X44 n) (F44 n) (codeAt (bodyOf Tryd.f44) [1, 1, 0, 1, 0, 0]) 0 S (lopK rec (blkK 0 (seqK (run (X44 n) (F44 n) (codeAt (bodyOf Tryd.f44) [1, 1, 1]) 0) (inlK (X44 n) Tryd.f44 (callK 7000 0 (some 7) (restK (X24 n) (codeAt (bodyOf Tryd.f24) [1, 0]) 3 (regK (F24 n) (seqK (run (X24 n) (F24 n) (codeAt (bodyOf Tryd.f24) [1, 1]) 0) (kTop (X24 n) Tryd.f24 dec24)))))))))) [1, 2, 15, 16, 17] n (s24_0 x0 x1 x2 x4 x)
theorem m24_0 (n : Nat)  (x : A24_0) : MP24_0 x0 x1 x2 x4 n  x = lpN (r24_0 x0 x1 x2 n  ) n x := by
  refine iter_eq (s24_0 x0 x1 x2 x4) (r24_0 x0 x1 x2 n  ) (fun rec0 x3 => ?_) n x
  kernel_rfl
end
noncomputable def G24n (n : Nat) (a0 : List (C .e70)) (a1 : List (C .e70)) : Option (Bool) :=
 cond ((a0.length : Int) != (a1.length : Int))
 (some (false))
 (lpN (r24_0 a1 a0 (a0.length : Int) n ) n 0)
theorem t24 (n : Nat) (a0 : List (C .e70)) (a1 : List (C .e70)) : runFn (X24 n) (F24 n) Tryd.f24 [.one (.row .e70 a0), .one (.row .e70 a1)] dec24 = G24n n a0 a1 := by
  refine Eq.trans (b :=
   cond ((a0.length : Int) != (a1.length : Int))
   (some (false))
   (MP24_0 a1 a0 (a0.length : Int) false n   0)) (by kernel_rfl) ?_
  simp only [G24n, m24_0]
noncomputable def G24 (a0 : List (C .e70)) (a1 : List (C .e70)) : Option (Bool) := G24n fuel a0 a1
noncomputable def con24 : Con C := mkC KK [.row .e70, .row .e70] [.bool] G24
theorem c24 : ConOk Tryd.prog KK 24 con24 := cO (mkQ trivial trivial ⟨i44 _, i45 _, trivial⟩ : Cons Tryd.prog (X24 fuel)) (fn := Tryd.f24) (by kernel_rfl) (by kernel_rfl) (by kernel_rfl) (by kernel_rfl) (F24 fuel) (by kernel_rfl) (fun a0 a1 => t24 fuel a0 a1)
/-! ### f7 loop.example/wharfdesk/impl.SheetDiff -/
noncomputable def X7 (n : Nat) : Cx C := mkX [(19, con19), (20, con20), (21, con21), (22, (frzC con22)), (24, con24)] [] [(23, I23 n)] [2, 5, 9, 10, 12, 13, 14, 48, 49, 50, 75, 76, 77, 81, 82, 83, 84, 85, 86, 87, 88, 89, 90, 91, 92] 458752
def F7 (n : Nat) : Cf := { N := n, keep := [0, 1, 2, 3, 4, 5, 7, 9, 10, 12, 13, 14, 15, 23, 25, 26, 27, 28, 37, 48, 49, 50, 51, 61, 75, 76, 77, 78, 95, 107], live := lk [(0, [2, 3, 5, 25, 26, 27]), (2, [2, 5, 48, 49, 50]), (4, [2, 5, 9, 10, 48, 49, 50, 75, 76, 77])] }
noncomputable abbrev dec7 := deR KK [.row .e44]
abbrev A7_4 : Type := List (C .e70) × Int
abbrev A7_3 : Type := List (C .e70) × Int
abbrev A7_6 : Type := List (C .e70) × Int
abbrev A7_5 : Type := List (C .e70) × Int
abbrev A7_8 : Type := List (C .e70) × Int
abbrev A7_7 : Type := List (C .e70) × Int
abbrev A7_9 : Type := List (C .e70) × Int
abbrev A7_10 : Type := List (C .e70) × Int
abbrev A7_12 : Type := List (C .e70) × Int
abbrev A7_11 : Type := List (C .e70) × Int
abbrev A7_2 : Type := List (C .e44) × Int
abbrev A7_1 : Type := List (C .e44) × Int
abbrev A7_0 : Type := List (C .e44) × Int
section
variable (x0 : ByteArray) (x2 : List (C .e70)) (x3 : Int) (x5 : List (C .e44)) (x6 : Int) (x7 : List (C .e42)) (x8 : Int) (x9 : Int) (x10 : List (C .e54)) (x11 : Int) (x12 : Int) (x13 : List (C .e42)) (x14 : Int) (x15 : C .e42) (x16 : ByteArray) (x17 : ByteArray) (x18 : List (C .e70)) (x19 : ByteArray) (x20 : List (C .e70)) (x21 : ByteArray) (x22 : ByteArray) (x23 : List (C .e70)) (x24 : ByteArray) (x25 : List (C .e42)) (x26 : ByteArray) (x27 : ByteArray) (x28 : List (C .e70)) (x29 : ByteArray) (x30 : List (C .e3)) (x31 : Bool) (x32 : List (C .e9))
def s7_4 : A7_4 → St C := fun (x1, x4) => { env := [(1, .one (.str x0)), (5, .one (.ref 100005 [])), (9, .one (.row .e70 x2)), (10, .one (.int .i64 x3)), (11, .one (.int .i64 x4)), (1002, .sus (false, [.ptr 458880 0]) 93002), (1005, .sus (false, [.ref 30100500 []]) 93005), (1009, .sus (false, [.ptr 459328 0]) 93009), (1010, .sus (false, [.int .i64 x6]) 93010), (1012, .sus (false, [.ptr 459520 0]) 93012), (1048, .sus (false, [.row .e42 x7]) 93048), (1049, .sus (false, [.int .i64 x8]) 93049), (1050, .sus (false, [.int .i64 x9]) 93050), (1075, .sus (false, [.row .e54 x10]) 93075), (1076, .sus (false, [.int .i64 x11]) 93076), (1077, .sus (false, [.int .i64 x12]) 93077), (1081, .sus (false, [.ptr 458880 0]) 93081), (1082, .sus (false, [.row .e42 x13]) 93082), (1083, .sus (false, [.int .i64 x14]) 93083), (1084, .sus (false, [.elt .e42 x15 0]) 93084), (1085, .sus (true, [.str x16, .str x17, .row .e70 x18]) 93085), (1086, .sus (false, [.ptr 459520 0]) 93086), (1087, .sus (false, [.str x19]) 93087), (1088, .sus (false, [.ref 30108800 []]) 93088), (1089, .sus (true, [.str x21, .str x22, .row .e70 x23]) 93089), (1090, .sus (false, [.ptr 459520 0]) 93090), (1091, .sus (false, [.str x24]) 93091)], objs := [(100005, .row .e70 x1 true), (30100500, .row .e44 x5 false), (30108800, .row .e70 x20 true), (458880, .box .mem [.row .e42 x25]), (459328, .box .mem [.str x26, .str x27, .row .e70 x28]), (459520, .box .mem [.str x29, .row .e3 x30, .bool x31, .row .e9 x32])], base := 93000 }
end
noncomputable def r7_4 (x0 : ByteArray) (x2 : List (C .e70)) (x3 : Int) (x5 : List (C .e44)) (x12 : Int) (x20 : List (C .e70)) (x26 : ByteArray) (x27 : ByteArray) (x29 : ByteArray) (n : Nat)  (rec1 : A7_1 → Option (List (C .e44))) (rec2 : A7_2 → Option (List (C .e44))) (rec4 : A7_4 → Option (List (C .e44))) : A7_4 → Option (List (C .e44)) := fun (x1, x4) =>
 cond (decide (x4 < x3))
 (cond (decide (0 ≤ x4)) (Option.bind x2[x4.toNat]? fun e12 => cond (decide (e12.Key = x0))
 (cond (decide ((x1.length + (([e12] : List (C .e70))).length) * 40 ≤ 140737488355328)) (rec4 ((x1 ++ (([e12] : List (C .e70))), IntKind.i64.wrap (x4 + 1)))) none)
 (rec4 ((x1, IntKind.i64.wrap (x4 + 1))))) none)
 (Option.bind (G24 x20 x1) fun r13 =>
 cond r13
 (rec2 ((x5, IntKind.i64.wrap (x12 + 1))))
 (Option.bind (G21 x1) fun r14 =>
 cond ((x1.length : Int) == 0)
 (cond (decide ((x5.length + (([(⟨4, x26, x27, x29, r14⟩ : VSheetChange)] : List (C .e44))).length) * 80 ≤ 140737488355328)) (rec2 ((x5 ++ (([(⟨4, x26, x27, x29, r14⟩ : VSheetChange)] : List (C .e44))), IntKind.i64.wrap (x12 + 1)))) none)
 (cond (decide ((x5.length + (([(⟨3, x26, x27, x29, r14⟩ : VSheetChange)] : List (C .e44))).length) * 80 ≤ 140737488355328)) (rec2 ((x5 ++ (([(⟨3, x26, x27, x29, r14⟩ : VSheetChange)] : List (C .e44))), IntKind.i64.wrap (x12 + 1)))) none)))
section
variable (x0 : ByteArray) (x2 : List (C .e70)) (x3 : Int) (x5 : List (C .e44)) (x6 : Int) (x7 : List (C .e42)) (x8 : Int) (x9 : Int) (x10 : List (C .e54)) (x11 : Int) (x12 : Int) (x13 : List (C .e42)) (x14 : Int) (x15 : C .e42) (x16 : ByteArray) (x17 : ByteArray) (x18 : List (C .e70)) (x19 : ByteArray) (x20 : ByteArray) (x21 : ByteArray) (x22 : List (C .e70)) (x23 : ByteArray) (x24 : List (C .e42)) (x25 : ByteArray) (x26 : ByteArray) (x27 : List (C .e70)) (x28 : ByteArray) (x29 : List (C .e3)) (x30 : Bool) (x31 : List (C .e9))
def s7_3 : A7_3 → St C := fun (x1, x4) => { env := [(1, .one (.str x0)), (5, .one (.ref 100005 [])), (9, .one (.row .e70 x2)), (10, .one (.int .i64 x3)), (11, .one (.int .i64 x4)), (1002, .sus (false, [.ptr 458880 0]) 89002), (1005, .sus (false, [.ref 30100500 []]) 89005), (1009, .sus (false, [.ptr 459328 0]) 89009), (1010, .sus (false, [.int .i64 x6]) 89010), (1012, .sus (false, [.ptr 459520 0]) 89012), (1048, .sus (false, [.row .e42 x7]) 89048), (1049, .sus (false, [.int .i64 x8]) 89049), (1050, .sus (false, [.int .i64 x9]) 89050), (1075, .sus (false, [.row .e54 x10]) 89075), (1076, .sus (false, [.int .i64 x11]) 89076), (1077, .sus (false, [.int .i64 x12]) 89077), (1081, .sus (false, [.ptr 458880 0]) 89081), (1082, .sus (false, [.row .e42 x13]) 89082), (1083, .sus (false, [.int .i64 x14]) 89083), (1084, .sus (false, [.elt .e42 x15 0]) 89084), (1085, .sus (true, [.str x16, .str x17, .row .e70 x18]) 89085), (1086, .sus (false, [.ptr 459520 0]) 89086), (1087, .sus (false, [.str x19]) 89087), (1089, .sus (true, [.str x20, .str x21, .row .e70 x22]) 89089), (1090, .sus (false, [.ptr 459520 0]) 89090), (1091, .sus (false, [.str x23]) 89091)], objs := [(100005, .row .e70 x1 true), (30100500, .row .e44 x5 false), (458880, .box .mem [.row .e42 x24]), (459328, .box .mem [.str x25, .str x26, .row .e70 x27]), (459520, .box .mem [.str x28, .row .e3 x29, .bool x30, .row .e9 x31])], base := 89000 }
end
noncomputable def r7_3 (x0 : ByteArray) (x2 : List (C .e70)) (x3 : Int) (x5 : List (C .e44)) (x12 : Int) (x22 : List (C .e70)) (x23 : ByteArray) (x25 : ByteArray) (x26 : ByteArray) (x28 : ByteArray) (n : Nat)  (rec1 : A7_1 → Option (List (C .e44))) (rec2 : A7_2 → Option (List (C .e44))) (rec3 : A7_3 → Option (List (C .e44))) : A7_3 → Option (List (C .e44)) := fun (x1, x4) =>
 cond (decide (x4 < x3))
 (cond (decide (0 ≤ x4)) (Option.bind x2[x4.toNat]? fun e11 => cond (decide (e11.Key = x0))
 (cond (decide ((x1.length + (([e11] : List (C .e70))).length) * 40 ≤ 140737488355328)) (rec3 ((x1 ++ (([e11] : List (C .e70))), IntKind.i64.wrap (x4 + 1)))) none)
 (rec3 ((x1, IntKind.i64.wrap (x4 + 1))))) none)
 (lpN (r7_4 x23 x22 (x22.length : Int) x5 x12 x1 x25 x26 x28 n rec1 rec2) n ((([] : List (C .e70)), 0)))
section
variable (x0 : ByteArray) (x2 : List (C .e70)) (x3 : Int) (x5 : List (C .e44)) (x6 : Int) (x7 : List (C .e42)) (x8 : Int) (x9 : Int) (x10 : List (C .e54)) (x11 : Int) (x12 : Int) (x13 : List (C .e42)) (x14 : Int) (x15 : C .e42) (x16 : ByteArray) (x17 : ByteArray) (x18 : List (C .e70)) (x19 : ByteArray) (x20 : List (C .e70)) (x21 : ByteArray) (x22 : ByteArray) (x23 : List (C .e70)) (x24 : ByteArray) (x25 : List (C .e42)) (x26 : ByteArray) (x27 : ByteArray) (x28 : List (C .e70)) (x29 : ByteArray) (x30 : List (C .e3)) (x31 : Bool) (x32 : List (C .e9))
def s7_6 : A7_6 → St C := fun (x1, x4) => { env := [(1, .one (.str x0)), (5, .one (.ref 100005 [])), (9, .one (.row .e70 x2)), (10, .one (.int .i64 x3)), (11, .one (.int .i64 x4)), (1002, .sus (false, [.ptr 458880 0]) 93002), (1005, .sus (false, [.ref 30100500 []]) 93005), (1009, .sus (false, [.ptr 459328 0]) 93009), (1010, .sus (false, [.int .i64 x6]) 93010), (1012, .sus (false, [.ptr 459520 0]) 93012), (1048, .sus (false, [.row .e42 x7]) 93048), (1049, .sus (false, [.int .i64 x8]) 93049), (1050, .sus (false, [.int .i64 x9]) 93050), (1075, .sus (false, [.row .e54 x10]) 93075), (1076, .sus (false, [.int .i64 x11]) 93076), (1077, .sus (false, [.int .i64 x12]) 93077), (1081, .sus (false, [.ptr 458880 0]) 93081), (1082, .sus (false, [.row .e42 x13]) 93082), (1083, .sus (false, [.int .i64 x14]) 93083), (1084, .sus (false, [.elt .e42 x15 0]) 93084), (1085, .sus (true, [.str x16, .str x17, .row .e70 x18]) 93085), (1086, .sus (false, [.ptr 459520 0]) 93086), (1087, .sus (false, [.str x19]) 93087), (1088, .sus (false, [.ref 30108800 []]) 93088), (1089, .sus (true, [.str x21, .str x22, .row .e70 x23]) 93089), (1090, .sus (false, [.ptr 459520 0]) 93090), (1091, .sus (false, [.str x24]) 93091)], objs := [(100005, .row .e70 x1 true), (30100500, .row .e44 x5 false), (30108800, .row .e70 x20 true), (458880, .box .mem [.row .e42 x25]), (459328, .box .mem [.str x26, .str x27, .row .e70 x28]), (459520, .box .mem [.str x29, .row .e3 x30, .bool x31, .row .e9 x32])], base := 93000 }
end
noncomputable def r7_6 (x0 : ByteArray) (x2 : List (C .e70)) (x3 : Int) (x5 : List (C .e44)) (x12 : Int) (x20 : List (C .e70)) (x26 : ByteArray) (x27 : ByteArray) (x29 : ByteArray) (n : Nat)  (rec1 : A7_1 → Option (List (C .e44))) (rec2 : A7_2 → Option (List (C .e44))) (rec6 : A7_6 → Option (List (C .e44))) : A7_6 → Option (List (C .e44)) := fun (x1, x4) =>
 cond (decide (x4 < x3))
 (cond (decide (0 ≤ x4)) (Option.bind x2[x4.toNat]? fun e16 => cond (decide (e16.Key = x0))
 (cond (decide ((x1.length + (([e16] : List (C .e70))).length) * 40 ≤ 140737488355328)) (rec6 ((x1 ++ (([e16] : List (C .e70))), IntKind.i64.wrap (x4 + 1)))) none)
 (rec6 ((x1, IntKind.i64.wrap (x4 + 1))))) none)
 (Option.bind (G24 x20 x1) fun r17 =>
 cond r17
 (rec2 ((x5, IntKind.i64.wrap (x12 + 1))))
 (Option.bind (G21 x1) fun r18 =>
 cond ((x1.length : Int) == 0)
 (cond (decide ((x5.length + (([(⟨4, x26, x27, x29, r18⟩ : VSheetChange)] : List (C .e44))).length) * 80 ≤ 140737488355328)) (rec2 ((x5 ++ (([(⟨4, x26, x27, x29, r18⟩ : VSheetChange)] : List (C .e44))), IntKind.i64.wrap (x12 + 1)))) none)
 (cond (decide ((x5.length + (([(⟨3, x26, x27, x29, r18⟩ : VSheetChange)] : List (C .e44))).length) * 80 ≤ 140737488355328)) (rec2 ((x5 ++ (([(⟨3, x26, x27, x29, r18⟩ : VSheetChange)] : List (C .e44))), IntKind.i64.wrap (x12 + 1)))) none)))
section
variable (x0 : ByteArray) (x2 : List (C .e70)) (x3 : Int) (x5 : List (C .e44)) (x6 : Int) (x7 : List (C .e42)) (x8 : Int) (x9 : Int) (x10 : List (C .e54)) (x11 : Int) (x12 : Int) (x13 : List (C .e42)) (x14 : Int) (x15 : C .e42) (x16 : ByteArray) (x17 : ByteArray) (x18 : List (C .e70)) (x19 : ByteArray) (x20 : ByteArray) (x21 : ByteArray) (x22 : List (C .e70)) (x23 : List (C .e42)) (x24 : ByteArray) (x25 : ByteArray) (x26 : List (C .e70)) (x27 : ByteArray) (x28 : List (C .e3)) (x29 : Bool) (x30 : List (C .e9))
def s7_5 : A7_5 → St C := fun (x1, x4) => { env := [(1, .one (.str x0)), (5, .one (.ref 100005 [])), (9, .one (.row .e70 x2)), (10, .one (.int .i64 x3)), (11, .one (.int .i64 x4)), (1002, .sus (false, [.ptr 458880 0]) 89002), (1005, .sus (false, [.ref 30100500 []]) 89005), (1009, .sus (false, [.ptr 459328 0]) 89009), (1010, .sus (false, [.int .i64 x6]) 89010), (1012, .sus (false, [.ptr 459520 0]) 89012), (1048, .sus (false, [.row .e42 x7]) 89048), (1049, .sus (false, [.int .i64 x8]) 89049), (1050, .sus (false, [.int .i64 x9]) 89050), (1075, .sus (false, [.row .e54 x10]) 89075), (1076, .sus (false, [.int .i64 x11]) 89076), (1077, .sus (false, [.int .i64 x12]) 89077), (1081, .sus (false, [.ptr 458880 0]) 89081), (1082, .sus (false, [.row .e42 x13]) 89082), (1083, .sus (false, [.int .i64 x14]) 89083), (1084, .sus (false, [.elt .e42 x15 0]) 89084), (1085, .sus (true, [.str x16, .str x17, .row .e70 x18]) 89085), (1086, .sus (false, [.ptr 459520 0]) 89086), (1087, .sus (false, [.str x19]) 89087), (1089, .sus (true, [.str x20, .str x21, .row .e70 x22]) 89089), (1090, .sus (false, [.ptr 459520 0]) 89090)], objs := [(100005, .row .e70 x1 true), (30100500, .row .e44 x5 false), (458880, .box .mem [.row .e42 x23]), (459328, .box .mem [.str x24, .str x25, .row .e70 x26]), (459520, .box .mem [.str x27, .row .e3 x28, .bool x29, .row .e9 x30])], base := 89000 }
end
noncomputable def r7_5 (x0 : ByteArray) (x2 : List (C .e70)) (x3 : Int) (x5 : List (C .e44)) (x12 : Int) (x22 : List (C .e70)) (x24 : ByteArray) (x25 : ByteArray) (x27 : ByteArray) (n : Nat)  (rec1 : A7_1 → Option (List (C .e44))) (rec2 : A7_2 → Option (List (C .e44))) (rec5 : A7_5 → Option (List (C .e44))) : A7_5 → Option (List (C .e44)) := fun (x1, x4) =>
 cond (decide (x4 < x3))
 (cond (decide (0 ≤ x4)) (Option.bind x2[x4.toNat]? fun e15 => cond (decide (e15.Key = x0))
 (cond (decide ((x1.length + (([e15] : List (C .e70))).length) * 40 ≤ 140737488355328)) (rec5 ((x1 ++ (([e15] : List (C .e70))), IntKind.i64.wrap (x4 + 1)))) none)
 (rec5 ((x1, IntKind.i64.wrap (x4 + 1))))) none)
 (lpN (r7_6 x27 x22 (x22.length : Int) x5 x12 x1 x24 x25 x27 n rec1 rec2) n ((([] : List (C .e70)), 0)))
section
variable (x0 : ByteArray) (x2 : List (C .e70)) (x3 : Int) (x5 : List (C .e44)) (x6 : Int) (x7 : List (C .e42)) (x8 : Int) (x9 : Int) (x10 : List (C .e54)) (x11 : Int) (x12 : Int) (x13 : List (C .e42)) (x14 : Int) (x15 : C .e42) (x16 : ByteArray) (x17 : ByteArray) (x18 : List (C .e70)) (x19 : ByteArray) (x20 : List (C .e70)) (x21 : ByteArray) (x22 : ByteArray) (x23 : List (C .e70)) (x24 : ByteArray) (x25 : List (C .e42)) (x26 : ByteArray) (x27 : ByteArray) (x28 : List (C .e70)) (x29 : ByteArray) (x30 : List (C .e3)) (x31 : Bool) (x32 : List (C .e9))
def s7_8 : A7_8 → St C := fun (x1, x4) => { env := [(1, .one (.str x0)), (5, .one (.ref 100005 [])), (9, .one (.row .e70 x2)), (10, .one (.int .i64 x3)), (11, .one (.int .i64 x4)), (1002, .sus (false, [.ptr 458880 0]) 93002), (1005, .sus (false, [.ref 30100500 []]) 93005), (1009, .sus (false, [.ptr 459328 0]) 93009), (1010, .sus (false, [.int .i64 x6]) 93010), (1012, .sus (false, [.ptr 459520 0]) 93012), (1048, .sus (false, [.row .e42 x7]) 93048), (1049, .sus (false, [.int .i64 x8]) 93049), (1050, .sus (false, [.int .i64 x9]) 93050), (1075, .sus (false, [.row .e54 x10]) 93075), (1076, .sus (false, [.int .i64 x11]) 93076), (1077, .sus (false, [.int .i64 x12]) 93077), (1081, .sus (false, [.ptr 458880 0]) 93081), (1082, .sus (false, [.row .e42 x13]) 93082), (1083, .sus (false, [.int .i64 x14]) 93083), (1084, .sus (false, [.elt .e42 x15 0]) 93084), (1085, .sus (true, [.str x16, .str x17, .row .e70 x18]) 93085), (1086, .sus (false, [.ptr 459520 0]) 93086), (1087, .sus (false, [.str x19]) 93087), (1088, .sus (false, [.ref 30108800 []]) 93088), (1089, .sus (true, [.str x21, .str x22, .row .e70 x23]) 93089), (1090, .sus (false, [.ptr 459520 0]) 93090), (1091, .sus (false, [.str x24]) 93091)], objs := [(100005, .row .e70 x1 true), (30100500, .row .e44 x5 false), (30108800, .row .e70 x20 true), (458880, .box .mem [.row .e42 x25]), (459328, .box .mem [.str x26, .str x27, .row .e70 x28]), (459520, .box .mem [.str x29, .row .e3 x30, .bool x31, .row .e9 x32])], base := 93000 }
end
noncomputable def r7_8 (x0 : ByteArray) (x2 : List (C .e70)) (x3 : Int) (x5 : List (C .e44)) (x12 : Int) (x20 : List (C .e70)) (x26 : ByteArray) (x27 : ByteArray) (x29 : ByteArray) (n : Nat)  (rec1 : A7_1 → Option (List (C .e44))) (rec2 : A7_2 → Option (List (C .e44))) (rec8 : A7_8 → Option (List (C .e44))) : A7_8 → Option (List (C .e44)) := fun (x1, x4) =>
 cond (decide (x4 < x3))
 (cond (decide (0 ≤ x4)) (Option.bind x2[x4.toNat]? fun e20 => cond (decide (e20.Key = x0))
 (cond (decide ((x1.length + (([e20] : List (C .e70))).length) * 40 ≤ 140737488355328)) (rec8 ((x1 ++ (([e20] : List (C .e70))), IntKind.i64.wrap (x4 + 1)))) none)
 (rec8 ((x1, IntKind.i64.wrap (x4 + 1))))) none)
 (Option.bind (G24 x20 x1) fun r21 =>
 cond r21
 (rec2 ((x5, IntKind.i64.wrap (x12 + 1))))
 (Option.bind (G21 x1) fun r22 =>
 cond ((x1.length : Int) == 0)
 (cond (decide ((x5.length + (([(⟨4, x26, x27, x29, r22⟩ : VSheetChange)] : List (C .e44))).length) * 80 ≤ 140737488355328)) (rec2 ((x5 ++ (([(⟨4, x26, x27, x29, r22⟩ : VSheetChange)] : List (C .e44))), IntKind.i64.wrap (x12 + 1)))) none)
 (cond (decide ((x5.length + (([(⟨3, x26, x27, x29, r22⟩ : VSheetChange)] : List (C .e44))).length) * 80 ≤ 140737488355328)) (rec2 ((x5 ++ (([(⟨3, x26, x27, x29, r22⟩ : VSheetChange)] : List (C .e44))), IntKind.i64.wrap (x12 + 1)))) none)))
section
variable (x0 : ByteArray) (x2 : List (C .e70)) (x3 : Int) (x5 : List (C .e44)) (x6 : Int) (x7 : List (C .e42)) (x8 : Int) (x9 : Int) (x10 : List (C .e54)) (x11 : Int) (x12 : Int) (x13 : List (C .e42)) (x14 : Int) (x15 : C .e42) (x16 : ByteArray) (x17 : ByteArray) (x18 : List (C .e70)) (x19 : ByteArray) (x20 : ByteArray) (x21 : ByteArray) (x22 : List (C .e70)) (x23 : List (C .e42)) (x24 : ByteArray) (x25 : ByteArray) (x26 : List (C .e70)) (x27 : ByteArray) (x28 : List (C .e3)) (x29 : Bool) (x30 : List (C .e9))
def s7_7 : A7_7 → St C := fun (x1, x4) => { env := [(1, .one (.str x0)), (5, .one (.ref 100005 [])), (9, .one (.row .e70 x2)), (10, .one (.int .i64 x3)), (11, .one (.int .i64 x4)), (1002, .sus (false, [.ptr 458880 0]) 89002), (1005, .sus (false, [.ref 30100500 []]) 89005), (1009, .sus (false, [.ptr 459328 0]) 89009), (1010, .sus (false, [.int .i64 x6]) 89010), (1012, .sus (false, [.ptr 459520 0]) 89012), (1048, .sus (false, [.row .e42 x7]) 89048), (1049, .sus (false, [.int .i64 x8]) 89049), (1050, .sus (false, [.int .i64 x9]) 89050), (1075, .sus (false, [.row .e54 x10]) 89075), (1076, .sus (false, [.int .i64 x11]) 89076), (1077, .sus (false, [.int .i64 x12]) 89077), (1081, .sus (false, [.ptr 458880 0]) 89081), (1082, .sus (false, [.row .e42 x13]) 89082), (1083, .sus (false, [.int .i64 x14]) 89083), (1084, .sus (false, [.elt .e42 x15 0]) 89084), (1085, .sus (true, [.str x16, .str x17, .row .e70 x18]) 89085), (1086, .sus (false, [.ptr 459520 0]) 89086), (1087, .sus (false, [.str x19]) 89087), (1089, .sus (true, [.str x20, .str x21, .row .e70 x22]) 89089)], objs := [(100005, .row .e70 x1 true), (30100500, .row .e44 x5 false), (458880, .box .mem [.row .e42 x23]), (459328, .box .mem [.str x24, .str x25, .row .e70 x26]), (459520, .box .mem [.str x27, .row .e3 x28, .bool x29, .row .e9 x30])], base := 89000 }
end
noncomputable def r7_7 (x0 : ByteArray) (x2 : List (C .e70)) (x3 : Int) (x5 : List (C .e44)) (x12 : Int) (x22 : List (C .e70)) (x24 : ByteArray) (x25 : ByteArray) (x27 : ByteArray) (n : Nat)  (rec1 : A7_1 → Option (List (C .e44))) (rec2 : A7_2 → Option (List (C .e44))) (rec7 : A7_7 → Option (List (C .e44))) : A7_7 → Option (List (C .e44)) := fun (x1, x4) =>
 cond (decide (x4 < x3))
 (cond (decide (0 ≤ x4)) (Option.bind x2[x4.toNat]? fun e19 => cond (decide (e19.Key = x0))
 (cond (decide ((x1.length + (([e19] : List (C .e70))).length) * 40 ≤ 140737488355328)) (rec7 ((x1 ++ (([e19] : List (C .e70))), IntKind.i64.wrap (x4 + 1)))) none)
 (rec7 ((x1, IntKind.i64.wrap (x4 + 1))))) none)
 (lpN (r7_8 x27 x22 (x22.length : Int) x5 x12 x1 x24 x25 x27 n rec1 rec2) n ((([] : List (C .e70)), 0)))
section
variable (x0 : ByteArray) (x2 : List (C .e70)) (x3 : Int) (x5 : List (C .e44)) (x6 : Int) (x7 : List (C .e42)) (x8 : Int) (x9 : Int) (x10 : List (C .e54)) (x11 : Int) (x12 : Int) (x13 : List (C .e42)) (x14 : Int) (x15 : C .e42) (x16 : ByteArray) (x17 : ByteArray) (x18 : List (C .e70)) (x19 : ByteArray) (x20 : ByteArray) (x21 : List (C .e42)) (x22 : ByteArray) (x23 : ByteArray) (x24 : List (C .e70)) (x25 : ByteArray) (x26 : List (C .e3)) (x27 : Bool) (x28 : List (C .e9))
def s7_9 : A7_9 → St C := fun (x1, x4) => { env := [(1, .one (.str x0)), (5, .one (.ref 100005 [])), (9, .one (.row .e70 x2)), (10, .one (.int .i64 x3)), (11, .one (.int .i64 x4)), (1002, .sus (false, [.ptr 458880 0]) 89002), (1005, .sus (false, [.ref 30100500 []]) 89005), (1009, .sus (false, [.ptr 459328 0]) 89009), (1010, .sus (false, [.int .i64 x6]) 89010), (1012, .sus (false, [.ptr 459520 0]) 89012), (1048, .sus (false, [.row .e42 x7]) 89048), (1049, .sus (false, [.int .i64 x8]) 89049), (1050, .sus (false, [.int .i64 x9]) 89050), (1075, .sus (false, [.row .e54 x10]) 89075), (1076, .sus (false, [.int .i64 x11]) 89076), (1077, .sus (false, [.int .i64 x12]) 89077), (1081, .sus (false, [.ptr 458880 0]) 89081), (1082, .sus (false, [.row .e42 x13]) 89082), (1083, .sus (false, [.int .i64 x14]) 89083), (1084, .sus (false, [.elt .e42 x15 0]) 89084), (1085, .sus (true, [.str x16, .str x17, .row .e70 x18]) 89085), (1086, .sus (false, [.ptr 459520 0]) 89086), (1087, .sus (false, [.str x19]) 89087), (1090, .sus (false, [.ptr 459520 0]) 89090), (1091, .sus (false, [.str x20]) 89091)], objs := [(100005, .row .e70 x1 true), (30100500, .row .e44 x5 false), (458880, .box .mem [.row .e42 x21]), (459328, .box .mem [.str x22, .str x23, .row .e70 x24]), (459520, .box .mem [.str x25, .row .e3 x26, .bool x27, .row .e9 x28])], base := 89000 }
end
noncomputable def r7_9 (x0 : ByteArray) (x2 : List (C .e70)) (x3 : Int) (x5 : List (C .e44)) (x12 : Int) (x20 : ByteArray) (x22 : ByteArray) (x23 : ByteArray) (x24 : List (C .e70)) (x25 : ByteArray) (n : Nat)  (rec1 : A7_1 → Option (List (C .e44))) (rec2 : A7_2 → Option (List (C .e44))) (rec9 : A7_9 → Option (List (C .e44))) : A7_9 → Option (List (C .e44)) := fun (x1, x4) =>
 cond (decide (x4 < x3))
 (cond (decide (0 ≤ x4)) (Option.bind x2[x4.toNat]? fun e23 => cond (decide (e23.Key = x0))
 (cond (decide ((x1.length + (([e23] : List (C .e70))).length) * 40 ≤ 140737488355328)) (rec9 ((x1 ++ (([e23] : List (C .e70))), IntKind.i64.wrap (x4 + 1)))) none)
 (rec9 ((x1, IntKind.i64.wrap (x4 + 1))))) none)
 (lpN (r7_6 x20 x24 (x24.length : Int) x5 x12 x1 x22 x23 x25 n rec1 rec2) n ((([] : List (C .e70)), 0)))
section
variable (x0 : ByteArray) (x2 : List (C .e70)) (x3 : Int) (x5 : List (C .e44)) (x6 : Int) (x7 : List (C .e42)) (x8 : Int) (x9 : Int) (x10 : List (C .e54)) (x11 : Int) (x12 : Int) (x13 : List (C .e42)) (x14 : Int) (x15 : C .e42) (x16 : ByteArray) (x17 : ByteArray) (x18 : List (C .e70)) (x19 : ByteArray) (x20 : List (C .e42)) (x21 : ByteArray) (x22 : ByteArray) (x23 : List (C .e70)) (x24 : ByteArray) (x25 : List (C .e3)) (x26 : Bool) (x27 : List (C .e9))
def s7_10 : A7_10 → St C := fun (x1, x4) => { env := [(1, .one (.str x0)), (5, .one (.ref 100005 [])), (9, .one (.row .e70 x2)), (10, .one (.int .i64 x3)), (11, .one (.int .i64 x4)), (1002, .sus (false, [.ptr 458880 0]) 89002), (1005, .sus (false, [.ref 30100500 []]) 89005), (1009, .sus (false, [.ptr 459328 0]) 89009), (1010, .sus (false, [.int .i64 x6]) 89010), (1012, .sus (false, [.ptr 459520 0]) 89012), (1048, .sus (false, [.row .e42 x7]) 89048), (1049, .sus (false, [.int .i64 x8]) 89049), (1050, .sus (false, [.int .i64 x9]) 89050), (1075, .sus (false, [.row .e54 x10]) 89075), (1076, .sus (false, [.int .i64 x11]) 89076), (1077, .sus (false, [.int .i64 x12]) 89077), (1081, .sus (false, [.ptr 458880 0]) 89081), (1082, .sus (false, [.row .e42 x13]) 89082), (1083, .sus (false, [.int .i64 x14]) 89083), (1084, .sus (false, [.elt .e42 x15 0]) 89084), (1085, .sus (true, [.str x16, .str x17, .row .e70 x18]) 89085), (1086, .sus (false, [.ptr 459520 0]) 89086), (1087, .sus (false, [.str x19]) 89087), (1090, .sus (false, [.ptr 459520 0]) 89090)], objs := [(100005, .row .e70 x1 true), (30100500, .row .e44 x5 false), (458880, .box .mem [.row .e42 x20]), (459328, .box .mem [.str x21, .str x22, .row .e70 x23]), (459520, .box .mem [.str x24, .row .e3 x25, .bool x26, .row .e9 x27])], base := 89000 }
end
noncomputable def r7_10 (x0 : ByteArray) (x2 : List (C .e70)) (x3 : Int) (x5 : List (C .e44)) (x12 : Int) (x21 : ByteArray) (x22 : ByteArray) (x23 : List (C .e70)) (x24 : ByteArray) (n : Nat)  (rec1 : A7_1 → Option (List (C .e44))) (rec2 : A7_2 → Option (List (C .e44))) (rec10 : A7_10 → Option (List (C .e44))) : A7_10 → Option (List (C .e44)) := fun (x1, x4) =>
 cond (decide (x4 < x3))
 (cond (decide (0 ≤ x4)) (Option.bind x2[x4.toNat]? fun e24 => cond (decide (e24.Key = x0))
 (cond (decide ((x1.length + (([e24] : List (C .e70))).length) * 40 ≤ 140737488355328)) (rec10 ((x1 ++ (([e24] : List (C .e70))), IntKind.i64.wrap (x4 + 1)))) none)
 (rec10 ((x1, IntKind.i64.wrap (x4 + 1))))) none)
 (lpN (r7_8 x24 x23 (x23.length : Int) x5 x12 x1 x21 x22 x24 n rec1 rec2) n ((([] : List (C .e70)), 0)))
section
variable (x0 : ByteArray) (x2 : List (C .e70)) (x3 : Int) (x5 : List (C .e44)) (x6 : Int) (x7 : List (C .e42)) (x8 : Int) (x9 : Int) (x10 : List (C .e54)) (x11 : Int) (x12 : Int) (x13 : List (C .e42)) (x14 : Int) (x15 : C .e42) (x16 : ByteArray) (x17 : ByteArray) (x18 : List (C .e70)) (x19 : ByteArray) (x20 : List (C .e70)) (x21 : ByteArray) (x22 : ByteArray) (x23 : List (C .e70)) (x24 : ByteArray) (x25 : List (C .e42)) (x26 : ByteArray) (x27 : ByteArray) (x28 : List (C .e70)) (x29 : ByteArray) (x30 : List (C .e3)) (x31 : Bool) (x32 : List (C .e9))
def s7_12 : A7_12 → St C := fun (x1, x4) => { env := [(1, .one (.str x0)), (5, .one (.ref 100005 [])), (9, .one (.row .e70 x2)), (10, .one (.int .i64 x3)), (11, .one (.int .i64 x4)), (1002, .sus (false, [.ptr 458880 0]) 93002), (1005, .sus (false, [.ref 30100500 []]) 93005), (1009, .sus (false, [.ptr 459328 0]) 93009), (1010, .sus (false, [.int .i64 x6]) 93010), (1012, .sus (false, [.ptr 459520 0]) 93012), (1048, .sus (false, [.row .e42 x7]) 93048), (1049, .sus (false, [.int .i64 x8]) 93049), (1050, .sus (false, [.int .i64 x9]) 93050), (1075, .sus (false, [.row .e54 x10]) 93075), (1076, .sus (false, [.int .i64 x11]) 93076), (1077, .sus (false, [.int .i64 x12]) 93077), (1081, .sus (false, [.ptr 458880 0]) 93081), (1082, .sus (false, [.row .e42 x13]) 93082), (1083, .sus (false, [.int .i64 x14]) 93083), (1084, .sus (false, [.elt .e42 x15 0]) 93084), (1085, .sus (true, [.str x16, .str x17, .row .e70 x18]) 93085), (1086, .sus (false, [.ptr 459520 0]) 93086), (1087, .sus (false, [.str x19]) 93087), (1088, .sus (false, [.ref 30108800 []]) 93088), (1089, .sus (true, [.str x21, .str x22, .row .e70 x23]) 93089), (1090, .sus (false, [.ptr 459520 0]) 93090), (1091, .sus (false, [.str x24]) 93091)], objs := [(100005, .row .e70 x1 true), (30100500, .row .e44 x5 false), (30108800, .row .e70 x20 true), (458880, .box .mem [.row .e42 x25]), (459328, .box .mem [.str x26, .str x27, .row .e70 x28]), (459520, .box .mem [.str x29, .row .e3 x30, .bool x31, .row .e9 x32])], base := 93000 }
end
noncomputable def r7_12 (x0 : ByteArray) (x2 : List (C .e70)) (x3 : Int) (x5 : List (C .e44)) (x12 : Int) (x20 : List (C .e70)) (x26 : ByteArray) (x27 : ByteArray) (x29 : ByteArray) (n : Nat)  (rec1 : A7_1 → Option (List (C .e44))) (rec2 : A7_2 → Option (List (C .e44))) (rec12 : A7_12 → Option (List (C .e44))) : A7_12 → Option (List (C .e44)) := fun (x1, x4) =>
 cond (decide (x4 < x3))
 (cond (decide (0 ≤ x4)) (Option.bind x2[x4.toNat]? fun e26 => cond (decide (e26.Key = x0))
 (cond (decide ((x1.length + (([e26] : List (C .e70))).length) * 40 ≤ 140737488355328)) (rec12 ((x1 ++ (([e26] : List (C .e70))), IntKind.i64.wrap (x4 + 1)))) none)
 (rec12 ((x1, IntKind.i64.wrap (x4 + 1))))) none)
 (Option.bind (G24 x20 x1) fun r27 =>
 cond r27
 (rec2 ((x5, IntKind.i64.wrap (x12 + 1))))
 (Option.bind (G21 x1) fun r28 =>
 cond ((x1.length : Int) == 0)
 (cond (decide ((x5.length + (([(⟨4, x26, x27, x29, r28⟩ : VSheetChange)] : List (C .e44))).length) * 80 ≤ 140737488355328)) (rec2 ((x5 ++ (([(⟨4, x26, x27, x29, r28⟩ : VSheetChange)] : List (C .e44))), IntKind.i64.wrap (x12 + 1)))) none)
 (cond (decide ((x5.length + (([(⟨3, x26, x27, x29, r28⟩ : VSheetChange)] : List (C .e44))).length) * 80 ≤ 140737488355328)) (rec2 ((x5 ++ (([(⟨3, x26, x27, x29, r28⟩ : VSheetChange)] : List (C .e44))), IntKind.i64.wrap (x12 + 1)))) none)))
section
variable (x0 : ByteArray) (x2 : List (C .e70)) (x3 : Int) (x5 : List (C .e44)) (x6 : Int) (x7 : List (C .e42)) (x8 : Int) (x9 : Int) (x10 : List (C .e54)) (x11 : Int) (x12 : Int) (x13 : List (C .e42)) (x14 : Int) (x15 : C .e42) (x16 : ByteArray) (x17 : ByteArray) (x18 : List (C .e70)) (x19 : ByteArray) (x20 : List (C .e42)) (x21 : ByteArray) (x22 : ByteArray) (x23 : List (C .e70)) (x24 : ByteArray) (x25 : List (C .e3)) (x26 : Bool) (x27 : List (C .e9))
def s7_11 : A7_11 → St C := fun (x1, x4) => { env := [(1, .one (.str x0)), (5, .one (.ref 100005 [])), (9, .one (.row .e70 x2)), (10, .one (.int .i64 x3)), (11, .one (.int .i64 x4)), (1002, .sus (false, [.ptr 458880 0]) 89002), (1005, .sus (false, [.ref 30100500 []]) 89005), (1009, .sus (false, [.ptr 459328 0]) 89009), (1010, .sus (false, [.int .i64 x6]) 89010), (1012, .sus (false, [.ptr 459520 0]) 89012), (1048, .sus (false, [.row .e42 x7]) 89048), (1049, .sus (false, [.int .i64 x8]) 89049), (1050, .sus (false, [.int .i64 x9]) 89050), (1075, .sus (false, [.row .e54 x10]) 89075), (1076, .sus (false, [.int .i64 x11]) 89076), (1077, .sus (false, [.int .i64 x12]) 89077), (1081, .sus (false, [.ptr 458880 0]) 89081), (1082, .sus (false, [.row .e42 x13]) 89082), (1083, .sus (false, [.int .i64 x14]) 89083), (1084, .sus (false, [.elt .e42 x15 0]) 89084), (1085, .sus (true, [.str x16, .str x17, .row .e70 x18]) 89085), (1086, .sus (false, [.ptr 459520 0]) 89086), (1087, .sus (false, [.str x19]) 89087)], objs := [(100005, .row .e70 x1 true), (30100500, .row .e44 x5 false), (458880, .box .mem [.row .e42 x20]), (459328, .box .mem [.str x21, .str x22, .row .e70 x23]), (459520, .box .mem [.str x24, .row .e3 x25, .bool x26, .row .e9 x27])], base := 89000 }
end
noncomputable def r7_11 (x0 : ByteArray) (x2 : List (C .e70)) (x3 : Int) (x5 : List (C .e44)) (x12 : Int) (x21 : ByteArray) (x22 : ByteArray) (x23 : List (C .e70)) (x24 : ByteArray) (n : Nat)  (rec1 : A7_1 → Option (List (C .e44))) (rec2 : A7_2 → Option (List (C .e44))) (rec11 : A7_11 → Option (List (C .e44))) : A7_11 → Option (List (C .e44)) := fun (x1, x4) =>
 cond (decide (x4 < x3))
 (cond (decide (0 ≤ x4)) (Option.bind x2[x4.toNat]? fun e25 => cond (decide (e25.Key = x0))
 (cond (decide ((x1.length + (([e25] : List (C .e70))).length) * 40 ≤ 140737488355328)) (rec11 ((x1 ++ (([e25] : List (C .e70))), IntKind.i64.wrap (x4 + 1)))) none)
 (rec11 ((x1, IntKind.i64.wrap (x4 + 1))))) none)
 (lpN (r7_12 x24 x23 (x23.length : Int) x5 x12 x1 x21 x22 x24 n rec1 rec2) n ((([] : List (C .e70)), 0)))
section
variable (x1 : Int) (x2 : List (C .e42)) (x3 : Int) (x4 : Int) (x5 : List (C .e54)) (x6 : Int) (x8 : List (C .e42)) (x9 : ByteArray) (x10 : ByteArray) (x11 : List (C .e70))
def s7_2 : A7_2 → St C := fun (x0, x7) => { env := [(2, .one (.ptr 458880 0)), (5, .one (.ref 100005 [])), (9, .one (.ptr 459328 0)), (10, .one (.int .i64 x1)), (48, .one (.row .e42 x2)), (49, .one (.int .i64 x3)), (50, .one (.int .i64 x4)), (75, .one (.row .e54 x5)), (76, .one (.int .i64 x6)), (77, .one (.int .i64 x7))], objs := [(100005, .row .e44 x0 false), (458880, .box .mem [.row .e42 x8]), (459328, .box .mem [.str x9, .str x10, .row .e70 x11])], base := 0 }
end
noncomputable def r7_2 (x1 : Int) (x4 : Int) (x5 : List (C .e54)) (x6 : Int) (x8 : List (C .e42)) (x9 : ByteArray) (x10 : ByteArray) (x11 : List (C .e70)) (n : Nat)  (rec1 : A7_1 → Option (List (C .e44))) (rec2 : A7_2 → Option (List (C .e44))) : A7_2 → Option (List (C .e44)) := fun (x0, x7) =>
 cond (decide (x7 < x6))
 (cond (decide (0 ≤ x7)) (Option.bind x5[x7.toNat]? fun e9 => cond (decide (0 ≤ x1)) (Option.bind x8[x1.toNat]? fun e10 => alt (lpN (r7_3 e9.Key e10.Lines (e10.Lines.length : Int) x0 x7 x11 e9.Key x9 x10 e9.Key n rec1 rec2) n ((([] : List (C .e70)), 0)))
 (alt (lpN (r7_5 e9.Key e10.Lines (e10.Lines.length : Int) x0 x7 x11 x9 x10 e9.Key n rec1 rec2) n ((([] : List (C .e70)), 0)))
 (alt (lpN (r7_7 e9.Key e10.Lines (e10.Lines.length : Int) x0 x7 x11 x9 x10 e9.Key n rec1 rec2) n ((([] : List (C .e70)), 0)))
 (alt (lpN (r7_9 e9.Key e10.Lines (e10.Lines.length : Int) x0 x7 e9.Key x9 x10 x11 e9.Key n rec1 rec2) n ((([] : List (C .e70)), 0)))
 (alt (lpN (r7_10 e9.Key e10.Lines (e10.Lines.length : Int) x0 x7 x9 x10 x11 e9.Key n rec1 rec2) n ((([] : List (C .e70)), 0)))
 (lpN (r7_11 e9.Key e10.Lines (e10.Lines.length : Int) x0 x7 x9 x10 x11 e9.Key n rec1 rec2) n ((([] : List (C .e70)), 0)))))))) none) none)
 (rec1 ((x0, IntKind.i64.wrap (x4 + 1))))
section
variable (x1 : List (C .e42)) (x2 : Int) (x4 : List (C .e42))
def s7_1 : A7_1 → St C := fun (x0, x3) => { env := [(2, .one (.ptr 458880 0)), (5, .one (.ref 100005 [])), (48, .one (.row .e42 x1)), (49, .one (.int .i64 x2)), (50, .one (.int .i64 x3))], objs := [(100005, .row .e44 x0 false), (458880, .box .mem [.row .e42 x4])], base := 0 }
end
noncomputable def r7_1 (x1 : List (C .e42)) (x2 : Int) (x4 : List (C .e42)) (n : Nat)   (rec1 : A7_1 → Option (List (C .e44))) : A7_1 → Option (List (C .e44)) := fun (x0, x3) =>
 cond (decide (x3 < x2))
 (cond (decide (0 ≤ x3)) (Option.bind x1[x3.toNat]? fun e5 => Option.bind (G20 (⟨x4⟩ : VSheet) e5.Kind e5.Name) fun r6 =>
 cond (decide (r6 < 0))
 (Option.bind (G21 e5.Lines) fun r7 =>
 cond (decide ((x0.length + (([(⟨2, e5.Kind, e5.Name, (⟨#[]⟩ : ByteArray), r7⟩ : VSheetChange)] : List (C .e44))).length) * 80 ≤ 140737488355328)) (rec1 ((x0 ++ (([(⟨2, e5.Kind, e5.Name, (⟨#[]⟩ : ByteArray), r7⟩ : VSheetChange)] : List (C .e44))), IntKind.i64.wrap (x3 + 1)))) none)
 (Option.bind (G22 e5.Kind) fun r8 =>
 lpN (r7_2 r6 x3 r8 (r8.length : Int) x4 e5.Kind e5.Name e5.Lines n rec1) n (x0, 0))) none)
 (some (x0))
section
variable (x1 : List (C .e42)) (x2 : Int) (x4 : List (C .e42)) (x5 : List (C .e42))
def s7_0 : A7_0 → St C := fun (x0, x3) => { env := [(2, .one (.ptr 458880 0)), (3, .one (.ptr 458944 0)), (5, .one (.ref 100005 [])), (25, .one (.row .e42 x1)), (26, .one (.int .i64 x2)), (27, .one (.int .i64 x3))], objs := [(100005, .row .e44 x0 false), (458880, .box .mem [.row .e42 x4]), (458944, .box .mem [.row .e42 x5])], base := 0 }
end
noncomputable def r7_0 (x1 : List (C .e42)) (x2 : Int) (x4 : List (C .e42)) (x5 : List (C .e42)) (n : Nat)   (rec0 : A7_0 → Option (List (C .e44))) : A7_0 → Option (List (C .e44)) := fun (x0, x3) =>
 cond (decide (x3 < x2))
 (cond (decide (0 ≤ x3)) (Option.bind x1[x3.toNat]? fun e3 => Option.bind (G20 (⟨x5⟩ : VSheet) e3.Kind e3.Name) fun r4 =>
 cond (decide (r4 < 0))
 (cond (decide ((x0.length + (([(⟨1, e3.Kind, e3.Name, (⟨#[]⟩ : ByteArray), ([] : List (C .e70))⟩ : VSheetChange)] : List (C .e44))).length) * 80 ≤ 140737488355328)) (rec0 ((x0 ++ (([(⟨1, e3.Kind, e3.Name, (⟨#[]⟩ : ByteArray), ([] : List (C .e70))⟩ : VSheetChange)] : List (C .e44))), IntKind.i64.wrap (x3 + 1)))) none)
 (rec0 ((x0, IntKind.i64.wrap (x3 + 1))))) none)
 (lpN (r7_1 x5 (x5.length : Int) x4 n ) n (x0, 0))
section
variable (x0 : ByteArray) (x2 : List (C .e70)) (x3 : Int) (x5 : List (C .e44)) (x6 : Int) (x7 : List (C .e42)) (x8 : Int) (x9 : Int) (x10 : List (C .e54)) (x11 : Int) (x12 : Int) (x13 : List (C .e42)) (x14 : Int) (x15 : C .e42) (x16 : ByteArray) (x17 : ByteArray) (x18 : List (C .e70)) (x19 : ByteArray) (x20 : List (C .e70)) (x21 : ByteArray) (x22 : ByteArray) (x23 : List (C .e70)) (x24 : ByteArray) (x25 : List (C .e42)) (x26 : ByteArray) (x27 : ByteArray) (x28 : List (C .e70)) (x29 : ByteArray) (x30 : List (C .e3)) (x31 : Bool) (x32 : List (C .e9))
noncomputable def MP7_4 (n : Nat) (rec1 : St C → Option (List (C .e44))) (rec2 : St C → Option (List (C .e44))) (x : A7_4) : Option (List (C .e44)) := iter (fun rec S => run X23 (F23 n) (codeAt (bodyOf Tryd.f23) [1, 1, 0, 1, 0, 0]) 0 S (lopK rec (blkK 0 (seqK (run X23 (F23 n) (codeAt (bodyOf Tryd.f23) [1, 1, 1]) 0) (inlK X23 Tryd.f23 (callK 92000 0 (some 92) (drawK (X7 n) (codeAt (bodyOf Tryd.f7) [1, 1, 1, 1, 0, 1, 0, 0, 1, 1, 0, 0, 1, 1, 1, 1, 0, 0, 1, 1, 0, 0, 1, 0]) 4084 [12, 13] (regK (F7 n) (seqK (run (X7 n) (F7 n) (codeAt (bodyOf Tryd.f7) [1, 1, 1, 1, 0, 1, 0, 0, 1, 1, 0, 0, 1, 1, 1, 1, 0, 0, 1, 1, 0, 0, 1, 1]) 5) (blkK 5 (seqK (run (X7 n) (F7 n) (codeAt (bodyOf Tryd.f7) [1, 1, 1, 1, 0, 1, 0, 0, 1, 1, 0, 0, 1, 1, 1, 1, 0, 0, 1, 1, 1]) 4) (lopK (canThen [2, 5, 9, 10, 48, 49, 50, 75, 76, 77] rec2) (blkK 4 (blkK 3 (seqK (run (X7 n) (F7 n) (codeAt (bodyOf Tryd.f7) [1, 1, 1, 1, 0, 1, 0, 0, 1, 1, 1]) 2) (lopK (canThen [2, 5, 48, 49, 50] rec1) (blkK 2 (seqK (run (X7 n) (F7 n) (codeAt (bodyOf Tryd.f7) [1, 1, 1, 1, 1]) 0) (kTop (X7 n) Tryd.f7 dec7))))))))))))))))))) [1, 5, 9, 10, 11, 1000100005] n (s7_4 x0 x2 x3 x5 x6 x7 x8 x9 x10 x11 x12 x13 x14 x15 x16 x17 x18 x19 x20 x21 x22 x23 x24 x25 x26 x27 x28 x29 x30 x31 x32 x)
theorem m7_4 (n : Nat) (rec1 : St C → Option (List (C .e44))) (rec2 : St C → Option (List (C .e44))) (x : A7_4) : MP7_4 x0 x2 x3 x5 x6 x7 x8 x9 x10 x11 x12 x13 x14 x15 x16 x17 x18 x19 x20 x21 x22 x23 x24 x25 x26 x27 x28 x29 x30 x31 x32 n rec1 rec2 x = lpN (r7_4 x0 x2 x3 x5 x12 x20 x26 x27 x29 n  (fun x => rec1 (s7_1 x7 x8 x13 x)) (fun x => rec2 (s7_2 x6 x7 x8 x9 x10 x11 x25 x26 x27 x28 x))) n x := by
  refine iter_eq (s7_4 x0 x2 x3 x5 x6 x7 x8 x9 x10 x11 x12 x13 x14 x15 x16 x17 x18 x19 x20 x21 x22 x23 x24 x25 x26 x27 x28 x29 x30 x31 x32) (r7_4 x0 x2 x3 x5 x12 x20 x26 x27 x29 n  (fun x => rec1 (s7_1 x7 x8 x13 x)) (fun x => rec2 (s7_2 x6 x7 x8 x9 x10 x11 x25 x26 x27 x28 x))) (fun rec4 x => ?_) n x
  obtain ⟨x1, x4⟩ := x
  kernel_rfl
end
section
variable (x0 : ByteArray) (x2 : List (C .e70)) (x3 : Int) (x5 : List (C .e44)) (x6 : Int) (x7 : List (C .e42)) (x8 : Int) (x9 : Int) (x10 : List (C .e54)) (x11 : Int) (x12 : Int) (x13 : List (C .e42)) (x14 : Int) (x15 : C .e42) (x16 : ByteArray) (x17 : ByteArray) (x18 : List (C .e70)) (x19 : ByteArray) (x20 : ByteArray) (x21 : ByteArray) (x22 : List (C .e70)) (x23 : ByteArray) (x24 : List (C .e42)) (x25 : ByteArray) (x26 : ByteArray) (x27 : List (C .e70)) (x28 : ByteArray) (x29 : List (C .e3)) (x30 : Bool) (x31 : List (C .e9))
noncomputable def MP7_3 (n : Nat) (rec1 : St C → Option (List (C .e44))) (rec2 : St C → Option (List (C .e44))) (x : A7_3) : Option (List (C .e44)) := iter (fun rec S => run X23 (F23 n) (codeAt (bodyOf Tryd.f23) [1, 1, 0, 1, 0, 0]) 0 S (lopK rec (blkK 0 (seqK (run X23 (F23 n) (codeAt (bodyOf Tryd.f23) [1, 1, 1]) 0) (inlK X23 Tryd.f23 (callK 88000 0 (some 88) (drawK (X7 n) (codeAt (bodyOf Tryd.f7) [1, 1, 1, 1, 0, 1, 0, 0, 1, 1, 0, 0, 1, 1, 1, 1, 0, 0, 1, 1, 0, 0, 1, 0]) 4085 [11, 12, 13] (regK (F7 n) (seqK (run (X7 n) (F7 n) (codeAt (bodyOf Tryd.f7) [1, 1, 1, 1, 0, 1, 0, 0, 1, 1, 0, 0, 1, 1, 1, 1, 0, 0, 1, 1, 0, 0, 1, 1]) 5) (blkK 5 (seqK (run (X7 n) (F7 n) (codeAt (bodyOf Tryd.f7) [1, 1, 1, 1, 0, 1, 0, 0, 1, 1, 0, 0, 1, 1, 1, 1, 0, 0, 1, 1, 1]) 4) (lopK (canThen [2, 5, 9, 10, 48, 49, 50, 75, 76, 77] rec2) (blkK 4 (blkK 3 (seqK (run (X7 n) (F7 n) (codeAt (bodyOf Tryd.f7) [1, 1, 1, 1, 0, 1, 0, 0, 1, 1, 1]) 2) (lopK (canThen [2, 5, 48, 49, 50] rec1) (blkK 2 (seqK (run (X7 n) (F7 n) (codeAt (bodyOf Tryd.f7) [1, 1, 1, 1, 1]) 0) (kTop (X7 n) Tryd.f7 dec7))))))))))))))))))) [1, 5, 9, 10, 11, 1000100005] n (s7_3 x0 x2 x3 x5 x6 x7 x8 x9 x10 x11 x12 x13 x14 x15 x16 x17 x18 x19 x20 x21 x22 x23 x24 x25 x26 x27 x28 x29 x30 x31 x)
theorem m7_3 (n : Nat) (rec1 : St C → Option (List (C .e44))) (rec2 : St C → Option (List (C .e44))) (x : A7_3) : MP7_3 x0 x2 x3 x5 x6 x7 x8 x9 x10 x11 x12 x13 x14 x15 x16 x17 x18 x19 x20 x21 x22 x23 x24 x25 x26 x27 x28 x29 x30 x31 n rec1 rec2 x = lpN (r7_3 x0 x2 x3 x5 x12 x22 x23 x25 x26 x28 n  (fun x => rec1 (s7_1 x7 x8 x13 x)) (fun x => rec2 (s7_2 x6 x7 x8 x9 x10 x11 x24 x25 x26 x27 x))) n x := by
  refine iter_eq (s7_3 x0 x2 x3 x5 x6 x7 x8 x9 x10 x11 x12 x13 x14 x15 x16 x17 x18 x19 x20 x21 x22 x23 x24 x25 x26 x27 x28 x29 x30 x31) (r7_3 x0 x2 x3 x5 x12 x22 x23 x25 x26 x28 n  (fun x => rec1 (s7_1 x7 x8 x13 x)) (fun x => rec2 (s7_2 x6 x7 x8 x9 x10 x11 x24 x25 x26 x27 x))) (fun rec3 x => ?_) n x
  obtain ⟨x1, x4⟩ := x
  have h : run X23 (F23 n) (codeAt (bodyOf Tryd.f23) [1, 1, 0, 1, 0, 0]) 0 (s7_3 x0 x2 x3 x5 x6 x7 x8 x9 x10 x11 x12 x13 x14 x15 x16 x17 x18 x19 x20 x21 x22 x23 x24 x25 x26 x27 x28 x29 x30 x31 (x1, x4)) (lopK (canThen [1, 5, 9, 10, 11, 1000100005] rec3) (blkK 0 (seqK (run X23 (F23 n) (codeAt (bodyOf Tryd.f23) [1, 1, 1]) 0) (inlK X23 Tryd.f23 (callK 88000 0 (some 88) (drawK (X7 n) (codeAt (bodyOf Tryd.f7) [1, 1, 1, 1, 0, 1, 0, 0, 1, 1, 0, 0, 1, 1, 1, 1, 0, 0, 1, 1, 0, 0, 1, 0]) 4085 [11, 12, 13] (regK (F7 n) (seqK (run (X7 n) (F7 n) (codeAt (bodyOf Tryd.f7) [1, 1, 1, 1, 0, 1, 0, 0, 1, 1, 0, 0, 1, 1, 1, 1, 0, 0, 1, 1, 0, 0, 1, 1]) 5) (blkK 5 (seqK (run (X7 n) (F7 n) (codeAt (bodyOf Tryd.f7) [1, 1, 1, 1, 0, 1, 0, 0, 1, 1, 0, 0, 1, 1, 1, 1, 0, 0, 1, 1, 1]) 4) (lopK (canThen [2, 5, 9, 10, 48, 49, 50, 75, 76, 77] rec2) (blkK 4 (blkK 3 (seqK (run (X7 n) (F7 n) (codeAt (bodyOf Tryd.f7) [1, 1, 1, 1, 0, 1, 0, 0, 1, 1, 1]) 2) (lopK (canThen [2, 5, 48, 49, 50] rec1) (blkK 2 (seqK (run (X7 n) (F7 n) (codeAt (bodyOf Tryd.f7) [1, 1, 1, 1, 1]) 0) (kTop (X7 n) Tryd.f7 dec7)))))))))))))))))) =
   cond (decide (x4 < x3))
   (cond (decide (0 ≤ x4)) (Option.bind x2[x4.toNat]? fun e11 => cond (decide (e11.Key = x0))
   (cond (decide ((x1.length + (([e11] : List (C .e70))).length) * 40 ≤ 140737488355328)) ((fun x => rec3 (s7_3 x0 x2 x3 x5 x6 x7 x8 x9 x10 x11 x12 x13 x14 x15 x16 x17 x18 x19 x20 x21 x22 x23 x24 x25 x26 x27 x28 x29 x30 x31 x)) ((x1 ++ (([e11] : List (C .e70))), IntKind.i64.wrap (x4 + 1)))) none)
   ((fun x => rec3 (s7_3 x0 x2 x3 x5 x6 x7 x8 x9 x10 x11 x12 x13 x14 x15 x16 x17 x18 x19 x20 x21 x22 x23 x24 x25 x26 x27 x28 x29 x30 x31 x)) ((x1, IntKind.i64.wrap (x4 + 1))))) none)
   (MP7_4 x23 x22 (x22.length : Int) x5 x6 x7 x8 x9 x10 x11 x12 x13 x14 x15 x16 x17 x18 x19 x1 x20 x21 x22 x23 x24 x25 x26 x27 x28 x29 x30 x31 n  rec1 rec2 ((([] : List (C .e70)), 0))) := by kernel_rfl
  simp only [m7_4] at h
  exact h
end
section
variable (x0 : ByteArray) (x2 : List (C .e70)) (x3 : Int) (x5 : List (C .e44)) (x6 : Int) (x7 : List (C .e42)) (x8 : Int) (x9 : Int) (x10 : List (C .e54)) (x11 : Int) (x12 : Int) (x13 : List (C .e42)) (x14 : Int) (x15 : C .e42) (x16 : ByteArray) (x17 : ByteArray) (x18 : List (C .e70)) (x19 : ByteArray) (x20 : List (C .e70)) (x21 : ByteArray) (x22 : ByteArray) (x23 : List (C .e70)) (x24 : ByteArray) (x25 : List (C .e42)) (x26 : ByteArray) (x27 : ByteArray) (x28 : List (C .e70)) (x29 : ByteArray) (x30 : List (C .e3)) (x31 : Bool) (x32 : List (C .e9))
noncomputable def MP7_6 (n : Nat) (rec1 : St C → Option (List (C .e44))) (rec2 : St C → Option (List (C .e44))) (x : A7_6) : Option (List (C .e44)) := iter (fun rec S => run X23 (F23 n) (codeAt (bodyOf Tryd.f23) [1, 1, 0, 1, 0, 0]) 0 S (lopK rec (blkK 0 (seqK (run X23 (F23 n) (codeAt (bodyOf Tryd.f23) [1, 1, 1]) 0) (inlK X23 Tryd.f23 (callK 92000 0 (some 92) (drawK (X7 n) (codeAt (bodyOf Tryd.f7) [1, 1, 1, 1, 0, 1, 0, 0, 1, 1, 0, 0, 1, 1, 1, 1, 0, 0, 1, 1, 0, 0, 1, 0]) 4083 [12, 13] (regK (F7 n) (seqK (run (X7 n) (F7 n) (codeAt (bodyOf Tryd.f7) [1, 1, 1, 1, 0, 1, 0, 0, 1, 1, 0, 0, 1, 1, 1, 1, 0, 0, 1, 1, 0, 0, 1, 1]) 5) (blkK 5 (seqK (run (X7 n) (F7 n) (codeAt (bodyOf Tryd.f7) [1, 1, 1, 1, 0, 1, 0, 0, 1, 1, 0, 0, 1, 1, 1, 1, 0, 0, 1, 1, 1]) 4) (lopK (canThen [2, 5, 9, 10, 48, 49, 50, 75, 76, 77] rec2) (blkK 4 (blkK 3 (seqK (run (X7 n) (F7 n) (codeAt (bodyOf Tryd.f7) [1, 1, 1, 1, 0, 1, 0, 0, 1, 1, 1]) 2) (lopK (canThen [2, 5, 48, 49, 50] rec1) (blkK 2 (seqK (run (X7 n) (F7 n) (codeAt (bodyOf Tryd.f7) [1, 1, 1, 1, 1]) 0) (kTop (X7 n) Tryd.f7 dec7))))))))))))))))))) [1, 5, 9, 10, 11, 1000100005] n (s7_6 x0 x2 x3 x5 x6 x7 x8 x9 x10 x11 x12 x13 x14 x15 x16 x17 x18 x19 x20 x21 x22 x23 x24 x25 x26 x27 x28 x29 x30 x31 x32 x)
theorem m7_6 (n : Nat) (rec1 : St C → Option (List (C .e44))) (rec2 : St C → Option (List (C .e44))) (x : A7_6) : MP7_6 x0 x2 x3 x5 x6 x7 x8 x9 x10 x11 x12 x13 x14 x15 x16 x17 x18 x19 x20 x21 x22 x23 x24 x25 x26 x27 x28 x29 x30 x31 x32 n rec1 rec2 x = lpN (r7_6 x0 x2 x3 x5 x12 x20 x26 x27 x29 n  (fun x => rec1 (s7_1 x7 x8 x13 x)) (fun x => rec2 (s7_2 x6 x7 x8 x9 x10 x11 x25 x26 x27 x28 x))) n x := by
  refine iter_eq (s7_6 x0 x2 x3 x5 x6 x7 x8 x9 x10 x11 x12 x13 x14 x15 x16 x17 x18 x19 x20 x21 x22 x23 x24 x25 x26 x27 x28 x29 x30 x31 x32) (r7_6 x0 x2 x3 x5 x12 x20 x26 x27 x29 n  (fun x => rec1 (s7_1 x7 x8 x13 x)) (fun x => rec2 (s7_2 x6 x7 x8 x9 x10 x11 x25 x26 x27 x28 x))) (fun rec6 x => ?_) n x
  obtain ⟨x1, x4⟩ := x
  kernel_rfl
end
section
variable (x0 : ByteArray) (x2 : List (C .e70)) (x3 : Int) (x5 : List (C .e44)) (x6 : Int) (x7 : List (C .e42)) (x8 : Int) (x9 : Int) (x10 : List (C .e54)) (x11 : Int) (x12 : Int) (x13 : List (C .e42)) (x14 : Int) (x15 : C .e42) (x16 : ByteArray) (x17 : ByteArray) (x18 : List (C .e70)) (x19 : ByteArray) (x20 : ByteArray) (x21 : ByteArray) (x22 : List (C .e70)) (x23 : List (C .e42)) (x24 : ByteArray) (x25 : ByteArray) (x26 : List (C .e70)) (x27 : ByteArray) (x28 : List (C .e3)) (x29 : Bool) (x30 : List (C .e9))
noncomputable def MP7_5 (n : Nat) (rec1 : St C → Option (List (C .e44))) (rec2 : St C → Option (List (C .e44))) (x : A7_5) : Option (List (C .e44)) := iter (fun rec S => run X23 (F23 n) (codeAt (bodyOf Tryd.f23) [1, 1, 0, 1, 0, 0]) 0 S (lopK rec (blkK 0 (seqK (run X23 (F23 n) (codeAt (bodyOf Tryd.f23) [1, 1, 1]) 0) (inlK X23 Tryd.f23 (callK 88000 0 (some 88) (drawK (X7 n) (codeAt (bodyOf Tryd.f7) [1, 1, 1, 1, 0, 1, 0, 0, 1, 1, 0, 0, 1, 1, 1, 1, 0, 0, 1, 1, 0, 0, 1, 0]) 4085 [10, 11, 12, 13] (regK (F7 n) (seqK (run (X7 n) (F7 n) (codeAt (bodyOf Tryd.f7) [1, 1, 1, 1, 0, 1, 0, 0, 1, 1, 0, 0, 1, 1, 1, 1, 0, 0, 1, 1, 0, 0, 1, 1]) 5) (blkK 5 (seqK (run (X7 n) (F7 n) (codeAt (bodyOf Tryd.f7) [1, 1, 1, 1, 0, 1, 0, 0, 1, 1, 0, 0, 1, 1, 1, 1, 0, 0, 1, 1, 1]) 4) (lopK (canThen [2, 5, 9, 10, 48, 49, 50, 75, 76, 77] rec2) (blkK 4 (blkK 3 (seqK (run (X7 n) (F7 n) (codeAt (bodyOf Tryd.f7) [1, 1, 1, 1, 0, 1, 0, 0, 1, 1, 1]) 2) (lopK (canThen [2, 5, 48, 49, 50] rec1) (blkK 2 (seqK (run (X7 n) (F7 n) (codeAt (bodyOf Tryd.f7) [1, 1, 1, 1, 1]) 0) (kTop (X7 n) Tryd.f7 dec7))))))))))))))))))) [1, 5, 9, 10, 11, 1000100005] n (s7_5 x0 x2 x3 x5 x6 x7 x8 x9 x10 x11 x12 x13 x14 x15 x16 x17 x18 x19 x20 x21 x22 x23 x24 x25 x26 x27 x28 x29 x30 x)
theorem m7_5 (n : Nat) (rec1 : St C → Option (List (C .e44))) (rec2 : St C → Option (List (C .e44))) (x : A7_5) : MP7_5 x0 x2 x3 x5 x6 x7 x8 x9 x10 x11 x12 x13 x14 x15 x16 x17 x18 x19 x20 x21 x22 x23 x24 x25 x26 x27 x28 x29 x30 n rec1 rec2 x = lpN (r7_5 x0 x2 x3 x5 x12 x22 x24 x25 x27 n  (fun x => rec1 (s7_1 x7 x8 x13 x)) (fun x => rec2 (s7_2 x6 x7 x8 x9 x10 x11 x23 x24 x25 x26 x))) n x := by
  refine iter_eq (s7_5 x0 x2 x3 x5 x6 x7 x8 x9 x10 x11 x12 x13 x14 x15 x16 x17 x18 x19 x20 x21 x22 x23 x24 x25 x26 x27 x28 x29 x30) (r7_5 x0 x2 x3 x5 x12 x22 x24 x25 x27 n  (fun x => rec1 (s7_1 x7 x8 x13 x)) (fun x => rec2 (s7_2 x6 x7 x8 x9 x10 x11 x23 x24 x25 x26 x))) (fun rec5 x => ?_) n x
  obtain ⟨x1, x4⟩ := x
  have h : run X23 (F23 n) (codeAt (bodyOf Tryd.f23) [1, 1, 0, 1, 0, 0]) 0 (s7_5 x0 x2 x3 x5 x6 x7 x8 x9 x10 x11 x12 x13 x14 x15 x16 x17 x18 x19 x20 x21 x22 x23 x24 x25 x26 x27 x28 x29 x30 (x1, x4)) (lopK (canThen [1, 5, 9, 10, 11, 1000100005] rec5) (blkK 0 (seqK (run X23 (F23 n) (codeAt (bodyOf Tryd.f23) [1, 1, 1]) 0) (inlK X23 Tryd.f23 (callK 88000 0 (some 88) (drawK (X7 n) (codeAt (bodyOf Tryd.f7) [1, 1, 1, 1, 0, 1, 0, 0, 1, 1, 0, 0, 1, 1, 1, 1, 0, 0, 1, 1, 0, 0, 1, 0]) 4085 [10, 11, 12, 13] (regK (F7 n) (seqK (run (X7 n) (F7 n) (codeAt (bodyOf Tryd.f7) [1, 1, 1, 1, 0, 1, 0, 0, 1, 1, 0, 0, 1, 1, 1, 1, 0, 0, 1, 1, 0, 0, 1, 1]) 5) (blkK 5 (seqK (run (X7 n) (F7 n) (codeAt (bodyOf Tryd.f7) [1, 1, 1, 1, 0, 1, 0, 0, 1, 1, 0, 0, 1, 1, 1, 1, 0, 0, 1, 1, 1]) 4) (lopK (canThen [2, 5, 9, 10, 48, 49, 50, 75, 76, 77] rec2) (blkK 4 (blkK 3 (seqK (run (X7 n) (F7 n) (codeAt (bodyOf Tryd.f7) [1, 1, 1, 1, 0, 1, 0, 0, 1, 1, 1]) 2) (lopK (canThen [2, 5, 48, 49, 50] rec1) (blkK 2 (seqK (run (X7 n) (F7 n) (codeAt (bodyOf Tryd.f7) [1, 1, 1, 1, 1]) 0) (kTop (X7 n) Tryd.f7 dec7)))))))))))))))))) =
   cond (decide (x4 < x3))
   (cond (decide (0 ≤ x4)) (Option.bind x2[x4.toNat]? fun e15 => cond (decide (e15.Key = x0))
   (cond (decide ((x1.length + (([e15] : List (C .e70))).length) * 40 ≤ 140737488355328)) ((fun x => rec5 (s7_5 x0 x2 x3 x5 x6 x7 x8 x9 x10 x11 x12 x13 x14 x15 x16 x17 x18 x19 x20 x21 x22 x23 x24 x25 x26 x27 x28 x29 x30 x)) ((x1 ++ (([e15] : List (C .e70))), IntKind.i64.wrap (x4 + 1)))) none)
   ((fun x => rec5 (s7_5 x0 x2 x3 x5 x6 x7 x8 x9 x10 x11 x12 x13 x14 x15 x16 x17 x18 x19 x20 x21 x22 x23 x24 x25 x26 x27 x28 x29 x30 x)) ((x1, IntKind.i64.wrap (x4 + 1))))) none)
   (MP7_6 x27 x22 (x22.length : Int) x5 x6 x7 x8 x9 x10 x11 x12 x13 x14 x15 x16 x17 x18 x19 x1 x20 x21 x22 x27 x23 x24 x25 x26 x27 x28 x29 x30 n  rec1 rec2 ((([] : List (C .e70)), 0))) := by kernel_rfl
  simp only [m7_6] at h
  exact h
end
section
variable (x0 : ByteArray) (x2 : List (C .e70)) (x3 : Int) (x5 : List (C .e44)) (x6 : Int) (x7 : List (C .e42)) (x8 : Int) (x9 : Int) (x10 : List (C .e54)) (x11 : Int) (x12 : Int) (x13 : List (C .e42)) (x14 : Int) (x15 : C .e42) (x16 : ByteArray) (x17 : ByteArray) (x18 : List (C .e70)) (x19 : ByteArray) (x20 : List (C .e70)) (x21 : ByteArray) (x22 : ByteArray) (x23 : List (C .e70)) (x24 : ByteArray) (x25 : List (C .e42)) (x26 : ByteArray) (x27 : ByteArray) (x28 : List (C .e70)) (x29 : ByteArray) (x30 : List (C .e3)) (x31 : Bool) (x32 : List (C .e9))
noncomputable def MP7_8 (n : Nat) (rec1 : St C → Option (List (C .e44))) (rec2 : St C → Option (List (C .e44))) (x : A7_8) : Option (List (C .e44)) := iter (fun rec S => run X23 (F23 n) (codeAt (bodyOf Tryd.f23) [1, 1, 0, 1, 0, 0]) 0 S (lopK rec (blkK 0 (seqK (run X23 (F23 n) (codeAt (bodyOf Tryd.f23) [1, 1, 1]) 0) (inlK X23 Tryd.f23 (callK 92000 0 (some 92) (drawK (X7 n) (codeAt (bodyOf Tryd.f7) [1, 1, 1, 1, 0, 1, 0, 0, 1, 1, 0, 0, 1, 1, 1, 1, 0, 0, 1, 1, 0, 0, 1, 0]) 4082 [12, 13] (regK (F7 n) (seqK (run (X7 n) (F7 n) (codeAt (bodyOf Tryd.f7) [1, 1, 1, 1, 0, 1, 0, 0, 1, 1, 0, 0, 1, 1, 1, 1, 0, 0, 1, 1, 0, 0, 1, 1]) 5) (blkK 5 (seqK (run (X7 n) (F7 n) (codeAt (bodyOf Tryd.f7) [1, 1, 1, 1, 0, 1, 0, 0, 1, 1, 0, 0, 1, 1, 1, 1, 0, 0, 1, 1, 1]) 4) (lopK (canThen [2, 5, 9, 10, 48, 49, 50, 75, 76, 77] rec2) (blkK 4 (blkK 3 (seqK (run (X7 n) (F7 n) (codeAt (bodyOf Tryd.f7) [1, 1, 1, 1, 0, 1, 0, 0, 1, 1, 1]) 2) (lopK (canThen [2, 5, 48, 49, 50] rec1) (blkK 2 (seqK (run (X7 n) (F7 n) (codeAt (bodyOf Tryd.f7) [1, 1, 1, 1, 1]) 0) (kTop (X7 n) Tryd.f7 dec7))))))))))))))))))) [1, 5, 9, 10, 11, 1000100005] n (s7_8 x0 x2 x3 x5 x6 x7 x8 x9 x10 x11 x12 x13 x14 x15 x16 x17 x18 x19 x20 x21 x22 x23 x24 x25 x26 x27 x28 x29 x30 x31 x32 x)
theorem m7_8 (n : Nat) (rec1 : St C → Option (List (C .e44))) (rec2 : St C → Option (List (C .e44))) (x : A7_8) : MP7_8 x0 x2 x3 x5 x6 x7 x8 x9 x10 x11 x12 x13 x14 x15 x16 x17 x18 x19 x20 x21 x22 x23 x24 x25 x26 x27 x28 x29 x30 x31 x32 n rec1 rec2 x = lpN (r7_8 x0 x2 x3 x5 x12 x20 x26 x27 x29 n  (fun x => rec1 (s7_1 x7 x8 x13 x)) (fun x => rec2 (s7_2 x6 x7 x8 x9 x10 x11 x25 x26 x27 x28 x))) n x := by
  refine iter_eq (s7_8 x0 x2 x3 x5 x6 x7 x8 x9 x10 x11 x12 x13 x14 x15 x16 x17 x18 x19 x20 x21 x22 x23 x24 x25 x26 x27 x28 x29 x30 x31 x32) (r7_8 x0 x2 x3 x5 x12 x20 x26 x27 x29 n  (fun x => rec1 (s7_1 x7 x8 x13 x)) (fun x => rec2 (s7_2 x6 x7 x8 x9 x10 x11 x25 x26 x27 x28 x))) (fun rec8 x => ?_) n x
  obtain ⟨x1, x4⟩ := x
  kernel_rfl
end
section
variable (x0 : ByteArray) (x2 : List (C .e70)) (x3 : Int) (x5 : List (C .e44)) (x6 : Int) (x7 : List (C .e42)) (x8 : Int) (x9 : Int) (x10 : List (C .e54)) (x11 : Int) (x12 : Int) (x13 : List (C .e42)) (x14 : Int) (x15 : C .e42) (x16 : ByteArray) (x17 : ByteArray) (x18 : List (C .e70)) (x19 : ByteArray) (x20 : ByteArray) (x21 : ByteArray) (x22 : List (C .e70)) (x23 : List (C .e42)) (x24 : ByteArray) (x25 : ByteArray) (x26 : List (C .e70)) (x27 : ByteArray) (x28 : List (C .e3)) (x29 : Bool) (x30 : List (C .e9))
noncomputable def MP7_7 (n : Nat) (rec1 : St C → Option (List (C .e44))) (rec2 : St C → Option (List (C .e44))) (x : A7_7) : Option (List (C .e44)) := iter (fun rec S => run X23 (F23 n) (codeAt (bodyOf Tryd.f23) [1, 1, 0, 1, 0, 0]) 0 S (lopK rec (blkK 0 (seqK (run X23 (F23 n) (codeAt (bodyOf Tryd.f23) [1, 1, 1]) 0) (inlK X23 Tryd.f23 (callK 88000 0 (some 88) (drawK (X7 n) (codeAt (bodyOf Tryd.f7) [1, 1, 1, 1, 0, 1, 0, 0, 1, 1, 0, 0, 1, 1, 1, 1, 0, 0, 1, 1, 0, 0, 1, 0]) 4085 [9, 10, 11, 12, 13] (regK (F7 n) (seqK (run (X7 n) (F7 n) (codeAt (bodyOf Tryd.f7) [1, 1, 1, 1, 0, 1, 0, 0, 1, 1, 0, 0, 1, 1, 1, 1, 0, 0, 1, 1, 0, 0, 1, 1]) 5) (blkK 5 (seqK (run (X7 n) (F7 n) (codeAt (bodyOf Tryd.f7) [1, 1, 1, 1, 0, 1, 0, 0, 1, 1, 0, 0, 1, 1, 1, 1, 0, 0, 1, 1, 1]) 4) (lopK (canThen [2, 5, 9, 10, 48, 49, 50, 75, 76, 77] rec2) (blkK 4 (blkK 3 (seqK (run (X7 n) (F7 n) (codeAt (bodyOf Tryd.f7) [1, 1, 1, 1, 0, 1, 0, 0, 1, 1, 1]) 2) (lopK (canThen [2, 5, 48, 49, 50] rec1) (blkK 2 (seqK (run (X7 n) (F7 n) (codeAt (bodyOf Tryd.f7) [1, 1, 1, 1, 1]) 0) (kTop (X7 n) Tryd.f7 dec7))))))))))))))))))) [1, 5, 9, 10, 11, 1000100005] n (s7_7 x0 x2 x3 x5 x6 x7 x8 x9 x10 x11 x12 x13 x14 x15 x16 x17 x18 x19 x20 x21 x22 x23 x24 x25 x26 x27 x28 x29 x30 x)
theorem m7_7 (n : Nat) (rec1 : St C → Option (List (C .e44))) (rec2 : St C → Option (List (C .e44))) (x : A7_7) : MP7_7 x0 x2 x3 x5 x6 x7 x8 x9 x10 x11 x12 x13 x14 x15 x16 x17 x18 x19 x20 x21 x22 x23 x24 x25 x26 x27 x28 x29 x30 n rec1 rec2 x = lpN (r7_7 x0 x2 x3 x5 x12 x22 x24 x25 x27 n  (fun x => rec1 (s7_1 x7 x8 x13 x)) (fun x => rec2 (s7_2 x6 x7 x8 x9 x10 x11 x23 x24 x25 x26 x))) n x := by
  refine iter_eq (s7_7 x0 x2 x3 x5 x6 x7 x8 x9 x10 x11 x12 x13 x14 x15 x16 x17 x18 x19 x20 x21 x22 x23 x24 x25 x26 x27 x28 x29 x30) (r7_7 x0 x2 x3 x5 x12 x22 x24 x25 x27 n  (fun x => rec1 (s7_1 x7 x8 x13 x)) (fun x => rec2 (s7_2 x6 x7 x8 x9 x10 x11 x23 x24 x25 x26 x))) (fun rec7 x => ?_) n x
  obtain ⟨x1, x4⟩ := x
  have h : run X23 (F23 n) (codeAt (bodyOf Tryd.f23) [1, 1, 0, 1, 0, 0]) 0 (s7_7 x0 x2 x3 x5 x6 x7 x8 x9 x10 x11 x12 x13 x14 x15 x16 x17 x18 x19 x20 x21 x22 x23 x24 x25 x26 x27 x28 x29 x30 (x1, x4)) (lopK (canThen [1, 5, 9, 10, 11, 1000100005] rec7) (blkK 0 (seqK (run X23 (F23 n) (codeAt (bodyOf Tryd.f23) [1, 1, 1]) 0) (inlK X23 Tryd.f23 (callK 88000 0 (some 88) (drawK (X7 n) (codeAt (bodyOf Tryd.f7) [1, 1, 1, 1, 0, 1, 0, 0, 1, 1, 0, 0, 1, 1, 1, 1, 0, 0, 1, 1, 0, 0, 1, 0]) 4085 [9, 10, 11, 12, 13] (regK (F7 n) (seqK (run (X7 n) (F7 n) (codeAt (bodyOf Tryd.f7) [1, 1, 1, 1, 0, 1, 0, 0, 1, 1, 0, 0, 1, 1, 1, 1, 0, 0, 1, 1, 0, 0, 1, 1]) 5) (blkK 5 (seqK (run (X7 n) (F7 n) (codeAt (bodyOf Tryd.f7) [1, 1, 1, 1, 0, 1, 0, 0, 1, 1, 0, 0, 1, 1, 1, 1, 0, 0, 1, 1, 1]) 4) (lopK (canThen [2, 5, 9, 10, 48, 49, 50, 75, 76, 77] rec2) (blkK 4 (blkK 3 (seqK (run (X7 n) (F7 n) (codeAt (bodyOf Tryd.f7) [1, 1, 1, 1, 0, 1, 0, 0, 1, 1, 1]) 2) (lopK (canThen [2, 5, 48, 49, 50] rec1) (blkK 2 (seqK (run (X7 n) (F7 n) (codeAt (bodyOf Tryd.f7) [1, 1, 1, 1, 1]) 0) (kTop (X7 n) Tryd.f7 dec7)))))))))))))))))) =
   cond (decide (x4 < x3))
   (cond (decide (0 ≤ x4)) (Option.bind x2[x4.toNat]? fun e19 => cond (decide (e19.Key = x0))
   (cond (decide ((x1.length + (([e19] : List (C .e70))).length) * 40 ≤ 140737488355328)) ((fun x => rec7 (s7_7 x0 x2 x3 x5 x6 x7 x8 x9 x10 x11 x12 x13 x14 x15 x16 x17 x18 x19 x20 x21 x22 x23 x24 x25 x26 x27 x28 x29 x30 x)) ((x1 ++ (([e19] : List (C .e70))), IntKind.i64.wrap (x4 + 1)))) none)
   ((fun x => rec7 (s7_7 x0 x2 x3 x5 x6 x7 x8 x9 x10 x11 x12 x13 x14 x15 x16 x17 x18 x19 x20 x21 x22 x23 x24 x25 x26 x27 x28 x29 x30 x)) ((x1, IntKind.i64.wrap (x4 + 1))))) none)
   (MP7_8 x27 x22 (x22.length : Int) x5 x6 x7 x8 x9 x10 x11 x12 x13 x14 x15 x16 x17 x18 x19 x1 x20 x21 x22 x27 x23 x24 x25 x26 x27 x28 x29 x30 n  rec1 rec2 ((([] : List (C .e70)), 0))) := by kernel_rfl
  simp only [m7_8] at h
  exact h
end
section
variable (x0 : ByteArray) (x2 : List (C .e70)) (x3 : Int) (x5 : List (C .e44)) (x6 : Int) (x7 : List (C .e42)) (x8 : Int) (x9 : Int) (x10 : List (C .e54)) (x11 : Int) (x12 : Int) (x13 : List (C .e42)) (x14 : Int) (x15 : C .e42) (x16 : ByteArray) (x17 : ByteArray) (x18 : List (C .e70)) (x19 : ByteArray) (x20 : ByteArray) (x21 : List (C .e42)) (x22 : ByteArray) (x23 : ByteArray) (x24 : List (C .e70)) (x25 : ByteArray) (x26 : List (C .e3)) (x27 : Bool) (x28 : List (C .e9))
noncomputable def MP7_9 (n : Nat) (rec1 : St C → Option (List (C .e44))) (rec2 : St C → Option (List (C .e44))) (x : A7_9) : Option (List (C .e44)) := iter (fun rec S => run X23 (F23 n) (codeAt (bodyOf Tryd.f23) [1, 1, 0, 1, 0, 0]) 0 S (lopK rec (blkK 0 (seqK (run X23 (F23 n) (codeAt (bodyOf Tryd.f23) [1, 1, 1]) 0) (inlK X23 Tryd.f23 (callK 88000 0 (some 88) (drawK (X7 n) (codeAt (bodyOf Tryd.f7) [1, 1, 1, 1, 0, 1, 0, 0, 1, 1, 0, 0, 1, 1, 1, 1, 0, 0, 1, 1, 0, 0, 1, 0]) 4085 [8, 11, 12, 13] (regK (F7 n) (seqK (run (X7 n) (F7 n) (codeAt (bodyOf Tryd.f7) [1, 1, 1, 1, 0, 1, 0, 0, 1, 1, 0, 0, 1, 1, 1, 1, 0, 0, 1, 1, 0, 0, 1, 1]) 5) (blkK 5 (seqK (run (X7 n) (F7 n) (codeAt (bodyOf Tryd.f7) [1, 1, 1, 1, 0, 1, 0, 0, 1, 1, 0, 0, 1, 1, 1, 1, 0, 0, 1, 1, 1]) 4) (lopK (canThen [2, 5, 9, 10, 48, 49, 50, 75, 76, 77] rec2) (blkK 4 (blkK 3 (seqK (run (X7 n) (F7 n) (codeAt (bodyOf Tryd.f7) [1, 1, 1, 1, 0, 1, 0, 0, 1, 1, 1]) 2) (lopK (canThen [2, 5, 48, 49, 50] rec1) (blkK 2 (seqK (run (X7 n) (F7 n) (codeAt (bodyOf Tryd.f7) [1, 1, 1, 1, 1]) 0) (kTop (X7 n) Tryd.f7 dec7))))))))))))))))))) [1, 5, 9, 10, 11, 1000100005] n (s7_9 x0 x2 x3 x5 x6 x7 x8 x9 x10 x11 x12 x13 x14 x15 x16 x17 x18 x19 x20 x21 x22 x23 x24 x25 x26 x27 x28 x)
theorem m7_9 (n : Nat) (rec1 : St C → Option (List (C .e44))) (rec2 : St C → Option (List (C .e44))) (x : A7_9) : MP7_9 x0 x2 x3 x5 x6 x7 x8 x9 x10 x11 x12 x13 x14 x15 x16 x17 x18 x19 x20 x21 x22 x23 x24 x25 x26 x27 x28 n rec1 rec2 x = lpN (r7_9 x0 x2 x3 x5 x12 x20 x22 x23 x24 x25 n  (fun x => rec1 (s7_1 x7 x8 x13 x)) (fun x => rec2 (s7_2 x6 x7 x8 x9 x10 x11 x21 x22 x23 x24 x))) n x := by
  refine iter_eq (s7_9 x0 x2 x3 x5 x6 x7 x8 x9 x10 x11 x12 x13 x14 x15 x16 x17 x18 x19 x20 x21 x22 x23 x24 x25 x26 x27 x28) (r7_9 x0 x2 x3 x5 x12 x20 x22 x23 x24 x25 n  (fun x => rec1 (s7_1 x7 x8 x13 x)) (fun x => rec2 (s7_2 x6 x7 x8 x9 x10 x11 x21 x22 x23 x24 x))) (fun rec9 x => ?_) n x
  obtain ⟨x1, x4⟩ := x
  have h : run X23 (F23 n) (codeAt (bodyOf Tryd.f23) [1, 1, 0, 1, 0, 0]) 0 (s7_9 x0 x2 x3 x5 x6 x7 x8 x9 x10 x11 x12 x13 x14 x15 x16 x17 x18 x19 x20 x21 x22 x23 x24 x25 x26 x27 x28 (x1, x4)) (lopK (canThen [1, 5, 9, 10, 11, 1000100005] rec9) (blkK 0 (seqK (run X23 (F23 n) (codeAt (bodyOf Tryd.f23) [1, 1, 1]) 0) (inlK X23 Tryd.f23 (callK 88000 0 (some 88) (drawK (X7 n) (codeAt (bodyOf Tryd.f7) [1, 1, 1, 1, 0, 1, 0, 0, 1, 1, 0, 0, 1, 1, 1, 1, 0, 0, 1, 1, 0, 0, 1, 0]) 4085 [8, 11, 12, 13] (regK (F7 n) (seqK (run (X7 n) (F7 n) (codeAt (bodyOf Tryd.f7) [1, 1, 1, 1, 0, 1, 0, 0, 1, 1, 0, 0, 1, 1, 1, 1, 0, 0, 1, 1, 0, 0, 1, 1]) 5) (blkK 5 (seqK (run (X7 n) (F7 n) (codeAt (bodyOf Tryd.f7) [1, 1, 1, 1, 0, 1, 0, 0, 1, 1, 0, 0, 1, 1, 1, 1, 0, 0, 1, 1, 1]) 4) (lopK (canThen [2, 5, 9, 10, 48, 49, 50, 75, 76, 77] rec2) (blkK 4 (blkK 3 (seqK (run (X7 n) (F7 n) (codeAt (bodyOf Tryd.f7) [1, 1, 1, 1, 0, 1, 0, 0, 1, 1, 1]) 2) (lopK (canThen [2, 5, 48, 49, 50] rec1) (blkK 2 (seqK (run (X7 n) (F7 n) (codeAt (bodyOf Tryd.f7) [1, 1, 1, 1, 1]) 0) (kTop (X7 n) Tryd.f7 dec7)))))))))))))))))) =
   cond (decide (x4 < x3))
   (cond (decide (0 ≤ x4)) (Option.bind x2[x4.toNat]? fun e23 => cond (decide (e23.Key = x0))
   (cond (decide ((x1.length + (([e23] : List (C .e70))).length) * 40 ≤ 140737488355328)) ((fun x => rec9 (s7_9 x0 x2 x3 x5 x6 x7 x8 x9 x10 x11 x12 x13 x14 x15 x16 x17 x18 x19 x20 x21 x22 x23 x24 x25 x26 x27 x28 x)) ((x1 ++ (([e23] : List (C .e70))), IntKind.i64.wrap (x4 + 1)))) none)
   ((fun x => rec9 (s7_9 x0 x2 x3 x5 x6 x7 x8 x9 x10 x11 x12 x13 x14 x15 x16 x17 x18 x19 x20 x21 x22 x23 x24 x25 x26 x27 x28 x)) ((x1, IntKind.i64.wrap (x4 + 1))))) none)
   (MP7_6 x20 x24 (x24.length : Int) x5 x6 x7 x8 x9 x10 x11 x12 x13 x14 x15 x16 x17 x18 x19 x1 x22 x23 x24 x20 x21 x22 x23 x24 x25 x26 x27 x28 n  rec1 rec2 ((([] : List (C .e70)), 0))) := by kernel_rfl
  simp only [m7_6] at h
  exact h
end
section
variable (x0 : ByteArray) (x2 : List (C .e70)) (x3 : Int) (x5 : List (C .e44)) (x6 : Int) (x7 : List (C .e42)) (x8 : Int) (x9 : Int) (x10 : List (C .e54)) (x11 : Int) (x12 : Int) (x13 : List (C .e42)) (x14 : Int) (x15 : C .e42) (x16 : ByteArray) (x17 : ByteArray) (x18 : List (C .e70)) (x19 : ByteArray) (x20 : List (C .e42)) (x21 : ByteArray) (x22 : ByteArray) (x23 : List (C .e70)) (x24 : ByteArray) (x25 : List (C .e3)) (x26 : Bool) (x27 : List (C .e9))
noncomputable def MP7_10 (n : Nat) (rec1 : St C → Option (List (C .e44))) (rec2 : St C → Option (List (C .e44))) (x : A7_10) : Option (List (C .e44)) := iter (fun rec S => run X23 (F23 n) (codeAt (bodyOf Tryd.f23) [1, 1, 0, 1, 0, 0]) 0 S (lopK rec (blkK 0 (seqK (run X23 (F23 n) (codeAt (bodyOf Tryd.f23) [1, 1, 1]) 0) (inlK X23 Tryd.f23 (callK 88000 0 (some 88) (drawK (X7 n) (codeAt (bodyOf Tryd.f7) [1, 1, 1, 1, 0, 1, 0, 0, 1, 1, 0, 0, 1, 1, 1, 1, 0, 0, 1, 1, 0, 0, 1, 0]) 4085 [8, 10, 11, 12, 13] (regK (F7 n) (seqK (run (X7 n) (F7 n) (codeAt (bodyOf Tryd.f7) [1, 1, 1, 1, 0, 1, 0, 0, 1, 1, 0, 0, 1, 1, 1, 1, 0, 0, 1, 1, 0, 0, 1, 1]) 5) (blkK 5 (seqK (run (X7 n) (F7 n) (codeAt (bodyOf Tryd.f7) [1, 1, 1, 1, 0, 1, 0, 0, 1, 1, 0, 0, 1, 1, 1, 1, 0, 0, 1, 1, 1]) 4) (lopK (canThen [2, 5, 9, 10, 48, 49, 50, 75, 76, 77] rec2) (blkK 4 (blkK 3 (seqK (run (X7 n) (F7 n) (codeAt (bodyOf Tryd.f7) [1, 1, 1, 1, 0, 1, 0, 0, 1, 1, 1]) 2) (lopK (canThen [2, 5, 48, 49, 50] rec1) (blkK 2 (seqK (run (X7 n) (F7 n) (codeAt (bodyOf Tryd.f7) [1, 1, 1, 1, 1]) 0) (kTop (X7 n) Tryd.f7 dec7))))))))))))))))))) [1, 5, 9, 10, 11, 1000100005] n (s7_10 x0 x2 x3 x5 x6 x7 x8 x9 x10 x11 x12 x13 x14 x15 x16 x17 x18 x19 x20 x21 x22 x23 x24 x25 x26 x27 x)
theorem m7_10 (n : Nat) (rec1 : St C → Option (List (C .e44))) (rec2 : St C → Option (List (C .e44))) (x : A7_10) : MP7_10 x0 x2 x3 x5 x6 x7 x8 x9 x10 x11 x12 x13 x14 x15 x16 x17 x18 x19 x20 x21 x22 x23 x24 x25 x26 x27 n rec1 rec2 x = lpN (r7_10 x0 x2 x3 x5 x12 x21 x22 x23 x24 n  (fun x => rec1 (s7_1 x7 x8 x13 x)) (fun x => rec2 (s7_2 x6 x7 x8 x9 x10 x11 x20 x21 x22 x23 x))) n x := by
  refine iter_eq (s7_10 x0 x2 x3 x5 x6 x7 x8 x9 x10 x11 x12 x13 x14 x15 x16 x17 x18 x19 x20 x21 x22 x23 x24 x25 x26 x27) (r7_10 x0 x2 x3 x5 x12 x21 x22 x23 x24 n  (fun x => rec1 (s7_1 x7 x8 x13 x)) (fun x => rec2 (s7_2 x6 x7 x8 x9 x10 x11 x20 x21 x22 x23 x))) (fun rec10 x => ?_) n x
  obtain ⟨x1, x4⟩ := x
  have h : run X23 (F23 n) (codeAt (bodyOf Tryd.f23) [1, 1, 0, 1, 0, 0]) 0 (s7_10 x0 x2 x3 x5 x6 x7 x8 x9 x10 x11 x12 x13 x14 x15 x16 x17 x18 x19 x20 x21 x22 x23 x24 x25 x26 x27 (x1, x4)) (lopK (canThen [1, 5, 9, 10, 11, 1000100005] rec10) (blkK 0 (seqK (run X23 (F23 n) (codeAt (bodyOf Tryd.f23) [1, 1, 1]) 0) (inlK X23 Tryd.f23 (callK 88000 0 (some 88) (drawK (X7 n) (codeAt (bodyOf Tryd.f7) [1, 1, 1, 1, 0, 1, 0, 0, 1, 1, 0, 0, 1, 1, 1, 1, 0, 0, 1, 1, 0, 0, 1, 0]) 4085 [8, 10, 11, 12, 13] (regK (F7 n) (seqK (run (X7 n) (F7 n) (codeAt (bodyOf Tryd.f7) [1, 1, 1, 1, 0, 1, 0, 0, 1, 1, 0, 0, 1, 1, 1, 1, 0, 0, 1, 1, 0, 0, 1, 1]) 5) (blkK 5 (seqK (run (X7 n) (F7 n) (codeAt (bodyOf Tryd.f7) [1, 1, 1, 1, 0, 1, 0, 0, 1, 1, 0, 0, 1, 1, 1, 1, 0, 0, 1, 1, 1]) 4) (lopK (canThen [2, 5, 9, 10, 48, 49, 50, 75, 76, 77] rec2) (blkK 4 (blkK 3 (seqK (run (X7 n) (F7 n) (codeAt (bodyOf Tryd.f7) [1, 1, 1, 1, 0, 1, 0, 0, 1, 1, 1]) 2) (lopK (canThen [2, 5, 48, 49, 50] rec1) (blkK 2 (seqK (run (X7 n) (F7 n) (codeAt (bodyOf Tryd.f7) [1, 1, 1, 1, 1]) 0) (kTop (X7 n) Tryd.f7 dec7)))))))))))))))))) =
   cond (decide (x4 < x3))
   (cond (decide (0 ≤ x4)) (Option.bind x2[x4.toNat]? fun e24 => cond (decide (e24.Key = x0))
   (cond (decide ((x1.length + (([e24] : List (C .e70))).length) * 40 ≤ 140737488355328)) ((fun x => rec10 (s7_10 x0 x2 x3 x5 x6 x7 x8 x9 x10 x11 x12 x13 x14 x15 x16 x17 x18 x19 x20 x21 x22 x23 x24 x25 x26 x27 x)) ((x1 ++ (([e24] : List (C .e70))), IntKind.i64.wrap (x4 + 1)))) none)
   ((fun x => rec10 (s7_10 x0 x2 x3 x5 x6 x7 x8 x9 x10 x11 x12 x13 x14 x15 x16 x17 x18 x19 x20 x21 x22 x23 x24 x25 x26 x27 x)) ((x1, IntKind.i64.wrap (x4 + 1))))) none)
   (MP7_8 x24 x23 (x23.length : Int) x5 x6 x7 x8 x9 x10 x11 x12 x13 x14 x15 x16 x17 x18 x19 x1 x21 x22 x23 x24 x20 x21 x22 x23 x24 x25 x26 x27 n  rec1 rec2 ((([] : List (C .e70)), 0))) := by kernel_rfl
  simp only [m7_8] at h
  exact h
end
section
variable (x0 : ByteArray) (x2 : List (C .e70)) (x3 : Int) (x5 : List (C .e44)) (x6 : Int) (x7 : List (C .e42)) (x8 : Int) (x9 : Int) (x10 : List (C .e54)) (x11 : Int) (x12 : Int) (x13 : List (C .e42)) (x14 : Int) (x15 : C .e42) (x16 : ByteArray) (x17 : ByteArray) (x18 : List (C .e70)) (x19 : ByteArray) (x20 : List (C .e70)) (x21 : ByteArray) (x22 : ByteArray) (x23 : List (C .e70)) (x24 : ByteArray) (x25 : List (C .e42)) (x26 : ByteArray) (x27 : ByteArray) (x28 : List (C .e70)) (x29 : ByteArray) (x30 : List (C .e3)) (x31 : Bool) (x32 : List (C .e9))
noncomputable def MP7_12 (n : Nat) (rec1 : St C → Option (List (C .e44))) (rec2 : St C → Option (List (C .e44))) (x : A7_12) : Option (List (C .e44)) := iter (fun rec S => run X23 (F23 n) (codeAt (bodyOf Tryd.f23) [1, 1, 0, 1, 0, 0]) 0 S (lopK rec (blkK 0 (seqK (run X23 (F23 n) (codeAt (bodyOf Tryd.f23) [1, 1, 1]) 0) (inlK X23 Tryd.f23 (callK 92000 0 (some 92) (drawK (X7 n) (codeAt (bodyOf Tryd.f7) [1, 1, 1, 1, 0, 1, 0, 0, 1, 1, 0, 0, 1, 1, 1, 1, 0, 0, 1, 1, 0, 0, 1, 0]) 4081 [12, 13] (regK (F7 n) (seqK (run (X7 n) (F7 n) (codeAt (bodyOf Tryd.f7) [1, 1, 1, 1, 0, 1, 0, 0, 1, 1, 0, 0, 1, 1, 1, 1, 0, 0, 1, 1, 0, 0, 1, 1]) 5) (blkK 5 (seqK (run (X7 n) (F7 n) (codeAt (bodyOf Tryd.f7) [1, 1, 1, 1, 0, 1, 0, 0, 1, 1, 0, 0, 1, 1, 1, 1, 0, 0, 1, 1, 1]) 4) (lopK (canThen [2, 5, 9, 10, 48, 49, 50, 75, 76, 77] rec2) (blkK 4 (blkK 3 (seqK (run (X7 n) (F7 n) (codeAt (bodyOf Tryd.f7) [1, 1, 1, 1, 0, 1, 0, 0, 1, 1, 1]) 2) (lopK (canThen [2, 5, 48, 49, 50] rec1) (blkK 2 (seqK (run (X7 n) (F7 n) (codeAt (bodyOf Tryd.f7) [1, 1, 1, 1, 1]) 0) (kTop (X7 n) Tryd.f7 dec7))))))))))))))))))) [1, 5, 9, 10, 11, 1000100005] n (s7_12 x0 x2 x3 x5 x6 x7 x8 x9 x10 x11 x12 x13 x14 x15 x16 x17 x18 x19 x20 x21 x22 x23 x24 x25 x26 x27 x28 x29 x30 x31 x32 x)
theorem m7_12 (n : Nat) (rec1 : St C → Option (List (C .e44))) (rec2 : St C → Option (List (C .e44))) (x : A7_12) : MP7_12 x0 x2 x3 x5 x6 x7 x8 x9 x10 x11 x12 x13 x14 x15 x16 x17 x18 x19 x20 x21 x22 x23 x24 x25 x26 x27 x28 x29 x30 x31 x32 n rec1 rec2 x = lpN (r7_12 x0 x2 x3 x5 x12 x20 x26 x27 x29 n  (fun x => rec1 (s7_1 x7 x8 x13 x)) (fun x => rec2 (s7_2 x6 x7 x8 x9 x10 x11 x25 x26 x27 x28 x))) n x := by
  refine iter_eq (s7_12 x0 x2 x3 x5 x6 x7 x8 x9 x10 x11 x12 x13 x14 x15 x16 x17 x18 x19 x20 x21 x22 x23 x24 x25 x26 x27 x28 x29 x30 x31 x32) (r7_12 x0 x2 x3 x5 x12 x20 x26 x27 x29 n  (fun x => rec1 (s7_1 x7 x8 x13 x)) (fun x => rec2 (s7_2 x6 x7 x8 x9 x10 x11 x25 x26 x27 x28 x))) (fun rec12 x => ?_) n x
  obtain ⟨x1, x4⟩ := x
  kernel_rfl
end
section
variable (x0 : ByteArray) (x2 : List (C .e70)) (x3 : Int) (x5 : List (C .e44)) (x6 : Int) (x7 : List (C .e42)) (x8 : Int) (x9 : Int) (x10 : List (C .e54)) (x11 : Int) (x12 : Int) (x13 : List (C .e42)) (x14 : Int) (x15 : C .e42) (x16 : ByteArray) (x17 : ByteArray) (x18 : List (C .e70)) (x19 : ByteArray) (x20 : List (C .e42)) (x21 : ByteArray) (x22 : ByteArray) (x23 : List (C .e70)) (x24 : ByteArray) (x25 : List (C .e3)) (x26 : Bool) (x27 : List (C .e9))
noncomputable def MP7_11 (n : Nat) (rec1 : St C → Option (List (C .e44))) (rec2 : St C → Option (List (C .e44))) (x : A7_11) : Option (List (C .e44)) := iter (fun rec S => run X23 (F23 n) (codeAt (bodyOf Tryd.f23) [1, 1, 0, 1, 0, 0]) 0 S (lopK rec (blkK 0 (seqK (run X23 (F23 n) (codeAt (bodyOf Tryd.f23) [1, 1, 1]) 0) (inlK X23 Tryd.f23 (callK 88000 0 (some 88) (drawK (X7 n) (codeAt (bodyOf Tryd.f7) [1, 1, 1, 1, 0, 1, 0, 0, 1, 1, 0, 0, 1, 1, 1, 1, 0, 0, 1, 1, 0, 0, 1, 0]) 4085 [8, 9, 10, 11, 12, 13] (regK (F7 n) (seqK (run (X7 n) (F7 n) (codeAt (bodyOf Tryd.f7) [1, 1, 1, 1, 0, 1, 0, 0, 1, 1, 0, 0, 1, 1, 1, 1, 0, 0, 1, 1, 0, 0, 1, 1]) 5) (blkK 5 (seqK (run (X7 n) (F7 n) (codeAt (bodyOf Tryd.f7) [1, 1, 1, 1, 0, 1, 0, 0, 1, 1, 0, 0, 1, 1, 1, 1, 0, 0, 1, 1, 1]) 4) (lopK (canThen [2, 5, 9, 10, 48, 49, 50, 75, 76, 77] rec2) (blkK 4 (blkK 3 (seqK (run (X7 n) (F7 n) (codeAt (bodyOf Tryd.f7) [1, 1, 1, 1, 0, 1, 0, 0, 1, 1, 1]) 2) (lopK (canThen [2, 5, 48, 49, 50] rec1) (blkK 2 (seqK (run (X7 n) (F7 n) (codeAt (bodyOf Tryd.f7) [1, 1, 1, 1, 1]) 0) (kTop (X7 n) Tryd.f7 dec7))))))))))))))))))) [1, 5, 9, 10, 11, 1000100005] n (s7_11 x0 x2 x3 x5 x6 x7 x8 x9 x10 x11 x12 x13 x14 x15 x16 x17 x18 x19 x20 x21 x22 x23 x24 x25 x26 x27 x)
theorem m7_11 (n : Nat) (rec1 : St C → Option (List (C .e44))) (rec2 : St C → Option (List (C .e44))) (x : A7_11) : MP7_11 x0 x2 x3 x5 x6 x7 x8 x9 x10 x11 x12 x13 x14 x15 x16 x17 x18 x19 x20 x21 x22 x23 x24 x25 x26 x27 n rec1 rec2 x = lpN (r7_11 x0 x2 x3 x5 x12 x21 x22 x23 x24 n  (fun x => rec1 (s7_1 x7 x8 x13 x)) (fun x => rec2 (s7_2 x6 x7 x8 x9 x10 x11 x20 x21 x22 x23 x))) n x := by
  refine iter_eq (s7_11 x0 x2 x3 x5 x6 x7 x8 x9 x10 x11 x12 x13 x14 x15 x16 x17 x18 x19 x20 x21 x22 x23 x24 x25 x26 x27) (r7_11 x0 x2 x3 x5 x12 x21 x22 x23 x24 n  (fun x => rec1 (s7_1 x7 x8 x13 x)) (fun x => rec2 (s7_2 x6 x7 x8 x9 x10 x11 x20 x21 x22 x23 x))) (fun rec11 x => ?_) n x
  obtain ⟨x1, x4⟩ := x
  have h : run X23 (F23 n) (codeAt (bodyOf Tryd.f23) [1, 1, 0, 1, 0, 0]) 0 (s7_11 x0 x2 x3 x5 x6 x7 x8 x9 x10 x11 x12 x13 x14 x15 x16 x17 x18 x19 x20 x21 x22 x23 x24 x25 x26 x27 (x1, x4)) (lopK (canThen [1, 5, 9, 10, 11, 1000100005] rec11) (blkK 0 (seqK (run X23 (F23 n) (codeAt (bodyOf Tryd.f23) [1, 1, 1]) 0) (inlK X23 Tryd.f23 (callK 88000 0 (some 88) (drawK (X7 n) (codeAt (bodyOf Tryd.f7) [1, 1, 1, 1, 0, 1, 0, 0, 1, 1, 0, 0, 1, 1, 1, 1, 0, 0, 1, 1, 0, 0, 1, 0]) 4085 [8, 9, 10, 11, 12, 13] (regK (F7 n) (seqK (run (X7 n) (F7 n) (codeAt (bodyOf Tryd.f7) [1, 1, 1, 1, 0, 1, 0, 0, 1, 1, 0, 0, 1, 1, 1, 1, 0, 0, 1, 1, 0, 0, 1, 1]) 5) (blkK 5 (seqK (run (X7 n) (F7 n) (codeAt (bodyOf Tryd.f7) [1, 1, 1, 1, 0, 1, 0, 0, 1, 1, 0, 0, 1, 1, 1, 1, 0, 0, 1, 1, 1]) 4) (lopK (canThen [2, 5, 9, 10, 48, 49, 50, 75, 76, 77] rec2) (blkK 4 (blkK 3 (seqK (run (X7 n) (F7 n) (codeAt (bodyOf Tryd.f7) [1, 1, 1, 1, 0, 1, 0, 0, 1, 1, 1]) 2) (lopK (canThen [2, 5, 48, 49, 50] rec1) (blkK 2 (seqK (run (X7 n) (F7 n) (codeAt (bodyOf Tryd.f7) [1, 1, 1, 1, 1]) 0) (kTop (X7 n) Tryd.f7 dec7)))))))))))))))))) =
   cond (decide (x4 < x3))
   (cond (decide (0 ≤ x4)) (Option.bind x2[x4.toNat]? fun e25 => cond (decide (e25.Key = x0))
   (cond (decide ((x1.length + (([e25] : List (C .e70))).length) * 40 ≤ 140737488355328)) ((fun x => rec11 (s7_11 x0 x2 x3 x5 x6 x7 x8 x9 x10 x11 x12 x13 x14 x15 x16 x17 x18 x19 x20 x21 x22 x23 x24 x25 x26 x27 x)) ((x1 ++ (([e25] : List (C .e70))), IntKind.i64.wrap (x4 + 1)))) none)
   ((fun x => rec11 (s7_11 x0 x2 x3 x5 x6 x7 x8 x9 x10 x11 x12 x13 x14 x15 x16 x17 x18 x19 x20 x21 x22 x23 x24 x25 x26 x27 x)) ((x1, IntKind.i64.wrap (x4 + 1))))) none)
   (MP7_12 x24 x23 (x23.length : Int) x5 x6 x7 x8 x9 x10 x11 x12 x13 x14 x15 x16 x17 x18 x19 x1 x21 x22 x23 x24 x20 x21 x22 x23 x24 x25 x26 x27 n  rec1 rec2 ((([] : List (C .e70)), 0))) := by kernel_rfl
  simp only [m7_12] at h
  exact h
end
section
variable (x1 : Int) (x2 : List (C .e42)) (x3 : Int) (x4 : Int) (x5 : List (C .e54)) (x6 : Int) (x8 : List (C .e42)) (x9 : ByteArray) (x10 : ByteArray) (x11 : List (C .e70))
noncomputable def MP7_2 (n : Nat) (rec1 : St C → Option (List (C .e44))) (x : A7_2) : Option (List (C .e44)) := iter (fun rec S => run (X7 n) (F7 n) (codeAt (bodyOf Tryd.f7) [1, 1, 1, 1, 0, 1, 0, 0, 1, 1, 0, 0, 1, 1, 1, 1, 0, 0]) 4 S (lopK rec (blkK 4 (blkK 3 (seqK (run (X7 n) (F7 n) (codeAt (bodyOf Tryd.f7) [1, 1, 1, 1, 0, 1, 0, 0, 1, 1, 1]) 2) (lopK (canThen [2, 5, 48, 49, 50] rec1) (blkK 2 (seqK (run (X7 n) (F7 n) (codeAt (bodyOf Tryd.f7) [1, 1, 1, 1, 1]) 0) (kTop (X7 n) Tryd.f7 dec7))))))))) [2, 5, 9, 10, 48, 49, 50, 75, 76, 77] n (s7_2 x1 x2 x3 x4 x5 x6 x8 x9 x10 x11 x)
theorem m7_2 (n : Nat) (rec1 : St C → Option (List (C .e44))) (x : A7_2) : MP7_2 x1 x2 x3 x4 x5 x6 x8 x9 x10 x11 n rec1 x = lpN (r7_2 x1 x4 x5 x6 x8 x9 x10 x11 n  (fun x => rec1 (s7_1 x2 x3 x8 x))) n x := by
  refine iter_eq (s7_2 x1 x2 x3 x4 x5 x6 x8 x9 x10 x11) (r7_2 x1 x4 x5 x6 x8 x9 x10 x11 n  (fun x => rec1 (s7_1 x2 x3 x8 x))) (fun rec2 x => ?_) n x
  obtain ⟨x0, x7⟩ := x
  have h : run (X7 n) (F7 n) (codeAt (bodyOf Tryd.f7) [1, 1, 1, 1, 0, 1, 0, 0, 1, 1, 0, 0, 1, 1, 1, 1, 0, 0]) 4 (s7_2 x1 x2 x3 x4 x5 x6 x8 x9 x10 x11 (x0, x7)) (lopK (canThen [2, 5, 9, 10, 48, 49, 50, 75, 76, 77] rec2) (blkK 4 (blkK 3 (seqK (run (X7 n) (F7 n) (codeAt (bodyOf Tryd.f7) [1, 1, 1, 1, 0, 1, 0, 0, 1, 1, 1]) 2) (lopK (canThen [2, 5, 48, 49, 50] rec1) (blkK 2 (seqK (run (X7 n) (F7 n) (codeAt (bodyOf Tryd.f7) [1, 1, 1, 1, 1]) 0) (kTop (X7 n) Tryd.f7 dec7)))))))) =
   cond (decide (x7 < x6))
   (cond (decide (0 ≤ x7)) (Option.bind x5[x7.toNat]? fun e9 => cond (decide (0 ≤ x1)) (Option.bind x8[x1.toNat]? fun e10 => alt (MP7_3 e9.Key e10.Lines (e10.Lines.length : Int) x0 x1 x2 x3 x4 x5 x6 x7 x8 x1 e10 e10.Kind e10.Name e10.Lines e9.Key x9 x10 x11 e9.Key x8 x9 x10 x11 e9.Key e9.Args e9.Many e9.Default n  rec1 rec2 ((([] : List (C .e70)), 0)))
   (alt (MP7_5 e9.Key e10.Lines (e10.Lines.length : Int) x0 x1 x2 x3 x4 x5 x6 x7 x8 x1 e10 e10.Kind e10.Name e10.Lines e9.Key x9 x10 x11 x8 x9 x10 x11 e9.Key e9.Args e9.Many e9.Default n  rec1 rec2 ((([] : List (C .e70)), 0)))
   (alt (MP7_7 e9.Key e10.Lines (e10.Lines.length : Int) x0 x1 x2 x3 x4 x5 x6 x7 x8 x1 e10 e10.Kind e10.Name e10.Lines e9.Key x9 x10 x11 x8 x9 x10 x11 e9.Key e9.Args e9.Many e9.Default n  rec1 rec2 ((([] : List (C .e70)), 0)))
   (alt (MP7_9 e9.Key e10.Lines (e10.Lines.length : Int) x0 x1 x2 x3 x4 x5 x6 x7 x8 x1 e10 e10.Kind e10.Name e10.Lines e9.Key e9.Key x8 x9 x10 x11 e9.Key e9.Args e9.Many e9.Default n  rec1 rec2 ((([] : List (C .e70)), 0)))
   (alt (MP7_10 e9.Key e10.Lines (e10.Lines.length : Int) x0 x1 x2 x3 x4 x5 x6 x7 x8 x1 e10 e10.Kind e10.Name e10.Lines e9.Key x8 x9 x10 x11 e9.Key e9.Args e9.Many e9.Default n  rec1 rec2 ((([] : List (C .e70)), 0)))
   (MP7_11 e9.Key e10.Lines (e10.Lines.length : Int) x0 x1 x2 x3 x4 x5 x6 x7 x8 x1 e10 e10.Kind e10.Name e10.Lines e9.Key x8 x9 x10 x11 e9.Key e9.Args e9.Many e9.Default n  rec1 rec2 ((([] : List (C .e70)), 0)))))))) none) none)
   ((fun x => rec1 (s7_1 x2 x3 x8 x)) ((x0, IntKind.i64.wrap (x4 + 1)))) := by kernel_rfl
  simp only [m7_10, m7_11, m7_3, m7_5, m7_7, m7_9] at h
  exact h
end
section
variable (x1 : List (C .e42)) (x2 : Int) (x4 : List (C .e42))
noncomputable def MP7_1 (n : Nat)  (x : A7_1) : Option (List (C .e44)) := iter (fun rec S => run (X7 n) (F7 n) (codeAt (bodyOf Tryd.f7) [1, 1, 1, 1, 0, 1, 0, 0]) 2 S (lopK rec (blkK 2 (seqK (run (X7 n) (F7 n) (codeAt (bodyOf Tryd.f7) [1, 1, 1, 1, 1]) 0) (kTop (X7 n) Tryd.f7 dec7))))) [2, 5, 48, 49, 50] n (s7_1 x1 x2 x4 x)
theorem m7_1 (n : Nat)  (x : A7_1) : MP7_1 x1 x2 x4 n  x = lpN (r7_1 x1 x2 x4 n  ) n x := by
  refine iter_eq (s7_1 x1 x2 x4) (r7_1 x1 x2 x4 n  ) (fun rec1 x => ?_) n x
  obtain ⟨x0, x3⟩ := x
  have h : run (X7 n) (F7 n) (codeAt (bodyOf Tryd.f7) [1, 1, 1, 1, 0, 1, 0, 0]) 2 (s7_1 x1 x2 x4 (x0, x3)) (lopK (canThen [2, 5, 48, 49, 50] rec1) (blkK 2 (seqK (run (X7 n) (F7 n) (codeAt (bodyOf Tryd.f7) [1, 1, 1, 1, 1]) 0) (kTop (X7 n) Tryd.f7 dec7)))) =
   cond (decide (x3 < x2))
   (cond (decide (0 ≤ x3)) (Option.bind x1[x3.toNat]? fun e5 => Option.bind (G20 (⟨x4⟩ : VSheet) e5.Kind e5.Name) fun r6 =>
   cond (decide (r6 < 0))
   (Option.bind (G21 e5.Lines) fun r7 =>
   cond (decide ((x0.length + (([(⟨2, e5.Kind, e5.Name, (⟨#[]⟩ : ByteArray), r7⟩ : VSheetChange)] : List (C .e44))).length) * 80 ≤ 140737488355328)) ((fun x => rec1 (s7_1 x1 x2 x4 x)) ((x0 ++ (([(⟨2, e5.Kind, e5.Name, (⟨#[]⟩ : ByteArray), r7⟩ : VSheetChange)] : List (C .e44))), IntKind.i64.wrap (x3 + 1)))) none)
   (Option.bind (G22 e5.Kind) fun r8 =>
   MP7_2 r6 x1 x2 x3 r8 (r8.length : Int) x4 e5.Kind e5.Name e5.Lines n  rec1 (x0, 0))) none)
   (some (x0)) := by kernel_rfl
  simp only [m7_2] at h
  exact h
end
section
variable (x1 : List (C .e42)) (x2 : Int) (x4 : List (C .e42)) (x5 : List (C .e42))
noncomputable def MP7_0 (n : Nat)  (x : A7_0) : Option (List (C .e44)) := iter (fun rec S => run (X7 n) (F7 n) (codeAt (bodyOf Tryd.f7) [1, 1, 1, 0, 1, 0, 0]) 0 S (lopK rec (blkK 0 (seqK (run (X7 n) (F7 n) (codeAt (bodyOf Tryd.f7) [1, 1, 1, 1]) 0) (kTop (X7 n) Tryd.f7 dec7))))) [2, 3, 5, 25, 26, 27] n (s7_0 x1 x2 x4 x5 x)
theorem m7_0 (n : Nat)  (x : A7_0) : MP7_0 x1 x2 x4 x5 n  x = lpN (r7_0 x1 x2 x4 x5 n  ) n x := by
  refine iter_eq (s7_0 x1 x2 x4 x5) (r7_0 x1 x2 x4 x5 n  ) (fun rec0 x => ?_) n x
  obtain ⟨x0, x3⟩ := x
  have h : run (X7 n) (F7 n) (codeAt (bodyOf Tryd.f7) [1, 1, 1, 0, 1, 0, 0]) 0 (s7_0 x1 x2 x4 x5 (x0, x3)) (lopK (canThen [2, 3, 5, 25, 26, 27] rec0) (blkK 0 (seqK (run (X7 n) (F7 n) (codeAt (bodyOf Tryd.f7) [1, 1, 1, 1]) 0) (kTop (X7 n) Tryd.f7 dec7)))) =
   cond (decide (x3 < x2))
   (cond (decide (0 ≤ x3)) (Option.bind x1[x3.toNat]? fun e3 => Option.bind (G20 (⟨x5⟩ : VSheet) e3.Kind e3.Name) fun r4 =>
   cond (decide (r4 < 0))
   (cond (decide ((x0.length + (([(⟨1, e3.Kind, e3.Name, (⟨#[]⟩ : ByteArray), ([] : List (C .e70))⟩ : VSheetChange)] : List (C .e44))).length) * 80 ≤ 140737488355328)) ((fun x => rec0 (s7_0 x1 x2 x4 x5 x)) ((x0 ++ (([(⟨1, e3.Kind, e3.Name, (⟨#[]⟩ : ByteArray), ([] : List (C .e70))⟩ : VSheetChange)] : List (C .e44))), IntKind.i64.wrap (x3 + 1)))) none)
   ((fun x => rec0 (s7_0 x1 x2 x4 x5 x)) ((x0, IntKind.i64.wrap (x3 + 1))))) none)
   (MP7_1 x5 (x5.length : Int) x4 n   (x0, 0)) := by kernel_rfl
  simp only [m7_1] at h
  exact h
end
noncomputable def G7n (n : Nat) (a0 : VSheet) (a1 : VSheet) : Option (List (C .e44)) :=
 Option.bind (G19 a0) fun r1 =>
 cond (!r1)
 (some (([] : List (C .e44))))
 (Option.bind (G19 a1) fun r2 =>
 cond (!r2)
 (some (([] : List (C .e44))))
 (lpN (r7_0 a0.Blocks (a0.Blocks.length : Int) a0.Blocks a1.Blocks n ) n ((([] : List (C .e44)), 0))))
theorem t7 (n : Nat) (a0 : VSheet) (a1 : VSheet) : runFn (X7 n) (F7 n) Tryd.f7 [.agg [.row .e42 a0.Blocks], .agg [.row .e42 a1.Blocks]] dec7 = G7n n a0 a1 := by
  refine Eq.trans (b :=
   Option.bind (G19 a0) fun r1 =>
   cond (!r1)
   (some (([] : List (C .e44))))
   (Option.bind (G19 a1) fun r2 =>
   cond (!r2)
   (some (([] : List (C .e44))))
   (MP7_0 a0.Blocks (a0.Blocks.length : Int) a0.Blocks a1.Blocks n   ((([] : List (C .e44)), 0))))) (by kernel_rfl) ?_
  simp only [G7n, m7_0]
noncomputable def G7 (a0 : VSheet) (a1 : VSheet) : Option (List (C .e44)) := G7n fuel a0 a1
noncomputable def con7 : Con C := mkC KK [.el .e30, .el .e30] [.row .e44] G7
theorem c7 : ConOk Tryd.prog KK 7 con7 := cO (mkQ ⟨c19, c20, c21, c22, c24, trivial⟩ trivial ⟨i23 _, trivial⟩ : Cons Tryd.prog (X7 fuel)) (fn := Tryd.f7) (by kernel_rfl) (by kernel_rfl) (by kernel_rfl) (by kernel_rfl) (F7 fuel) (by kernel_rfl) (fun a0 a1 => t7 fuel a0 a1)
/-! ### f75 loop.example/wharfdesk/laws.eqStringS -/
noncomputable def X75 : Cx C := mkX [] [] [] [] 4915200
def F75 (n : Nat) : Cf := { N := n, keep := [0, 1, 4, 5, 10, 14, 25], live := lk [(0, [0, 1, 5])] }
noncomputable abbrev dec75 := deR KK [.bool]
abbrev A75_0 : Type := List (C .e9) × List (C .e9) × Int
def s75_0  : A75_0 → St C := fun (x0_0, x0_1, x0_2) => { env := [(0, .one (.row .e9 x0_0)), (1, .one (.row .e9 x0_1)), (5, .one (.int .i64 x0_2))], objs := [], base := 0 }
noncomputable def r75_0 (n : Nat)   (rec0 : A75_0 → Option (Bool)) : A75_0 → Option (Bool) := fun (x0_0, x0_1, x0_2) =>
 cond (decide (x0_2 < (x0_0.length : Int)))
 (cond (decide (0 ≤ x0_2)) (Option.bind x0_0[x0_2.toNat]? fun e1 => cond (decide (0 ≤ x0_2)) (Option.bind x0_1[x0_2.toNat]? fun e2 => cond (!decide (e1 = e2))
 (some (false))
 (rec0 ((x0_0, x0_1, IntKind.i64.wrap (x0_2 + 1))))) none) none)
 (some (true))
noncomputable def LP75_0 (n : Nat)   (x : A75_0) : Option (Bool) := lpN (r75_0 n  ) n x
noncomputable def MP75_0 (n : Nat)   (x : A75_0) : Option (Bool) := iter (fun rec S => run X75 (F75 n) (codeAt (bodyOf Tryd.f75) [1, 1, 0, 1, 0, 0]) 0 S (lopK rec (blkK 0 (seqK (run X75 (F75 n) (codeAt (bodyOf Tryd.f75) [1, 1, 1]) 0) (kTop X75 Tryd.f75 dec75))))) [0, 1, 5] n (s75_0  x)
theorem m75_0 (n : Nat)   (x : A75_0) : MP75_0 n   x = LP75_0 n   x := by
  refine iter_eq (s75_0 ) (r75_0 n  ) (fun rec0 x => ?_) n x
  obtain ⟨x0_0, x0_1, x0_2⟩ := x
  kernel_rfl
noncomputable def G75n (n : Nat) (a0 : List (C .e9)) (a1 : List (C .e9)) : Option (Bool) :=
 cond ((a0.length : Int) != (a1.length : Int))
 (some (false))
 (LP75_0 n    (a0, a1, 0))
theorem t75 (n : Nat) (a0 : List (C .e9)) (a1 : List (C .e9)) : runFn X75 (F75 n) Tryd.f75 [.one (.row .e9 a0), .one (.row .e9 a1)] dec75 = G75n n a0 a1 := by
  refine Eq.trans (b :=
   cond ((a0.length : Int) != (a1.length : Int))
   (some (false))
   (MP75_0 n    (a0, a1, 0))) (by kernel_rfl) ?_
  simp only [G75n, m75_0]
noncomputable def G75 (a0 : List (C .e9)) (a1 : List (C .e9)) : Option (Bool) := G75n fuel a0 a1
noncomputable def con75 : Con C := mkC KK [.row .e9, .row .e9] [.bool] G75
theorem c75 : ConOk Tryd.prog KK 75 con75 := cO (mkQ trivial trivial trivial : Cons Tryd.prog X75) (fn := Tryd.f75) (by kernel_rfl) (by kernel_rfl) (by kernel_rfl) (by kernel_rfl) (F75 fuel) (by kernel_rfl) (fun a0 a1 => t75 fuel a0 a1)
/-! ### f66 loop.example/wharfdesk/laws.eqSheetLine -/
noncomputable def X66 : Cx C := mkX [(75, con75)] [] [] [] 4325376
def F66 (n : Nat) : Cf := { N := n, keep := [0, 1, 2, 3, 4, 9, 15], live := lk [] }
noncomputable abbrev dec66 := deR KK [.bool]
noncomputable def G66n (n : Nat) (a0 : VSheetLine) (a1 : VSheetLine) : Option (Bool) :=
 cond (!decide (a0.Key = a1.Key))
 (some (false))
 (Option.bind (G75 a0.Words a1.Words) fun r1 =>
 cond (!r1)
 (some (false))
 (some (true)))
theorem t66 (n : Nat) (a0 : VSheetLine) (a1 : VSheetLine) : runFn X66 (F66 n) Tryd.f66 [.agg [.str a0.Key, .row .e9 a0.Words], .agg [.str a1.Key, .row .e9 a1.Words]] dec66 = G66n n a0 a1 := by
  kernel_rfl
noncomputable def G66 (a0 : VSheetLine) (a1 : VSheetLine) : Option (Bool) := G66n fuel a0 a1
noncomputable def con66 : Con C := mkC KK [.el .e70, .el .e70] [.bool] G66
theorem c66 : ConOk Tryd.prog KK 66 con66 := cO (mkQ ⟨c75, trivial⟩ trivial trivial : Cons Tryd.prog X66) (fn := Tryd.f66) (by kernel_rfl) (by kernel_rfl) (by kernel_rfl) (by kernel_rfl) (F66 fuel) (by kernel_rfl) (fun a0 a1 => t66 fuel a0 a1)
/-! ### f47 loop.example/wharfdesk/laws.eqSheetLineS -/
noncomputable def X47 : Cx C := mkX [(66, con66)] [] [] [] 3080192
def F47 (n : Nat) : Cf := { N := n, keep := [0, 1, 4, 5, 10, 14, 26], live := lk [(0, [0, 1, 5])] }
noncomputable abbrev dec47 := deR KK [.bool]
abbrev A47_0 : Type := List (C .e70) × List (C .e70) × Int
def s47_0  : A47_0 → St C := fun (x0_0, x0_1, x0_2) => { env := [(0, .one (.row .e70 x0_0)), (1, .one (.row .e70 x0_1)), (5, .one (.int .i64 x0_2))], objs := [], base := 0 }
noncomputable def r47_0 (n : Nat)   (rec0 : A47_0 → Option (Bool)) : A47_0 → Option (Bool) := fun (x0_0, x0_1, x0_2) =>
 cond (decide (x0_2 < (x0_0.length : Int)))
 (cond (decide (0 ≤ x0_2)) (Option.bind x0_0[x0_2.toNat]? fun e1 => cond (decide (0 ≤ x0_2)) (Option.bind x0_1[x0_2.toNat]? fun e2 => Option.bind (G66 e1 e2) fun r3 =>
 cond (!r3)
 (some (false))
 (rec0 ((x0_0, x0_1, IntKind.i64.wrap (x0_2 + 1))))) none) none)
 (some (true))
noncomputable def LP47_0 (n : Nat)   (x : A47_0) : Option (Bool) := lpN (r47_0 n  ) n x
noncomputable def MP47_0 (n : Nat)   (x : A47_0) : Option (Bool) := iter (fun rec S => run X47 (F47 n) (codeAt (bodyOf Tryd.f47) [1, 1, 0, 1, 0, 0]) 0 S (lopK rec (blkK 0 (seqK (run X47 (F47 n) (codeAt (bodyOf Tryd.f47) [1, 1, 1]) 0) (kTop X47 Tryd.f47 dec47))))) [0, 1, 5] n (s47_0  x)
theorem m47_0 (n : Nat)   (x : A47_0) : MP47_0 n   x = LP47_0 n   x := by
  refine iter_eq (s47_0 ) (r47_0 n  ) (fun rec0 x => ?_) n x
  obtain ⟨x0_0, x0_1, x0_2⟩ := x
  kernel_rfl
noncomputable def G47n (n : Nat) (a0 : List (C .e70)) (a1 : List (C .e70)) : Option (Bool) :=
 cond ((a0.length : Int) != (a1.length : Int))
 (some (false))
 (LP47_0 n    (a0, a1, 0))
theorem t47 (n : Nat) (a0 : List (C .e70)) (a1 : List (C .e70)) : runFn X47 (F47 n) Tryd.f47 [.one (.row .e70 a0), .one (.row .e70 a1)] dec47 = G47n n a0 a1 := by
  refine Eq.trans (b :=
   cond ((a0.length : Int) != (a1.length : Int))
   (some (false))
   (MP47_0 n    (a0, a1, 0))) (by kernel_rfl) ?_
  simp only [G47n, m47_0]
noncomputable def G47 (a0 : List (C .e70)) (a1 : List (C .e70)) : Option (Bool) := G47n fuel a0 a1
noncomputable def con47 : Con C := mkC KK [.row .e70, .row .e70] [.bool] G47
theorem c47 : ConOk Tryd.prog KK 47 con47 := cO (mkQ ⟨c66, trivial⟩ trivial trivial : Cons Tryd.prog X47) (fn := Tryd.f47) (by kernel_rfl) (by kernel_rfl) (by kernel_rfl) (by kernel_rfl) (F47 fuel) (by kernel_rfl) (fun a0 a1 => t47 fuel a0 a1)
/-! ### f25 loop.example/wharfdesk/laws.eqSheetChange -/
noncomputable def X25 : Cx C := mkX [(47, con47)] [] [] [] 1638400
def F25 (n : Nat) : Cf := { N := n, keep := [0, 1, 2, 3, 4, 9, 14, 19, 24, 30], live := lk [] }
noncomputable abbrev dec25 := deR KK [.bool]
noncomputable def G25n (n : Nat) (a0 : VSheetChange) (a1 : VSheetChange) : Option (Bool) :=
 cond (a0.What != a1.What)
 (some (false))
 (cond (!decide (a0.Kind = a1.Kind))
 (some (false))
 (cond (!decide (a0.Name = a1.Name))
 (some (false))
 (cond (!decide (a0.Key = a1.Key))
 (some (false))
 (Option.bind (G47 a0.Lines a1.Lines) fun r1 =>
 cond (!r1)
 (some (false))
 (some (true))))))
theorem t25 (n : Nat) (a0 : VSheetChange) (a1 : VSheetChange) : runFn X25 (F25 n) Tryd.f25 [.agg [.int .i64 a0.What, .str a0.Kind, .str a0.Name, .str a0.Key, .row .e70 a0.Lines], .agg [.int .i64 a1.What, .str a1.Kind, .str a1.Name, .str a1.Key, .row .e70 a1.Lines]] dec25 = G25n n a0 a1 := by
  kernel_rfl
noncomputable def G25 (a0 : VSheetChange) (a1 : VSheetChange) : Option (Bool) := G25n fuel a0 a1
noncomputable def con25 : Con C := mkC KK [.el .e44, .el .e44] [.bool] G25
theorem c25 : ConOk Tryd.prog KK 25 con25 := cO (mkQ ⟨c47, trivial⟩ trivial trivial : Cons Tryd.prog X25) (fn := Tryd.f25) (by kernel_rfl) (by kernel_rfl) (by kernel_rfl) (by kernel_rfl) (F25 fuel) (by kernel_rfl) (fun a0 a1 => t25 fuel a0 a1)
/-! ### f8 loop.example/wharfdesk/laws.eqSheetChangeS -/
noncomputable def X8 : Cx C := mkX [(25, con25)] [] [] [] 524288
def F8 (n : Nat) : Cf := { N := n, keep := [0, 1, 4, 5, 10, 14, 26], live := lk [(0, [0, 1, 5])] }
noncomputable abbrev dec8 := deR KK [.bool]
abbrev A8_0 : Type := List (C .e44) × List (C .e44) × Int
def s8_0  : A8_0 → St C := fun (x0_0, x0_1, x0_2) => { env := [(0, .one (.row .e44 x0_0)), (1, .one (.row .e44 x0_1)), (5, .one (.int .i64 x0_2))], objs := [], base := 0 }
noncomputable def r8_0 (n : Nat)   (rec0 : A8_0 → Option (Bool)) : A8_0 → Option (Bool) := fun (x0_0, x0_1, x0_2) =>
 cond (decide (x0_2 < (x0_0.length : Int)))
 (cond (decide (0 ≤ x0_2)) (Option.bind x0_0[x0_2.toNat]? fun e1 => cond (decide (0 ≤ x0_2)) (Option.bind x0_1[x0_2.toNat]? fun e2 => Option.bind (G25 e1 e2) fun r3 =>
 cond (!r3)
 (some (false))
 (rec0 ((x0_0, x0_1, IntKind.i64.wrap (x0_2 + 1))))) none) none)
 (some (true))
noncomputable def LP8_0 (n : Nat)   (x : A8_0) : Option (Bool) := lpN (r8_0 n  ) n x
noncomputable def MP8_0 (n : Nat)   (x : A8_0) : Option (Bool) := iter (fun rec S => run X8 (F8 n) (codeAt (bodyOf Tryd.f8) [1, 1, 0, 1, 0, 0]) 0 S (lopK rec (blkK 0 (seqK (run X8 (F8 n) (codeAt (bodyOf Tryd.f8) [1, 1, 1]) 0) (kTop X8 Tryd.f8 dec8))))) [0, 1, 5] n (s8_0  x)
theorem m8_0 (n : Nat)   (x : A8_0) : MP8_0 n   x = LP8_0 n   x := by
  refine iter_eq (s8_0 ) (r8_0 n  ) (fun rec0 x => ?_) n x
  obtain ⟨x0_0, x0_1, x0_2⟩ := x
  kernel_rfl
noncomputable def G8n (n : Nat) (a0 : List (C .e44)) (a1 : List (C .e44)) : Option (Bool) :=
 cond ((a0.length : Int) != (a1.length : Int))
 (some (false))
 (LP8_0 n    (a0, a1, 0))
theorem t8 (n : Nat) (a0 : List (C .e44)) (a1 : List (C .e44)) : runFn X8 (F8 n) Tryd.f8 [.one (.row .e44 a0), .one (.row .e44 a1)] dec8 = G8n n a0 a1 := by
  refine Eq.trans (b :=
   cond ((a0.length : Int) != (a1.length : Int))
   (some (false))
   (MP8_0 n    (a0, a1, 0))) (by kernel_rfl) ?_
  simp only [G8n, m8_0]
noncomputable def G8 (a0 : List (C .e44)) (a1 : List (C .e44)) : Option (Bool) := G8n fuel a0 a1
noncomputable def con8 : Con C := mkC KK [.row .e44, .row .e44] [.bool] G8
theorem c8 : ConOk Tryd.prog KK 8 con8 := cO (mkQ ⟨c25, trivial⟩ trivial trivial : Cons Tryd.prog X8) (fn := Tryd.f8) (by kernel_rfl) (by kernel_rfl) (by kernel_rfl) (by kernel_rfl) (F8 fuel) (by kernel_rfl) (fun a0 a1 => t8 fuel a0 a1)
/-! ### f48 loop.example/wharfdesk/laws.eqSheetBlock -/
noncomputable def X48 : Cx C := mkX [(47, con47)] [] [] [] 3145728
def F48 (n : Nat) : Cf := { N := n, keep := [0, 1, 2, 3, 4, 9, 14, 20], live := lk [] }
noncomputable abbrev dec48 := deR KK [.bool]
noncomputable def G48n (n : Nat) (a0 : VSheetBlock) (a1 : VSheetBlock) : Option (Bool) :=
 cond (!decide (a0.Kind = a1.Kind))
 (some (false))
 (cond (!decide (a0.Name = a1.Name))
 (some (false))
 (Option.bind (G47 a0.Lines a1.Lines) fun r1 =>
 cond (!r1)
 (some (false))
 (some (true))))
theorem t48 (n : Nat) (a0 : VSheetBlock) (a1 : VSheetBlock) : runFn X48 (F48 n) Tryd.f48 [.agg [.str a0.Kind, .str a0.Name, .row .e70 a0.Lines], .agg [.str a1.Kind, .str a1.Name, .row .e70 a1.Lines]] dec48 = G48n n a0 a1 := by
  kernel_rfl
noncomputable def G48 (a0 : VSheetBlock) (a1 : VSheetBlock) : Option (Bool) := G48n fuel a0 a1
noncomputable def con48 : Con C := mkC KK [.el .e42, .el .e42] [.bool] G48
theorem c48 : ConOk Tryd.prog KK 48 con48 := cO (mkQ ⟨c47, trivial⟩ trivial trivial : Cons Tryd.prog X48) (fn := Tryd.f48) (by kernel_rfl) (by kernel_rfl) (by kernel_rfl) (by kernel_rfl) (F48 fuel) (by kernel_rfl) (fun a0 a1 => t48 fuel a0 a1)
/-! ### f26 loop.example/wharfdesk/laws.eqSheetBlockS -/
noncomputable def X26 : Cx C := mkX [(48, con48)] [] [] [] 1703936
def F26 (n : Nat) : Cf := { N := n, keep := [0, 1, 4, 5, 10, 14, 26], live := lk [(0, [0, 1, 5])] }
noncomputable abbrev dec26 := deR KK [.bool]
abbrev A26_0 : Type := List (C .e42) × List (C .e42) × Int
def s26_0  : A26_0 → St C := fun (x0_0, x0_1, x0_2) => { env := [(0, .one (.row .e42 x0_0)), (1, .one (.row .e42 x0_1)), (5, .one (.int .i64 x0_2))], objs := [], base := 0 }
noncomputable def r26_0 (n : Nat)   (rec0 : A26_0 → Option (Bool)) : A26_0 → Option (Bool) := fun (x0_0, x0_1, x0_2) =>
 cond (decide (x0_2 < (x0_0.length : Int)))
 (cond (decide (0 ≤ x0_2)) (Option.bind x0_0[x0_2.toNat]? fun e1 => cond (decide (0 ≤ x0_2)) (Option.bind x0_1[x0_2.toNat]? fun e2 => Option.bind (G48 e1 e2) fun r3 =>
 cond (!r3)
 (some (false))
 (rec0 ((x0_0, x0_1, IntKind.i64.wrap (x0_2 + 1))))) none) none)
 (some (true))
noncomputable def LP26_0 (n : Nat)   (x : A26_0) : Option (Bool) := lpN (r26_0 n  ) n x
noncomputable def MP26_0 (n : Nat)   (x : A26_0) : Option (Bool) := iter (fun rec S => run X26 (F26 n) (codeAt (bodyOf Tryd.f26) [1, 1, 0, 1, 0, 0]) 0 S (lopK rec (blkK 0 (seqK (run X26 (F26 n) (codeAt (bodyOf Tryd.f26) [1, 1, 1]) 0) (kTop X26 Tryd.f26 dec26))))) [0, 1, 5] n (s26_0  x)
theorem m26_0 (n : Nat)   (x : A26_0) : MP26_0 n   x = LP26_0 n   x := by
  refine iter_eq (s26_0 ) (r26_0 n  ) (fun rec0 x => ?_) n x
  obtain ⟨x0_0, x0_1, x0_2⟩ := x
  kernel_rfl
noncomputable def G26n (n : Nat) (a0 : List (C .e42)) (a1 : List (C .e42)) : Option (Bool) :=
 cond ((a0.length : Int) != (a1.length : Int))
 (some (false))
 (LP26_0 n    (a0, a1, 0))
theorem t26 (n : Nat) (a0 : List (C .e42)) (a1 : List (C .e42)) : runFn X26 (F26 n) Tryd.f26 [.one (.row .e42 a0), .one (.row .e42 a1)] dec26 = G26n n a0 a1 := by
  refine Eq.trans (b :=
   cond ((a0.length : Int) != (a1.length : Int))
   (some (false))
   (MP26_0 n    (a0, a1, 0))) (by kernel_rfl) ?_
  simp only [G26n, m26_0]
noncomputable def G26 (a0 : List (C .e42)) (a1 : List (C .e42)) : Option (Bool) := G26n fuel a0 a1
noncomputable def con26 : Con C := mkC KK [.row .e42, .row .e42] [.bool] G26
theorem c26 : ConOk Tryd.prog KK 26 con26 := cO (mkQ ⟨c48, trivial⟩ trivial trivial : Cons Tryd.prog X26) (fn := Tryd.f26) (by kernel_rfl) (by kernel_rfl) (by kernel_rfl) (by kernel_rfl) (F26 fuel) (by kernel_rfl) (fun a0 a1 => t26 fuel a0 a1)
/-! ### f9 loop.example/wharfdesk/laws.eqSheet -/
noncomputable def X9 : Cx C := mkX [(26, con26)] [] [] [] 589824
def F9 (n : Nat) : Cf := { N := n, keep := [0, 1, 2, 3, 4, 10], live := lk [] }
noncomputable abbrev dec9 := deR KK [.bool]
noncomputable def G9n (n : Nat) (a0 : VSheet) (a1 : VSheet) : Option (Bool) :=
 Option.bind (G26 a0.Blocks a1.Blocks) fun r1 =>
 cond (!r1)
 (some (false))
 (some (true))
theorem t9 (n : Nat) (a0 : VSheet) (a1 : VSheet) : runFn X9 (F9 n) Tryd.f9 [.agg [.row .e42 a0.Blocks], .agg [.row .e42 a1.Blocks]] dec9 = G9n n a0 a1 := by
  kernel_rfl
noncomputable def G9 (a0 : VSheet) (a1 : VSheet) : Option (Bool) := G9n fuel a0 a1
noncomputable def con9 : Con C := mkC KK [.el .e30, .el .e30] [.bool] G9
theorem c9 : ConOk Tryd.prog KK 9 con9 := cO (mkQ ⟨c26, trivial⟩ trivial trivial : Cons Tryd.prog X9) (fn := Tryd.f9) (by kernel_rfl) (by kernel_rfl) (by kernel_rfl) (by kernel_rfl) (F9 fuel) (by kernel_rfl) (fun a0 a1 => t9 fuel a0 a1)
/-! ### f28 loop.example/wharfdesk/laws.markText -/
noncomputable def X28 : Cx C := mkX [] [] [] [] 1835008
def F28 (n : Nat) : Cf := { N := n, keep := [0, 2, 3, 5, 7], live := lk [(0, [0, 3])] }
noncomputable abbrev dec28 := deR KK [.str]
abbrev A28_0 : Type := Int × ByteArray
def s28_0  : A28_0 → St C := fun (x0_0, x0_1) => { env := [(0, .one (.int .i64 x0_0)), (3, .one (.str x0_1))], objs := [], base := 0 }
noncomputable def r28_0 (n : Nat)   (rec0 : A28_0 → Option (ByteArray)) : A28_0 → Option (ByteArray) := fun (x0_0, x0_1) =>
 cond (decide (x0_0 > 0))
 (cond (decide (10 = 0)) none (cond (decide ((strOf KK .e5 (([IntKind.u8.wrap (IntKind.i64.wrap (48 + (x0_0.tmod 10)))] : List (C .e5)))).size + x0_1.size ≤ 9223372036854775807)) (cond (decide (10 = 0)) none (rec0 ((IntKind.i64.wrap (x0_0.tdiv 10), (strOf KK .e5 (([IntKind.u8.wrap (IntKind.i64.wrap (48 + (x0_0.tmod 10)))] : List (C .e5)))) ++ x0_1)))) none))
 (cond (decide ((⟨#[109]⟩ : ByteArray).size + x0_1.size ≤ 9223372036854775807)) (some ((⟨#[109]⟩ : ByteArray) ++ x0_1)) none)
noncomputable def LP28_0 (n : Nat)   (x : A28_0) : Option (ByteArray) := lpN (r28_0 n  ) n x
noncomputable def MP28_0 (n : Nat)   (x : A28_0) : Option (ByteArray) := iter (fun rec S => run X28 (F28 n) (codeAt (bodyOf Tryd.f28) [1, 1, 1, 0, 0, 0]) 0 S (lopK rec (blkK 0 (seqK (run X28 (F28 n) (codeAt (bodyOf Tryd.f28) [1, 1, 1, 1]) 0) (kTop X28 Tryd.f28 dec28))))) [0, 3] n (s28_0  x)
theorem m28_0 (n : Nat)   (x : A28_0) : MP28_0 n   x = LP28_0 n   x := by
  refine iter_eq (s28_0 ) (r28_0 n  ) (fun rec0 x => ?_) n x
  obtain ⟨x0_0, x0_1⟩ := x
  kernel_rfl
noncomputable def G28n (n : Nat) (a0 : Int) : Option (ByteArray) :=
 cond (decide (a0 ≤ 0))
 (some ((⟨#[109, 48]⟩ : ByteArray)))
 (LP28_0 n    ((a0, (⟨#[]⟩ : ByteArray))))
theorem t28 (n : Nat) (a0 : Int) : runFn X28 (F28 n) Tryd.f28 [.one (.int .i64 a0)] dec28 = G28n n a0 := by
  refine Eq.trans (b :=
   cond (decide (a0 ≤ 0))
   (some ((⟨#[109, 48]⟩ : ByteArray)))
   (MP28_0 n    ((a0, (⟨#[]⟩ : ByteArray))))) (by kernel_rfl) ?_
  simp only [G28n, m28_0]
noncomputable def G28 (a0 : Int) : Option (ByteArray) := G28n fuel a0
noncomputable def con28 : Con C := mkC KK [.int .i64] [.str] G28
theorem c28 : ConOk Tryd.prog KK 28 con28 := cO (mkQ trivial trivial trivial : Cons Tryd.prog X28) (fn := Tryd.f28) (by kernel_rfl) (by kernel_rfl) (by kernel_rfl) (by kernel_rfl) (F28 fuel) (by kernel_rfl) (fun a0 => t28 fuel a0)
/-! ### f49 loop.example/wharfdesk/laws.markStringS -/
noncomputable def X49 : Cx C := mkX [(28, con28)] [] [] [] 3211264
def F49 (n : Nat) : Cf := { N := n, keep := [0, 1, 4, 5, 9], live := lk [(0, [0, 1, 5])] }
noncomputable abbrev dec49 := deW KK [.e9] [.int .i64]
abbrev A49_0 : Type := List (C .e9) × Int × Int
def s49_0  : A49_0 → St C := fun (x0_0, x0_1, x0_2) => { env := [(0, .one (.ref 100000 [])), (1, .one (.int .i64 x0_1)), (5, .one (.int .i64 x0_2)), (90000, .frame), (90001, .hdr 100000 0)], objs := [(100000, .row .e9 x0_0 false)], base := 0 }
noncomputable def r49_0 (n : Nat)   (rec0 : A49_0 → Option (List (C .e9) × Int)) : A49_0 → Option (List (C .e9) × Int) := fun (x0_0, x0_1, x0_2) =>
 cond (decide (x0_2 < (x0_0.length : Int)))
 (Option.bind (G28 x0_1) fun r1 =>
 cond (decide (0 ≤ x0_2)) (cond (decide (x0_2 < (x0_0.length : Int))) (Option.bind x0_0[x0_2.toNat]? fun e2 => rec0 ((x0_0.set x0_2.toNat r1, IntKind.i64.wrap (x0_1 + 1), IntKind.i64.wrap (x0_2 + 1)))) none) none)
 (some (x0_0, x0_1))
noncomputable def LP49_0 (n : Nat)   (x : A49_0) : Option (List (C .e9) × Int) := lpN (r49_0 n  ) n x
noncomputable def MP49_0 (kp : Nat → Prop) (kh : Nat → Option Obj) (hd : Nat → Value) (n : Nat)   (x : A49_0) : Option (List (C .e9) × Int) := iter (fun rec S => run (X49.gh kp kh hd) (F49 n) (codeAt (bodyOf Tryd.f49) [1, 0, 1, 0, 0]) 0 S (lopK rec (blkK 0 (seqK (run (X49.gh kp kh hd) (F49 n) (codeAt (bodyOf Tryd.f49) [1, 1]) 0) (kTopW (X49.gh kp kh hd) Tryd.f49 [true, false] dec49))))) [0, 1, 5] n (s49_0  x)
theorem m49_0 (kp : Nat → Prop) (kh : Nat → Option Obj) (hd : Nat → Value) (n : Nat)   (x : A49_0) : MP49_0 kp kh hd n   x = LP49_0 n   x := by
  refine iter_eq (s49_0 ) (r49_0 n  ) (fun rec0 x => ?_) n x
  obtain ⟨x0_0, x0_1, x0_2⟩ := x
  kernel_rfl
noncomputable def G49n (n : Nat) (a0 : List (C .e9)) (a1 : Int) : Option (List (C .e9) × Int) :=
 LP49_0 n    (a0, a1, 0)
theorem t49 (kp : Nat → Prop) (kh : Nat → Option Obj) (hd : Nat → Value) (n : Nat) (a0 : List (C .e9)) (a1 : Int) : runFnW (X49.gh kp kh hd) (F49 n) Tryd.f49 [(false, [.row .e9 a0]), (false, [.int .i64 a1])] dec49 = G49n n a0 a1 := by
  refine Eq.trans (b :=
   MP49_0 kp kh hd n    (a0, a1, 0)) (by kernel_rfl) ?_
  simp only [G49n, m49_0]
noncomputable def G49 (a0 : List (C .e9)) (a1 : Int) : Option (List (C .e9) × Int) := G49n fuel a0 a1
noncomputable def con49 : ConW C := mkW KK [.row .e9, .int .i64] [.e9] [.int .i64] G49
theorem c49 : ConWOk Tryd.prog KK 49 con49 := wO (mkQ ⟨c28, trivial⟩ trivial trivial : Cons Tryd.prog X49) (fn := Tryd.f49) (by kernel_rfl) (by kernel_rfl) (by kernel_rfl) (by kernel_rfl) (F49 fuel) (by kernel_rfl) fun kp kh hd => fun a0 a1 => t49 kp kh hd fuel a0 a1
/-! ### f29 loop.example/wharfdesk/laws.markSheetLineS -/
noncomputable def X29 : Cx C := mkX [(28, con28)] [(49, con49)] [] [] 1900544
def F29 (n : Nat) : Cf := { N := n, keep := [0, 1, 4, 5, 9], live := lk [(0, [0, 1, 5])] }
noncomputable abbrev dec29 := deW KK [.e70] [.int .i64]
abbrev A29_0 : Type := List (C .e70) × Int × Int
def s29_0  : A29_0 → St C := fun (x0_0, x0_1, x0_2) => { env := [(0, .one (.ref 100000 [])), (1, .one (.int .i64 x0_1)), (5, .one (.int .i64 x0_2)), (90000, .frame), (90001, .hdr 100000 0)], objs := [(100000, .row .e70 x0_0 false)], base := 0 }
noncomputable def r29_0 (n : Nat)   (rec0 : A29_0 → Option (List (C .e70) × Int)) : A29_0 → Option (List (C .e70) × Int) := fun (x0_0, x0_1, x0_2) =>
 cond (decide (x0_2 < (x0_0.length : Int)))
 (Option.bind (G28 x0_1) fun r1 =>
 cond (decide (0 ≤ x0_2)) (cond (decide (x0_2 < (x0_0.length : Int))) (Option.bind x0_0[x0_2.toNat]? fun e2 => cond (decide (0 ≤ x0_2)) (cond (decide (x0_2 < ((x0_0.set x0_2.toNat (⟨r1, e2.Words⟩ : VSheetLine)).length : Int))) (Option.bind (x0_0.set x0_2.toNat (⟨r1, e2.Words⟩ : VSheetLine))[x0_2.toNat]? fun e3 => Option.bind (x0_0.set x0_2.toNat (⟨r1, e2.Words⟩ : VSheetLine))[x0_2.toNat]? fun e4 => Option.bind (G49 e4.Words (IntKind.i64.wrap (x0_1 + 1))) fun r5 =>
 Option.bind (x0_0.set x0_2.toNat (⟨r1, e2.Words⟩ : VSheetLine))[x0_2.toNat]? fun e6 => rec0 (((x0_0.set x0_2.toNat (⟨r1, e2.Words⟩ : VSheetLine)).set x0_2.toNat (⟨e6.Key, r5.1⟩ : VSheetLine), r5.2, IntKind.i64.wrap (x0_2 + 1)))) none) none) none) none)
 (some (x0_0, x0_1))
noncomputable def LP29_0 (n : Nat)   (x : A29_0) : Option (List (C .e70) × Int) := lpN (r29_0 n  ) n x
noncomputable def MP29_0 (kp : Nat → Prop) (kh : Nat → Option Obj) (hd : Nat → Value) (n : Nat)   (x : A29_0) : Option (List (C .e70) × Int) := iter (fun rec S => run (X29.gh kp kh hd) (F29 n) (codeAt (bodyOf Tryd.f29) [1, 0, 1, 0, 0]) 0 S (lopK rec (blkK 0 (seqK (run (X29.gh kp kh hd) (F29 n) (codeAt (bodyOf Tryd.f29) [1, 1]) 0) (kTopW (X29.gh kp kh hd) Tryd.f29 [true, false] dec29))))) [0, 1, 5] n (s29_0  x)
theorem m29_0 (kp : Nat → Prop) (kh : Nat → Option Obj) (hd : Nat → Value) (n : Nat)   (x : A29_0) : MP29_0 kp kh hd n   x = LP29_0 n   x := by
  refine iter_eq (s29_0 ) (r29_0 n  ) (fun rec0 x => ?_) n x
  obtain ⟨x0_0, x0_1, x0_2⟩ := x
  kernel_rfl
noncomputable def G29n (n : Nat) (a0 : List (C .e70)) (a1 : Int) : Option (List (C .e70) × Int) :=
 LP29_0 n    (a0, a1, 0)
theorem t29 (kp : Nat → Prop) (kh : Nat → Option Obj) (hd : Nat → Value) (n : Nat) (a0 : List (C .e70)) (a1 : Int) : runFnW (X29.gh kp kh hd) (F29 n) Tryd.f29 [(false, [.row .e70 a0]), (false, [.int .i64 a1])] dec29 = G29n n a0 a1 := by
  refine Eq.trans (b :=
   MP29_0 kp kh hd n    (a0, a1, 0)) (by kernel_rfl) ?_
  simp only [G29n, m29_0]
noncomputable def G29 (a0 : List (C .e70)) (a1 : Int) : Option (List (C .e70) × Int) := G29n fuel a0 a1
noncomputable def con29 : ConW C := mkW KK [.row .e70, .int .i64] [.e70] [.int .i64] G29
theorem c29 : ConWOk Tryd.prog KK 29 con29 := wO (mkQ ⟨c28, trivial⟩ ⟨c49, trivial⟩ trivial : Cons Tryd.prog X29) (fn := Tryd.f29) (by kernel_rfl) (by kernel_rfl) (by kernel_rfl) (by kernel_rfl) (F29 fuel) (by kernel_rfl) fun kp kh hd => fun a0 a1 => t29 kp kh hd fuel a0 a1
/-! ### f27 loop.example/wharfdesk/laws.markSheetBlockS -/
noncomputable def X27 : Cx C := mkX [(28, con28)] [(29, con29)] [] [] 1769472
def F27 (n : Nat) : Cf := { N := n, keep := [0, 1, 4, 5, 9], live := lk [(0, [0, 1, 5])] }
noncomputable abbrev dec27 := deW KK [.e42] [.int .i64]
abbrev A27_0 : Type := List (C .e42) × Int × Int
def s27_0  : A27_0 → St C := fun (x0_0, x0_1, x0_2) => { env := [(0, .one (.ref 100000 [])), (1, .one (.int .i64 x0_1)), (5, .one (.int .i64 x0_2)), (90000, .frame), (90001, .hdr 100000 0)], objs := [(100000, .row .e42 x0_0 false)], base := 0 }
noncomputable def r27_0 (n : Nat)   (rec0 : A27_0 → Option (List (C .e42) × Int)) : A27_0 → Option (List (C .e42) × Int) := fun (x0_0, x0_1, x0_2) =>
 cond (decide (x0_2 < (x0_0.length : Int)))
 (Option.bind (G28 x0_1) fun r1 =>
 cond (decide (0 ≤ x0_2)) (cond (decide (x0_2 < (x0_0.length : Int))) (Option.bind x0_0[x0_2.toNat]? fun e2 => Option.bind (G28 (IntKind.i64.wrap (x0_1 + 1))) fun r3 =>
 cond (decide (0 ≤ x0_2)) (cond (decide (x0_2 < ((x0_0.set x0_2.toNat (⟨r1, e2.Name, e2.Lines⟩ : VSheetBlock)).length : Int))) (Option.bind (x0_0.set x0_2.toNat (⟨r1, e2.Name, e2.Lines⟩ : VSheetBlock))[x0_2.toNat]? fun e4 => cond (decide (0 ≤ x0_2)) (cond (decide (x0_2 < (((x0_0.set x0_2.toNat (⟨r1, e2.Name, e2.Lines⟩ : VSheetBlock)).set x0_2.toNat (⟨e4.Kind, r3, e4.Lines⟩ : VSheetBlock)).length : Int))) (Option.bind ((x0_0.set x0_2.toNat (⟨r1, e2.Name, e2.Lines⟩ : VSheetBlock)).set x0_2.toNat (⟨e4.Kind, r3, e4.Lines⟩ : VSheetBlock))[x0_2.toNat]? fun e5 => Option.bind ((x0_0.set x0_2.toNat (⟨r1, e2.Name, e2.Lines⟩ : VSheetBlock)).set x0_2.toNat (⟨e4.Kind, r3, e4.Lines⟩ : VSheetBlock))[x0_2.toNat]? fun e6 => Option.bind (G29 e6.Lines (IntKind.i64.wrap ((IntKind.i64.wrap (x0_1 + 1)) + 1))) fun r7 =>
 Option.bind ((x0_0.set x0_2.toNat (⟨r1, e2.Name, e2.Lines⟩ : VSheetBlock)).set x0_2.toNat (⟨e4.Kind, r3, e4.Lines⟩ : VSheetBlock))[x0_2.toNat]? fun e8 => rec0 ((((x0_0.set x0_2.toNat (⟨r1, e2.Name, e2.Lines⟩ : VSheetBlock)).set x0_2.toNat (⟨e4.Kind, r3, e4.Lines⟩ : VSheetBlock)).set x0_2.toNat (⟨e8.Kind, e8.Name, r7.1⟩ : VSheetBlock), r7.2, IntKind.i64.wrap (x0_2 + 1)))) none) none) none) none) none) none)
 (some (x0_0, x0_1))
noncomputable def LP27_0 (n : Nat)   (x : A27_0) : Option (List (C .e42) × Int) := lpN (r27_0 n  ) n x
noncomputable def MP27_0 (kp : Nat → Prop) (kh : Nat → Option Obj) (hd : Nat → Value) (n : Nat)   (x : A27_0) : Option (List (C .e42) × Int) := iter (fun rec S => run (X27.gh kp kh hd) (F27 n) (codeAt (bodyOf Tryd.f27) [1, 0, 1, 0, 0]) 0 S (lopK rec (blkK 0 (seqK (run (X27.gh kp kh hd) (F27 n) (codeAt (bodyOf Tryd.f27) [1, 1]) 0) (kTopW (X27.gh kp kh hd) Tryd.f27 [true, false] dec27))))) [0, 1, 5] n (s27_0  x)
theorem m27_0 (kp : Nat → Prop) (kh : Nat → Option Obj) (hd : Nat → Value) (n : Nat)   (x : A27_0) : MP27_0 kp kh hd n   x = LP27_0 n   x := by
  refine iter_eq (s27_0 ) (r27_0 n  ) (fun rec0 x => ?_) n x
  obtain ⟨x0_0, x0_1, x0_2⟩ := x
  kernel_rfl
noncomputable def G27n (n : Nat) (a0 : List (C .e42)) (a1 : Int) : Option (List (C .e42) × Int) :=
 LP27_0 n    (a0, a1, 0)
theorem t27 (kp : Nat → Prop) (kh : Nat → Option Obj) (hd : Nat → Value) (n : Nat) (a0 : List (C .e42)) (a1 : Int) : runFnW (X27.gh kp kh hd) (F27 n) Tryd.f27 [(false, [.row .e42 a0]), (false, [.int .i64 a1])] dec27 = G27n n a0 a1 := by
  refine Eq.trans (b :=
   MP27_0 kp kh hd n    (a0, a1, 0)) (by kernel_rfl) ?_
  simp only [G27n, m27_0]
noncomputable def G27 (a0 : List (C .e42)) (a1 : Int) : Option (List (C .e42) × Int) := G27n fuel a0 a1
noncomputable def con27 : ConW C := mkW KK [.row .e42, .int .i64] [.e42] [.int .i64] G27
theorem c27 : ConWOk Tryd.prog KK 27 con27 := wO (mkQ ⟨c28, trivial⟩ ⟨c29, trivial⟩ trivial : Cons Tryd.prog X27) (fn := Tryd.f27) (by kernel_rfl) (by kernel_rfl) (by kernel_rfl) (by kernel_rfl) (F27 fuel) (by kernel_rfl) fun kp kh hd => fun a0 a1 => t27 kp kh hd fuel a0 a1
/-! ### f10 loop.example/wharfdesk/laws.markSheet -/
noncomputable def X10 : Cx C := mkX [] [(27, con27)] [] [] 655360
def F10 (n : Nat) : Cf := { N := n, keep := [0, 1, 2, 4], live := lk [] }
noncomputable abbrev dec10 := deW KK [.e42] [.int .i64]
noncomputable def G10n (n : Nat) (a0 : VSheet) (a1 : Int) : Option (List (C .e42) × Int) :=
 Option.bind (G27 a0.Blocks a1) fun r1 =>
 some (r1.1, r1.2)
theorem t10 (kp : Nat → Prop) (kh : Nat → Option Obj) (hd : Nat → Value) (n : Nat) (a0 : VSheet) (a1 : Int) : runFnW (X10.gh kp kh hd) (F10 n) Tryd.f10 [(true, [.row .e42 a0.Blocks]), (false, [.int .i64 a1])] dec10 = G10n n a0 a1 := by
  kernel_rfl
noncomputable def G10 (a0 : VSheet) (a1 : Int) : Option (List (C .e42) × Int) := G10n fuel a0 a1
noncomputable def con10 : ConW C := mkW KK [.el .e30, .int .i64] [.e42] [.int .i64] G10
theorem c10 : ConWOk Tryd.prog KK 10 con10 := wO (mkQ trivial ⟨c27, trivial⟩ trivial : Cons Tryd.prog X10) (fn := Tryd.f10) (by kernel_rfl) (by kernel_rfl) (by kernel_rfl) (by kernel_rfl) (F10 fuel) (by kernel_rfl) fun kp kh hd => fun a0 a1 => t10 kp kh hd fuel a0 a1
/-! ### f11 loop.example/wharfdesk/laws.markSheetChangeS -/
noncomputable def X11 : Cx C := mkX [(28, con28)] [(29, con29)] [] [] 720896
def F11 (n : Nat) : Cf := { N := n, keep := [0, 1, 4, 5, 9], live := lk [(0, [0, 1, 5])] }
noncomputable abbrev dec11 := deW KK [.e44] [.int .i64]
abbrev A11_0 : Type := List (C .e44) × Int × Int
def s11_0  : A11_0 → St C := fun (x0_0, x0_1, x0_2) => { env := [(0, .one (.ref 100000 [])), (1, .one (.int .i64 x0_1)), (5, .one (.int .i64 x0_2)), (90000, .frame), (90001, .hdr 100000 0)], objs := [(100000, .row .e44 x0_0 false)], base := 0 }
noncomputable def r11_0 (n : Nat)   (rec0 : A11_0 → Option (List (C .e44) × Int)) : A11_0 → Option (List (C .e44) × Int) := fun (x0_0, x0_1, x0_2) =>
 cond (decide (x0_2 < (x0_0.length : Int)))
 (cond (decide (0 ≤ x0_2)) (cond (decide (x0_2 < (x0_0.length : Int))) (Option.bind x0_0[x0_2.toNat]? fun e1 => Option.bind (G28 (IntKind.i64.wrap (x0_1 + 1))) fun r2 =>
 cond (decide (0 ≤ x0_2)) (cond (decide (x0_2 < ((x0_0.set x0_2.toNat (⟨x0_1, e1.Kind, e1.Name, e1.Key, e1.Lines⟩ : VSheetChange)).length : Int))) (Option.bind (x0_0.set x0_2.toNat (⟨x0_1, e1.Kind, e1.Name, e1.Key, e1.Lines⟩ : VSheetChange))[x0_2.toNat]? fun e3 => Option.bind (G28 (IntKind.i64.wrap ((IntKind.i64.wrap (x0_1 + 1)) + 1))) fun r4 =>
 cond (decide (0 ≤ x0_2)) (cond (decide (x0_2 < (((x0_0.set x0_2.toNat (⟨x0_1, e1.Kind, e1.Name, e1.Key, e1.Lines⟩ : VSheetChange)).set x0_2.toNat (⟨e3.What, r2, e3.Name, e3.Key, e3.Lines⟩ : VSheetChange)).length : Int))) (Option.bind ((x0_0.set x0_2.toNat (⟨x0_1, e1.Kind, e1.Name, e1.Key, e1.Lines⟩ : VSheetChange)).set x0_2.toNat (⟨e3.What, r2, e3.Name, e3.Key, e3.Lines⟩ : VSheetChange))[x0_2.toNat]? fun e5 => Option.bind (G28 (IntKind.i64.wrap ((IntKind.i64.wrap ((IntKind.i64.wrap (x0_1 + 1)) + 1)) + 1))) fun r6 =>
 cond (decide (0 ≤ x0_2)) (cond (decide (x0_2 < ((((x0_0.set x0_2.toNat (⟨x0_1, e1.Kind, e1.Name, e1.Key, e1.Lines⟩ : VSheetChange)).set x0_2.toNat (⟨e3.What, r2, e3.Name, e3.Key, e3.Lines⟩ : VSheetChange)).set x0_2.toNat (⟨e5.What, e5.Kind, r4, e5.Key, e5.Lines⟩ : VSheetChange)).length : Int))) (Option.bind (((x0_0.set x0_2.toNat (⟨x0_1, e1.Kind, e1.Name, e1.Key, e1.Lines⟩ : VSheetChange)).set x0_2.toNat (⟨e3.What, r2, e3.Name, e3.Key, e3.Lines⟩ : VSheetChange)).set x0_2.toNat (⟨e5.What, e5.Kind, r4, e5.Key, e5.Lines⟩ : VSheetChange))[x0_2.toNat]? fun e7 => cond (decide (0 ≤ x0_2)) (cond (decide (x0_2 < (((((x0_0.set x0_2.toNat (⟨x0_1, e1.Kind, e1.Name, e1.Key, e1.Lines⟩ : VSheetChange)).set x0_2.toNat (⟨e3.What, r2, e3.Name, e3.Key, e3.Lines⟩ : VSheetChange)).set x0_2.toNat (⟨e5.What, e5.Kind, r4, e5.Key, e5.Lines⟩ : VSheetChange)).set x0_2.toNat (⟨e7.What, e7.Kind, e7.Name, r6, e7.Lines⟩ : VSheetChange)).length : Int))) (Option.bind ((((x0_0.set x0_2.toNat (⟨x0_1, e1.Kind, e1.Name, e1.Key, e1.Lines⟩ : VSheetChange)).set x0_2.toNat (⟨e3.What, r2, e3.Name, e3.Key, e3.Lines⟩ : VSheetChange)).set x0_2.toNat (⟨e5.What, e5.Kind, r4, e5.Key, e5.Lines⟩ : VSheetChange)).set x0_2.toNat (⟨e7.What, e7.Kind, e7.Name, r6, e7.Lines⟩ : VSheetChange))[x0_2.toNat]? fun e8 => Option.bind ((((x0_0.set x0_2.toNat (⟨x0_1, e1.Kind, e1.Name, e1.Key, e1.Lines⟩ : VSheetChange)).set x0_2.toNat (⟨e3.What, r2, e3.Name, e3.Key, e3.Lines⟩ : VSheetChange)).set x0_2.toNat (⟨e5.What, e5.Kind, r4, e5.Key, e5.Lines⟩ : VSheetChange)).set x0_2.toNat (⟨e7.What, e7.Kind, e7.Name, r6, e7.Lines⟩ : VSheetChange))[x0_2.toNat]? fun e9 => Option.bind (G29 e9.Lines (IntKind.i64.wrap ((IntKind.i64.wrap ((IntKind.i64.wrap ((IntKind.i64.wrap (x0_1 + 1)) + 1)) + 1)) + 1))) fun r10 =>
 Option.bind ((((x0_0.set x0_2.toNat (⟨x0_1, e1.Kind, e1.Name, e1.Key, e1.Lines⟩ : VSheetChange)).set x0_2.toNat (⟨e3.What, r2, e3.Name, e3.Key, e3.Lines⟩ : VSheetChange)).set x0_2.toNat (⟨e5.What, e5.Kind, r4, e5.Key, e5.Lines⟩ : VSheetChange)).set x0_2.toNat (⟨e7.What, e7.Kind, e7.Name, r6, e7.Lines⟩ : VSheetChange))[x0_2.toNat]? fun e11 => rec0 ((((((x0_0.set x0_2.toNat (⟨x0_1, e1.Kind, e1.Name, e1.Key, e1.Lines⟩ : VSheetChange)).set x0_2.toNat (⟨e3.What, r2, e3.Name, e3.Key, e3.Lines⟩ : VSheetChange)).set x0_2.toNat (⟨e5.What, e5.Kind, r4, e5.Key, e5.Lines⟩ : VSheetChange)).set x0_2.toNat (⟨e7.What, e7.Kind, e7.Name, r6, e7.Lines⟩ : VSheetChange)).set x0_2.toNat (⟨e11.What, e11.Kind, e11.Name, e11.Key, r10.1⟩ : VSheetChange), r10.2, IntKind.i64.wrap (x0_2 + 1)))) none) none) none) none) none) none) none) none) none) none)
 (some (x0_0, x0_1))
noncomputable def LP11_0 (n : Nat)   (x : A11_0) : Option (List (C .e44) × Int) := lpN (r11_0 n  ) n x
noncomputable def MP11_0 (kp : Nat → Prop) (kh : Nat → Option Obj) (hd : Nat → Value) (n : Nat)   (x : A11_0) : Option (List (C .e44) × Int) := iter (fun rec S => run (X11.gh kp kh hd) (F11 n) (codeAt (bodyOf Tryd.f11) [1, 0, 1, 0, 0]) 0 S (lopK rec (blkK 0 (seqK (run (X11.gh kp kh hd) (F11 n) (codeAt (bodyOf Tryd.f11) [1, 1]) 0) (kTopW (X11.gh kp kh hd) Tryd.f11 [true, false] dec11))))) [0, 1, 5] n (s11_0  x)
theorem m11_0 (kp : Nat → Prop) (kh : Nat → Option Obj) (hd : Nat → Value) (n : Nat)   (x : A11_0) : MP11_0 kp kh hd n   x = LP11_0 n   x := by
  refine iter_eq (s11_0 ) (r11_0 n  ) (fun rec0 x => ?_) n x
  obtain ⟨x0_0, x0_1, x0_2⟩ := x
  kernel_rfl
noncomputable def G11n (n : Nat) (a0 : List (C .e44)) (a1 : Int) : Option (List (C .e44) × Int) :=
 LP11_0 n    (a0, a1, 0)
theorem t11 (kp : Nat → Prop) (kh : Nat → Option Obj) (hd : Nat → Value) (n : Nat) (a0 : List (C .e44)) (a1 : Int) : runFnW (X11.gh kp kh hd) (F11 n) Tryd.f11 [(false, [.row .e44 a0]), (false, [.int .i64 a1])] dec11 = G11n n a0 a1 := by
  refine Eq.trans (b :=
   MP11_0 kp kh hd n    (a0, a1, 0)) (by kernel_rfl) ?_
  simp only [G11n, m11_0]
noncomputable def G11 (a0 : List (C .e44)) (a1 : Int) : Option (List (C .e44) × Int) := G11n fuel a0 a1
noncomputable def con11 : ConW C := mkW KK [.row .e44, .int .i64] [.e44] [.int .i64] G11
theorem c11 : ConWOk Tryd.prog KK 11 con11 := wO (mkQ ⟨c28, trivial⟩ ⟨c29, trivial⟩ trivial : Cons Tryd.prog X11) (fn := Tryd.f11) (by kernel_rfl) (by kernel_rfl) (by kernel_rfl) (by kernel_rfl) (F11 fuel) (by kernel_rfl) fun kp kh hd => fun a0 a1 => t11 kp kh hd fuel a0 a1
/-! ### f50 loop.example/wharfdesk/laws.heldStringS -/
noncomputable def X50 : Cx C := mkX [(28, con28)] [] [] [] 3276800
def F50 (n : Nat) : Cf := { N := n, keep := [0, 1, 4, 5, 9, 18], live := lk [(0, [0, 1, 5])] }
noncomputable abbrev dec50 := deR KK [.int .i64]
abbrev A50_0 : Type := List (C .e9) × Int × Int
def s50_0  : A50_0 → St C := fun (x0_0, x0_1, x0_2) => { env := [(0, .one (.row .e9 x0_0)), (1, .one (.int .i64 x0_1)), (5, .one (.int .i64 x0_2))], objs := [], base := 0 }
noncomputable def r50_0 (n : Nat)   (rec0 : A50_0 → Option (Int)) : A50_0 → Option (Int) := fun (x0_0, x0_1, x0_2) =>
 cond (decide (x0_2 < (x0_0.length : Int)))
 (cond (decide (0 ≤ x0_2)) (Option.bind x0_0[x0_2.toNat]? fun e1 => Option.bind (G28 x0_1) fun r2 =>
 cond (!decide (e1 = r2))
 (some ((-1)))
 (rec0 ((x0_0, IntKind.i64.wrap (x0_1 + 1), IntKind.i64.wrap (x0_2 + 1))))) none)
 (some (x0_1))
noncomputable def LP50_0 (n : Nat)   (x : A50_0) : Option (Int) := lpN (r50_0 n  ) n x
noncomputable def MP50_0 (n : Nat)   (x : A50_0) : Option (Int) := iter (fun rec S => run X50 (F50 n) (codeAt (bodyOf Tryd.f50) [1, 0, 1, 0, 0]) 0 S (lopK rec (blkK 0 (seqK (run X50 (F50 n) (codeAt (bodyOf Tryd.f50) [1, 1]) 0) (kTop X50 Tryd.f50 dec50))))) [0, 1, 5] n (s50_0  x)
theorem m50_0 (n : Nat)   (x : A50_0) : MP50_0 n   x = LP50_0 n   x := by
  refine iter_eq (s50_0 ) (r50_0 n  ) (fun rec0 x => ?_) n x
  obtain ⟨x0_0, x0_1, x0_2⟩ := x
  kernel_rfl
noncomputable def G50n (n : Nat) (a0 : List (C .e9)) (a1 : Int) : Option (Int) :=
 LP50_0 n    (a0, a1, 0)
theorem t50 (n : Nat) (a0 : List (C .e9)) (a1 : Int) : runFn X50 (F50 n) Tryd.f50 [.one (.row .e9 a0), .one (.int .i64 a1)] dec50 = G50n n a0 a1 := by
  refine Eq.trans (b :=
   MP50_0 n    (a0, a1, 0)) (by kernel_rfl) ?_
  simp only [G50n, m50_0]
noncomputable def G50 (a0 : List (C .e9)) (a1 : Int) : Option (Int) := G50n fuel a0 a1
noncomputable def con50 : Con C := mkC KK [.row .e9, .int .i64] [.int .i64] G50
theorem c50 : ConOk Tryd.prog KK 50 con50 := cO (mkQ ⟨c28, trivial⟩ trivial trivial : Cons Tryd.prog X50) (fn := Tryd.f50) (by kernel_rfl) (by kernel_rfl) (by kernel_rfl) (by kernel_rfl) (F50 fuel) (by kernel_rfl) (fun a0 a1 => t50 fuel a0 a1)
/-! ### f30 loop.example/wharfdesk/laws.heldSheetLineS -/
noncomputable def X30 : Cx C := mkX [(28, con28), (50, con50)] [] [] [] 1966080
def F30 (n : Nat) : Cf := { N := n, keep := [0, 1, 4, 5, 9, 19, 30], live := lk [(0, [0, 1, 5])] }
noncomputable abbrev dec30 := deR KK [.int .i64]
abbrev A30_0 : Type := List (C .e70) × Int × Int
def s30_0  : A30_0 → St C := fun (x0_0, x0_1, x0_2) => { env := [(0, .one (.row .e70 x0_0)), (1, .one (.int .i64 x0_1)), (5, .one (.int .i64 x0_2))], objs := [], base := 0 }
noncomputable def r30_0 (n : Nat)   (rec0 : A30_0 → Option (Int)) : A30_0 → Option (Int) := fun (x0_0, x0_1, x0_2) =>
 cond (decide (x0_2 < (x0_0.length : Int)))
 (cond (decide (0 ≤ x0_2)) (Option.bind x0_0[x0_2.toNat]? fun e1 => Option.bind (G28 x0_1) fun r2 =>
 cond (!decide (e1.Key = r2))
 (some ((-1)))
 (cond (decide (0 ≤ x0_2)) (Option.bind x0_0[x0_2.toNat]? fun e3 => Option.bind (G50 e3.Words (IntKind.i64.wrap (x0_1 + 1))) fun r4 =>
 cond (decide (r4 < 0))
 (some ((-1)))
 (rec0 ((x0_0, r4, IntKind.i64.wrap (x0_2 + 1))))) none)) none)
 (some (x0_1))
noncomputable def LP30_0 (n : Nat)   (x : A30_0) : Option (Int) := lpN (r30_0 n  ) n x
noncomputable def MP30_0 (n : Nat)   (x : A30_0) : Option (Int) := iter (fun rec S => run X30 (F30 n) (codeAt (bodyOf Tryd.f30) [1, 0, 1, 0, 0]) 0 S (lopK rec (blkK 0 (seqK (run X30 (F30 n) (codeAt (bodyOf Tryd.f30) [1, 1]) 0) (kTop X30 Tryd.f30 dec30))))) [0, 1, 5] n (s30_0  x)
theorem m30_0 (n : Nat)   (x : A30_0) : MP30_0 n   x = LP30_0 n   x := by
  refine iter_eq (s30_0 ) (r30_0 n  ) (fun rec0 x => ?_) n x
  obtain ⟨x0_0, x0_1, x0_2⟩ := x
  kernel_rfl
noncomputable def G30n (n : Nat) (a0 : List (C .e70)) (a1 : Int) : Option (Int) :=
 LP30_0 n    (a0, a1, 0)
theorem t30 (n : Nat) (a0 : List (C .e70)) (a1 : Int) : runFn X30 (F30 n) Tryd.f30 [.one (.row .e70 a0), .one (.int .i64 a1)] dec30 = G30n n a0 a1 := by
  refine Eq.trans (b :=
   MP30_0 n    (a0, a1, 0)) (by kernel_rfl) ?_
  simp only [G30n, m30_0]
noncomputable def G30 (a0 : List (C .e70)) (a1 : Int) : Option (Int) := G30n fuel a0 a1
noncomputable def con30 : Con C := mkC KK [.row .e70, .int .i64] [.int .i64] G30
theorem c30 : ConOk Tryd.prog KK 30 con30 := cO (mkQ ⟨c28, c50, trivial⟩ trivial trivial : Cons Tryd.prog X30) (fn := Tryd.f30) (by kernel_rfl) (by kernel_rfl) (by kernel_rfl) (by kernel_rfl) (F30 fuel) (by kernel_rfl) (fun a0 a1 => t30 fuel a0 a1)
/-! ### f12 loop.example/wharfdesk/laws.heldSheetChangeS -/
noncomputable def X12 : Cx C := mkX [(28, con28), (30, con30)] [] [] [] 786432
def F12 (n : Nat) : Cf := { N := n, keep := [0, 1, 4, 5, 9, 18, 28, 38, 48, 59], live := lk [(0, [0, 1, 5])] }
noncomputable abbrev dec12 := deR KK [.int .i64]
abbrev A12_0 : Type := List (C .e44) × Int × Int
def s12_0  : A12_0 → St C := fun (x0_0, x0_1, x0_2) => { env := [(0, .one (.row .e44 x0_0)), (1, .one (.int .i64 x0_1)), (5, .one (.int .i64 x0_2))], objs := [], base := 0 }
noncomputable def r12_0 (n : Nat)   (rec0 : A12_0 → Option (Int)) : A12_0 → Option (Int) := fun (x0_0, x0_1, x0_2) =>
 cond (decide (x0_2 < (x0_0.length : Int)))
 (cond (decide (0 ≤ x0_2)) (Option.bind x0_0[x0_2.toNat]? fun e1 => cond (e1.What != x0_1)
 (some ((-1)))
 (cond (decide (0 ≤ x0_2)) (Option.bind x0_0[x0_2.toNat]? fun e2 => Option.bind (G28 (IntKind.i64.wrap (x0_1 + 1))) fun r3 =>
 cond (!decide (e2.Kind = r3))
 (some ((-1)))
 (cond (decide (0 ≤ x0_2)) (Option.bind x0_0[x0_2.toNat]? fun e4 => Option.bind (G28 (IntKind.i64.wrap ((IntKind.i64.wrap (x0_1 + 1)) + 1))) fun r5 =>
 cond (!decide (e4.Name = r5))
 (some ((-1)))
 (cond (decide (0 ≤ x0_2)) (Option.bind x0_0[x0_2.toNat]? fun e6 => Option.bind (G28 (IntKind.i64.wrap ((IntKind.i64.wrap ((IntKind.i64.wrap (x0_1 + 1)) + 1)) + 1))) fun r7 =>
 cond (!decide (e6.Key = r7))
 (some ((-1)))
 (cond (decide (0 ≤ x0_2)) (Option.bind x0_0[x0_2.toNat]? fun e8 => Option.bind (G30 e8.Lines (IntKind.i64.wrap ((IntKind.i64.wrap ((IntKind.i64.wrap ((IntKind.i64.wrap (x0_1 + 1)) + 1)) + 1)) + 1))) fun r9 =>
 cond (decide (r9 < 0))
 (some ((-1)))
 (rec0 ((x0_0, r9, IntKind.i64.wrap (x0_2 + 1))))) none)) none)) none)) none)) none)
 (some (x0_1))
noncomputable def LP12_0 (n : Nat)   (x : A12_0) : Option (Int) := lpN (r12_0 n  ) n x
noncomputable def MP12_0 (n : Nat)   (x : A12_0) : Option (Int) := iter (fun rec S => run X12 (F12 n) (codeAt (bodyOf Tryd.f12) [1, 0, 1, 0, 0]) 0 S (lopK rec (blkK 0 (seqK (run X12 (F12 n) (codeAt (bodyOf Tryd.f12) [1, 1]) 0) (kTop X12 Tryd.f12 dec12))))) [0, 1, 5] n (s12_0  x)
theorem m12_0 (n : Nat)   (x : A12_0) : MP12_0 n   x = LP12_0 n   x := by
  refine iter_eq (s12_0 ) (r12_0 n  ) (fun rec0 x => ?_) n x
  obtain ⟨x0_0, x0_1, x0_2⟩ := x
  kernel_rfl
noncomputable def G12n (n : Nat) (a0 : List (C .e44)) (a1 : Int) : Option (Int) :=
 LP12_0 n    (a0, a1, 0)
theorem t12 (n : Nat) (a0 : List (C .e44)) (a1 : Int) : runFn X12 (F12 n) Tryd.f12 [.one (.row .e44 a0), .one (.int .i64 a1)] dec12 = G12n n a0 a1 := by
  refine Eq.trans (b :=
   MP12_0 n    (a0, a1, 0)) (by kernel_rfl) ?_
  simp only [G12n, m12_0]
noncomputable def G12 (a0 : List (C .e44)) (a1 : Int) : Option (Int) := G12n fuel a0 a1
noncomputable def con12 : Con C := mkC KK [.row .e44, .int .i64] [.int .i64] G12
theorem c12 : ConOk Tryd.prog KK 12 con12 := cO (mkQ ⟨c28, c30, trivial⟩ trivial trivial : Cons Tryd.prog X12) (fn := Tryd.f12) (by kernel_rfl) (by kernel_rfl) (by kernel_rfl) (by kernel_rfl) (F12 fuel) (by kernel_rfl) (fun a0 a1 => t12 fuel a0 a1)
/-! ### f3 loop.example/wharfdesk/laws.FnExactSheetDiff -/
noncomputable def X3 : Cx C := mkX [(4, con4), (5, con5), (6, con6), (7, con7), (8, con8), (9, con9), (12, con12)] [(10, con10), (11, con11)] [] [] 196608
def F3 (n : Nat) : Cf := { N := n, keep := [0, 1, 2, 3, 4, 5, 6, 7, 8, 9, 10, 11, 12, 13, 18, 23, 39, 44, 49, 63, 71, 74, 83, 88, 91], live := lk [] }
noncomputable abbrev dec3 := deR KK [.bool]
noncomputable def G3n (n : Nat) (a0 : VSheet) (a1 : VSheet) : Option (Bool) :=
 Option.bind (G4 a0 1048576) fun r1 =>
 cond (decide (r1 < 0))
 (some (true))
 (Option.bind (G4 a1 r1) fun r2 =>
 cond (decide (r2 < 0))
 (some (true))
 (Option.bind (G6 a0) fun r3 =>
 Option.bind (G6 a1) fun r4 =>
 Option.bind (G5 r3 r4) fun r5 =>
 Option.bind (G6 a0) fun r6 =>
 Option.bind (G6 a1) fun r7 =>
 Option.bind (G7 r6 r7) fun r8 =>
 Option.bind (G8 r8 r5) fun r9 =>
 cond (!r9)
 (some (false))
 (Option.bind (G6 a0) fun r10 =>
 Option.bind (G9 r6 r10) fun r11 =>
 cond (!r11)
 (some (false))
 (Option.bind (G6 a1) fun r12 =>
 Option.bind (G9 r7 r12) fun r13 =>
 cond (!r13)
 (some (false))
 (Option.bind (G10 r6 1) fun r14 =>
 Option.bind (G10 r7 r14.2) fun r15 =>
 cond (decide (r15.2 < 0))
 (some (false))
 (Option.bind (G8 r8 r5) fun r16 =>
 cond (!r16)
 (some (false))
 (Option.bind (G11 r8 1) fun r17 =>
 Option.bind (G12 r17.1 1) fun r18 =>
 cond (decide (r18 < 0))
 (some (false))
 (cond (r18 != r17.2)
 (some (false))
 (Option.bind (G6 a0) fun r19 =>
 Option.bind (G6 a1) fun r20 =>
 Option.bind (G7 r19 r20) fun r21 =>
 Option.bind (G8 r21 r5) fun r22 =>
 cond (!r22)
 (some (false))
 (Option.bind (G12 r17.1 1) fun r23 =>
 cond (decide (r23 < 0))
 (some (false))
 (cond (r23 != r17.2)
 (some (false))
 (some (true)))))))))))))
theorem t3 (n : Nat) (a0 : VSheet) (a1 : VSheet) : runFn X3 (F3 n) Tryd.f3 [.agg [.row .e65 a0.Blocks], .agg [.row .e65 a1.Blocks]] dec3 = G3n n a0 a1 := by
  kernel_rfl
noncomputable def G3 (a0 : VSheet) (a1 : VSheet) : Option (Bool) := G3n fuel a0 a1
noncomputable def con3 : Con C := mkC KK [.el .e24, .el .e24] [.bool] G3
theorem c3 : ConOk Tryd.prog KK 3 con3 := cO (mkQ ⟨c4, c5, c6, c7, c8, c9, c12, trivial⟩ ⟨c10, c11, trivial⟩ trivial : Cons Tryd.prog X3) (fn := Tryd.f3) (by kernel_rfl) (by kernel_rfl) (by kernel_rfl) (by kernel_rfl) (F3 fuel) (by kernel_rfl) (fun a0 a1 => t3 fuel a0 a1)

end Go.Proofs.YtadopcpehgblcaaDoor.Ab

/- The plain law of SheetDiff: sheets that are valid. -/
set_option linter.unusedVariables false
set_option linter.unusedSimpArgs false
namespace Go.Proofs.YtadopcpehgblcaaDoor.Ab
open Go Go.RowKit

theorem keys9 (a b : ByteArray) : keysEq (KK.enc .e9 a) (KK.enc .e9 b) = decide (a = b) := rfl
theorem mval_put (z x : ByteArray) (y : Int) (c : Nat) : ∀ m : List (Nat × ByteArray × Int), mval KK .e9 .e3 z (mput KK .e9 .e3 x y c m) = if z = x then y else mval KK .e9 .e3 z m
  | [] => by
    simp only [mput, mval, mget, keys9]
    by_cases h : z = x
    · subst h; simp
    · have : ¬ x = z := fun e => h e.symm
      simp [h, this]
  | e :: r => by
    have ih := mval_put z x y c r
    simp only [mput, keys9]
    by_cases h1 : e.2.1 = x
    · simp only [h1, decide_true, cond_true]
      by_cases h : z = x
      · subst h; simp [mval, mget, keys9]
      · have : ¬ x = z := fun e => h e.symm
        simp [mval, mget, keys9, h, this, h1]
    · simp only [h1, decide_false, cond_false]
      by_cases h2 : e.2.1 = z
      · have : ¬ z = x := fun e' => h1 (h2.trans e')
        simp [mval, mget, keys9, h2, this]
      · have e1 : ∀ m, mval KK .e9 .e3 z (e :: m) = mval KK .e9 .e3 z m := fun m => by simp [mval, mget, keys9, h2]
        rw [e1, e1, ih]

theorem allN_iff {p : Nat → Bool} {len i : Nat} : allN p len i = true ↔ ∀ j, i ≤ j → j < len → p j = true := by
  unfold allN
  rw [List.all_eq_true]
  constructor
  · intro h j h1 h2; exact h j (by rw [List.mem_range'_1]; omega)
  · intro h j hj; rw [List.mem_range'_1] at hj; exact h j (by omega) (by omega)
/-! ### Lines -/
def Lok (l : VSheetLine) : Prop := l.Words.length ≤ 1048576 ∧ ∀ w ∈ l.Words, w.size ≤ 281474976710656
def line0 : VSheetLine := ⟨⟨#[]⟩, []⟩
def cntK (xs : List VSheetLine) (key : ByteArray) (m : Nat) : Nat := (xs.take m).countP fun l => decide (l.Key = key)
theorem cnt_step {xs : List VSheetLine} {key : ByteArray} {m : Nat} (h : m < xs.length) : cntK xs key (m + 1) = cntK xs key m + cond (decide (xs[m].Key = key)) 1 0 := by
  unfold cntK
  rw [List.take_succ_eq_append_getElem h, List.countP_append]
  by_cases e : xs[m].Key = key <;> simp [e]
theorem cnt_le (xs : List VSheetLine) (key : ByteArray) (m : Nat) : cntK xs key m ≤ m := by
  unfold cntK
  exact Nat.le_trans List.countP_le_length (by simp; omega)
def badN (many : Bool) (n : Nat) : Bool := (!many && decide ((n : Int) > 1)) || decide ((n : Int) > 10)
theorem bad_cond {R : Type} (many : Bool) (n : Nat) (a b : R) : cond (!many) (cond (decide ((n : Int) > 1)) a (cond (decide ((n : Int) > 10)) a b)) (cond (decide ((n : Int) > 10)) a b) = cond (badN many n) a b := by
  unfold badN
  cases many <;> cases decide ((n : Int) > 1) <;> cases decide ((n : Int) > 10) <;> rfl
def lnB (k : ByteArray) (xs : List VSheetLine) (i : Nat) : Bool :=
  fiB k (xs.getD i line0).Key (xs.getD i line0).Words && ((decide (i = 0) || liB k (xs.getD (i - 1) line0) (xs.getD i line0)) && !badN (ruleR k (xs.getD i line0).Key).Many (cntK xs (xs.getD i line0).Key (i + 1)))
theorem lnB_at {k : ByteArray} {xs : List VSheetLine} {i : Nat} (h : i < xs.length) : lnB k xs i = (fiB k xs[i].Key xs[i].Words && ((decide (i = 0) || liB k (xs.getD (i - 1) line0) xs[i]) && !badN (ruleR k xs[i].Key).Many (cntK xs xs[i].Key (i + 1)))) := by
  have : xs.getD i line0 = xs[i] := by simp [h]
  unfold lnB
  rw [this]
def linesB (k : ByteArray) (xs : List VSheetLine) : Bool := allN (lnB k xs) xs.length 0
theorem fi_pos {k key : ByteArray} {ws : List ByteArray} (h : fiB k key ws = true) : ∃ i : Nat, ∃ hi : i < (rulesOf k).length, posR k key = (i : Int) ∧ ruleR k key = (rulesOf k)[i] := by
  rcases pos_cases k key with h' | ⟨i, hi, h1, h2, _⟩
  · unfold fiB at h
    rw [h'] at h
    cases h
  · exact ⟨i, hi, h1, h2⟩
theorem lp34in {xs : List VSheetLine} (hl : xs.length ≤ 1048576) {i : Nat} (hi : i < xs.length) (many : Bool) (rec0 : A34_0 → Option Bool) : lpN (r34_1 xs (i : Int) many fuel rec0) fuel (0, 0) = cond (badN many (cntK xs xs[i].Key (i + 1))) (some false) (rec0 (IntKind.i64.wrap ((i : Int) + 1))) :=
  lp_idx (rnd := r34_1 xs (i : Int) many fuel rec0) (st := fun m => ((cntK xs xs[i].Key m : Int), ((m : Nat) : Int))) (val := fun _ => cond (badN many (cntK xs xs[i].Key (i + 1))) (some false) (rec0 (IntKind.i64.wrap ((i : Int) + 1)))) (i + 1) (fun rec => by
    have h1 : ¬ ((i + 1 : Nat) : Int) ≤ (i : Int) := by omega
    simp only [r34_1, h1, decide_false, cond_false]
    exact bad_cond ..) (fun rec m hm hr => by
    have h1 : (m : Int) ≤ (i : Int) := by omega
    have hmx : m < xs.length := by omega
    have hc := cnt_le xs xs[i].Key m
    have hs := cnt_step (key := xs[i].Key) hmx
    have hw := wrap_nat (i := m) (by omega)
    have hw2 := wrap_nat (i := cntK xs xs[i].Key m) (by omega)
    simp only [r34_1, h1, decide_true, cond_true, Int.natCast_nonneg, get_cast hmx, get_cast hi, Option.bind_some, hw, hw2]
    cases hd : decide (xs[m].Key = xs[i].Key) with
    | true => rw [hd] at hs; simp only [cond_true] at hs ⊢; rw [hs] at hr; exact hr
    | false => rw [hd] at hs; simp only [cond_false, Nat.add_zero] at hs ⊢; rw [hs] at hr; exact hr) fuel 0 (Nat.zero_le _) (by have := fuel_big; omega)
theorem g34 (k : ByteArray) {xs : List VSheetLine} (hl : xs.length ≤ 1048576) (hx : ∀ l ∈ xs, Lok l) : G34 k xs = some (linesB k xs) := by
  unfold G34 G34n
  refine lp_idx (rnd := r34_0 k xs fuel) (st := fun i => ((i : Nat) : Int)) (val := fun i => some (allN (lnB k xs) xs.length i)) xs.length (fun rec => by simp [r34_0, allN_end]) (fun rec i hi hr => ?_) fuel 0 (Nat.zero_le _) (by have := fuel_big; omega)
  have hw := wrap_nat (i := i) (by omega)
  have h1 : (i : Int) < (xs.length : Int) := by omega
  have hli := hx xs[i] (List.getElem_mem hi)
  simp only [r34_0, h1, decide_true, cond_true, Int.natCast_nonneg, get_cast hi, Option.bind_some, g55, g57, g32]
  rw [allN_step hi, lnB_at hi]
  cases hf : fiB k xs[i].Key xs[i].Words with
  | false => rfl
  | true =>
    obtain ⟨p, hp, e1, e2⟩ := fi_pos hf
    have tail : cond (decide (0 ≤ posR k xs[i].Key)) (Option.bind (rulesOf k)[(posR k xs[i].Key).toNat]? fun e10 => lpN (r34_1 xs (i : Int) e10.Many fuel rec) fuel (0, 0)) none = some (!badN (ruleR k xs[i].Key).Many (cntK xs xs[i].Key (i + 1)) && allN (lnB k xs) xs.length (i + 1)) := by
      rw [e1, e2]
      simp only [Int.natCast_nonneg, decide_true, cond_true, get_cast hp, Option.bind_some, lp34in hl hi, hw, hr]
      cases badN (rulesOf k)[p].Many (cntK xs xs[i].Key (i + 1)) <;> rfl
    simp only [Bool.not_true, cond_false, Bool.true_and, tail]
    cases i with
    | zero => simp
    | succ i =>
      have h2 : ((i + 1 : Nat) : Int) > 0 := by omega
      have h3 : IntKind.i64.wrap (((i + 1 : Nat) : Int) - 1) = (i : Int) := by rw [wrap_pred (by omega) (by omega)]; rfl
      have hi' : i < xs.length := by omega
      have hg : xs.getD (i + 1 - 1) line0 = xs[i] := by simp [hi']
      simp only [h2, decide_true, cond_true, h3, Int.natCast_nonneg, get_cast hi', Option.bind_some, g56 k (hx xs[i] (List.getElem_mem hi')).1, hg, Nat.succ_ne_zero, decide_false, Bool.false_or]
      cases liB k xs[i] xs[i + 1] <;> simp
/-! ### The program's lines: a map counts the keys -/
abbrev Mp := List (Nat × ByteArray × Int)
noncomputable def mpS (xs : List VSheetLine) : Nat → Mp × Nat
  | 0 => ([], 0)
  | i + 1 => (mput KK .e9 .e3 (xs.getD i line0).Key (IntKind.i64.wrap (mval KK .e9 .e3 (xs.getD i line0).Key (mpS xs i).1 + 1)) (mpS xs i).2 (mpS xs i).1, mclk KK .e9 .e3 (xs.getD i line0).Key (mpS xs i).2 (mpS xs i).1)
theorem mp_cnt {xs : List VSheetLine} (hl : xs.length ≤ 1048576) (key : ByteArray) : ∀ i, i ≤ xs.length → mval KK .e9 .e3 key (mpS xs i).1 = (cntK xs key i : Int)
  | 0, _ => rfl
  | i + 1, hi => by
    have h : i < xs.length := by omega
    have hg : xs.getD i line0 = xs[i] := by simp [h]
    have ih := fun key => mp_cnt hl key i (by omega)
    have hc := cnt_le xs xs[i].Key i
    simp only [mpS, mval_put, hg]
    rw [cnt_step h]
    by_cases e : key = xs[i].Key
    · subst e
      rw [if_pos rfl, ih _, wrap_nat (by omega)]
      simp
    · have e' : ¬ xs[i].Key = key := fun h => e h.symm
      rw [if_neg e, ih _]
      simp [e']
theorem lp39in (k : ByteArray) {xs : List VSheetLine} (hl : xs.length ≤ 1048576) {i : Nat} (hi : i < xs.length) {p : Nat} (hp : p < (rulesOf k).length) (e1 : posR k xs[i].Key = (p : Int)) (e2 : ruleR k xs[i].Key = (rulesOf k)[p]) (rec0 : A39_0 → Option Bool) :
    lpN (r39_1 xs[i].Key (rulesOf k) ((rulesOf k).length : Int) (i : Int) (mpS xs (i + 1)).1 (mpS xs (i + 1)).2 xs[i].Key fuel rec0) fuel 0 = cond (badN (ruleR k xs[i].Key).Many (cntK xs xs[i].Key (i + 1))) (some false) (rec0 (IntKind.i64.wrap ((i : Int) + 1), (mpS xs (i + 1)).1, (mpS xs (i + 1)).2)) := by
  have hr := rules_len k
  have hm := mp_cnt hl xs[i].Key (i + 1) (by omega)
  have := pos_lp (rnd := r39_1 xs[i].Key (rulesOf k) ((rulesOf k).length : Int) (i : Int) (mpS xs (i + 1)).1 (mpS xs (i + 1)).2 xs[i].Key fuel rec0) (p := fun r => decide (r.Key = xs[i].Key)) (xs := rulesOf k) (st := fun i => ((i : Nat) : Int)) (by omega)
    (fun j => cond (badN ((rulesOf k).getD j rule0).Many (cntK xs xs[i].Key (i + 1))) (some false) (rec0 (IntKind.i64.wrap ((i : Int) + 1), (mpS xs (i + 1)).1, (mpS xs (i + 1)).2)))
    (cond (badN false (cntK xs xs[i].Key (i + 1))) (some false) (rec0 (IntKind.i64.wrap ((i : Int) + 1), (mpS xs (i + 1)).1, (mpS xs (i + 1)).2))) (fun rec => by
      simp only [r39_1, Int.lt_irrefl, decide_false, cond_false, hm]
      exact bad_cond false _ _ _) (fun rec j hj => by
      have hw := wrap_nat (i := j) (by omega)
      have h1 : (j : Int) < ((rulesOf k).length : Int) := by omega
      have hg : (rulesOf k).getD j rule0 = (rulesOf k)[j] := by simp [hj]
      simp only [r39_1, h1, decide_true, cond_true, Int.natCast_nonneg, get_cast hj, Option.bind_some, hw, hm, hg]
      rw [bad_cond])
  have e : lpN (r39_1 xs[i].Key (rulesOf k) ((rulesOf k).length : Int) (i : Int) (mpS xs (i + 1)).1 (mpS xs (i + 1)).2 xs[i].Key fuel rec0) fuel 0 = _ := this
  rw [e]
  show cond (decide (posR k xs[i].Key < 0)) _ (cond (badN ((rulesOf k).getD (posR k xs[i].Key).toNat rule0).Many (cntK xs xs[i].Key (i + 1))) _ _) = _
  have hn : ¬ ((p : Nat) : Int) < 0 := by omega
  rw [e1, e2]
  simp only [hn, decide_false, cond_false, Int.toNat_natCast]
  have hg : (rulesOf k).getD p rule0 = (rulesOf k)[p] := by simp [hp]
  rw [hg]
theorem lp39 (k : ByteArray) {xs : List VSheetLine} (hl : xs.length ≤ 1048576) (hx : ∀ l ∈ xs, Lok l) : lpN (r39_0 xs (xs.length : Int) k xs fuel) fuel (0, ([] : Mp), 0) = some (linesB k xs) := by
  refine lp_idx (rnd := r39_0 xs (xs.length : Int) k xs fuel) (st := fun i => (((i : Nat) : Int), (mpS xs i).1, (mpS xs i).2)) (val := fun i => some (allN (lnB k xs) xs.length i)) xs.length (fun rec => by simp [r39_0, allN_end]) (fun rec i hi hr => ?_) fuel 0 (Nat.zero_le _) (by have := fuel_big; omega)
  have hw := wrap_nat (i := i) (by omega)
  have h1 : (i : Int) < (xs.length : Int) := by omega
  have hli := hx xs[i] (List.getElem_mem hi)
  have hg0 : xs.getD i line0 = xs[i] := by simp [hi]
  simp only [r39_0, h1, decide_true, cond_true, Int.natCast_nonneg, get_cast hi, Option.bind_some, g61 k xs[i].Key hli.2, g22]
  rw [allN_step hi, lnB_at hi]
  cases hf : fiB k xs[i].Key xs[i].Words with
  | false => rfl
  | true =>
    obtain ⟨p, hp, e1, e2⟩ := fi_pos hf
    have hm1 : mput KK .e9 .e3 xs[i].Key (IntKind.i64.wrap (mval KK .e9 .e3 xs[i].Key (mpS xs i).1 + 1)) (mpS xs i).2 (mpS xs i).1 = (mpS xs (i + 1)).1 := by simp only [mpS, hg0]
    have hm2 : mclk KK .e9 .e3 xs[i].Key (mpS xs i).2 (mpS xs i).1 = (mpS xs (i + 1)).2 := by simp only [mpS, hg0]
    have tail := lp39in k hl hi hp e1 e2 rec
    rw [hw, hr] at tail
    simp only [Bool.not_true, cond_false, Bool.true_and, hm1, hm2, tail]
    cases i with
    | zero =>
      simp only [Int.natCast_zero, gt_iff_lt, Int.lt_irrefl, decide_false, cond_false, decide_true, Bool.true_or, Bool.true_and]
      cases badN (ruleR k xs[0].Key).Many (cntK xs xs[0].Key (0 + 1)) <;> rfl
    | succ i =>
      have h2 : ((i + 1 : Nat) : Int) > 0 := by omega
      have h3 : IntKind.i64.wrap (((i + 1 : Nat) : Int) - 1) = (i : Int) := by rw [wrap_pred (by omega) (by omega)]; rfl
      have hi' : i < xs.length := by omega
      have hg : xs.getD (i + 1 - 1) line0 = xs[i] := by simp [hi']
      simp only [h2, decide_true, cond_true, h3, Int.natCast_nonneg, get_cast hi', Option.bind_some, g62 k (hx xs[i] (List.getElem_mem hi')).1, or_li, hg, Nat.succ_ne_zero, decide_false, Bool.false_or]
      cases liB k xs[i] xs[i + 1] <;> cases badN (ruleR k xs[i + 1].Key).Many (cntK xs xs[i + 1].Key (i + 1 + 1)) <;> rfl
/-! ### Blocks, sheets -/
def Bok (b : VSheetBlock) : Prop := b.Name.size ≤ 281474976710656 ∧ b.Lines.length ≤ 1048576 ∧ ∀ l ∈ b.Lines, Lok l
def blB (b : VSheetBlock) : Bool := !(rulesOf b.Kind).isEmpty && (nmB b.Name && linesB b.Kind b.Lines)
theorem g39 {b : VSheetBlock} (h : Bok b) : G39 b = some (blB b) := by
  unfold G39 G39n blB
  rw [g22, g60 h.1]
  simp only [Option.bind_some]
  cases he : (rulesOf b.Kind).isEmpty with
  | true => rfl
  | false =>
    simp only [cond_false, nilq, Bool.not_false, Bool.true_and]
    cases nmB b.Name with
    | false => rfl
    | true => exact lp39 b.Kind h.2.1 h.2.2
def ahB (a b : VSheetBlock) : Bool := slt a.Kind b.Kind || (decide (a.Kind = b.Kind) && slt a.Name b.Name)
theorem g35 (a b : VSheetBlock) : G35 a b = some (ahB a b) := by
  unfold G35 G35n ahB
  cases slt a.Kind b.Kind <;> cases decide (a.Kind = b.Kind) <;> rfl
theorem g40 (a b : VSheetBlock) : ∃ r, G40 a b = some r ∧ decide (r ≥ 0) = !ahB a b := by
  unfold G40 G40n G64 G64n G73 G73n ahB
  simp only [Option.bind_some, cmpB_eq]
  rcases slt_tri a.Kind b.Kind with ⟨h1, h2, h3⟩ | ⟨h1, h2, h3⟩ | ⟨h1, h2, h3⟩
  · exact ⟨_, by simp only [h1, cond_true]; rfl, by simp [h1]⟩
  · exact ⟨_, by simp only [h1, h2, cond_true, cond_false]; rfl, by simp [h1, h3]⟩
  · have h4 : slt b.Kind b.Kind = false := by rw [h3] at h1; exact h1
    rcases slt_tri a.Name b.Name with ⟨q1, q2, q3⟩ | ⟨q1, q2, q3⟩ | ⟨q1, q2, q3⟩
    · exact ⟨-1, by simp only [h1, h2, q1, cond_true, cond_false]; rfl, by simp [h3, h4, q1]⟩
    · exact ⟨1, by simp only [h1, h2, q1, q2, cond_true, cond_false]; rfl, by simp [h3, h4, q1]⟩
    · exact ⟨0, by simp only [h1, h2, q1, q2, cond_true, cond_false]; rfl, by simp [h3, h4, q1]⟩
def block0 : VSheetBlock := ⟨⟨#[]⟩, ⟨#[]⟩, []⟩
def shB (bs : List VSheetBlock) (i : Nat) : Bool := blB (bs.getD i block0) && (decide (i = 0) || ahB (bs.getD (i - 1) block0) (bs.getD i block0))
def sheetB (bs : List VSheetBlock) : Bool := decide (bs.length ≤ 60) && allN (shB bs) bs.length 0
theorem shB_at {bs : List VSheetBlock} {i : Nat} (h : i < bs.length) : shB bs i = (blB bs[i] && (decide (i = 0) || ahB (bs.getD (i - 1) block0) bs[i])) := by
  have : bs.getD i block0 = bs[i] := by simp [h]
  unfold shB
  rw [this]
theorem g14 {x : VSheet} (h : ∀ b ∈ x.Blocks, Bok b) : G14 x = some (sheetB x.Blocks) := by
  unfold G14 G14n sheetB
  by_cases h60 : x.Blocks.length ≤ 60
  · have h6 : ¬ (x.Blocks.length : Int) > 60 := by omega
    simp only [h6, h60, decide_false, decide_true, cond_false, Bool.true_and]
    refine lp_idx (rnd := r14_0 x.Blocks fuel) (st := fun i => ((i : Nat) : Int)) (val := fun i => some (allN (shB x.Blocks) x.Blocks.length i)) x.Blocks.length (fun rec => by simp [r14_0, allN_end]) (fun rec i hi hr => ?_) fuel 0 (Nat.zero_le _) (by have := fuel_big; omega)
    have hw := wrap_nat (i := i) (by omega)
    have h1 : (i : Int) < (x.Blocks.length : Int) := by omega
    have hb := h x.Blocks[i] (List.getElem_mem hi)
    simp only [r14_0, h1, decide_true, cond_true, Int.natCast_nonneg, get_cast hi, Option.bind_some, g32, g33, g34 _ hb.2.1 hb.2.2, g35, hw, hr]
    rw [allN_step hi, shB_at hi]
    have he : (((rulesOf x.Blocks[i].Kind).length : Int) == 0) = (rulesOf x.Blocks[i].Kind).isEmpty := by cases rulesOf x.Blocks[i].Kind <;> simp <;> omega
    rw [he]
    unfold blB
    cases (rulesOf x.Blocks[i].Kind).isEmpty with
    | true => rfl
    | false =>
      cases nmB x.Blocks[i].Name with
      | false => rfl
      | true =>
        cases linesB x.Blocks[i].Kind x.Blocks[i].Lines with
        | false => rfl
        | true =>
          cases i with
          | zero => simp
          | succ i =>
            have h2 : ((i + 1 : Nat) : Int) > 0 := by omega
            have h3 : IntKind.i64.wrap (((i + 1 : Nat) : Int) - 1) = (i : Int) := by rw [wrap_pred (by omega) (by omega)]; rfl
            have hi' : i < x.Blocks.length := by omega
            have hg : x.Blocks.getD (i + 1 - 1) block0 = x.Blocks[i] := by simp [hi']
            simp only [h2, h3, decide_true, cond_true, Int.natCast_nonneg, get_cast hi', Option.bind_some, hg, Bool.not_true, Bool.not_false, cond_false, Bool.and_self, Bool.true_and, Nat.succ_ne_zero, decide_false, Bool.false_or]
            cases ahB x.Blocks[i] x.Blocks[i + 1] <;> simp
  · have h6 : (x.Blocks.length : Int) > 60 := by omega
    simp [h6, h60]
theorem g19 {x : VSheet} (h : ∀ b ∈ x.Blocks, Bok b) : G19 x = some (sheetB x.Blocks) := by
  unfold G19 G19n sheetB
  by_cases h60 : x.Blocks.length ≤ 60
  · have h6 : ¬ (x.Blocks.length : Int) > 60 := by omega
    simp only [h6, h60, decide_false, decide_true, cond_false, Bool.true_and]
    refine lp_idx (rnd := r19_0 x.Blocks (x.Blocks.length : Int) x.Blocks fuel) (st := fun i => ((i : Nat) : Int)) (val := fun i => some (allN (shB x.Blocks) x.Blocks.length i)) x.Blocks.length (fun rec => by simp [r19_0, allN_end]) (fun rec i hi hr => ?_) fuel 0 (Nat.zero_le _) (by have := fuel_big; omega)
    have hw := wrap_nat (i := i) (by omega)
    have h1 : (i : Int) < (x.Blocks.length : Int) := by omega
    have hb := h x.Blocks[i] (List.getElem_mem hi)
    simp only [r19_0, h1, decide_true, cond_true, Int.natCast_nonneg, get_cast hi, Option.bind_some, g39 hb, hw, hr]
    rw [allN_step hi, shB_at hi]
    cases blB x.Blocks[i] with
    | false => rfl
    | true =>
      cases i with
      | zero => simp
      | succ i =>
        have h2 : ((i + 1 : Nat) : Int) > 0 := by omega
        have h3 : IntKind.i64.wrap (((i + 1 : Nat) : Int) - 1) = (i : Int) := by rw [wrap_pred (by omega) (by omega)]; rfl
        have hi' : i < x.Blocks.length := by omega
        have hg : x.Blocks.getD (i + 1 - 1) block0 = x.Blocks[i] := by simp [hi']
        obtain ⟨r, hr1, hr2⟩ := g40 x.Blocks[i] x.Blocks[i + 1]
        simp only [h2, h3, decide_true, cond_true, Int.natCast_nonneg, get_cast hi', Option.bind_some, hg, hr1, hr2, Bool.not_true, cond_false, Bool.true_and, Nat.succ_ne_zero, decide_false, Bool.false_or]
        cases ahB x.Blocks[i] x.Blocks[i + 1] <;> simp
  · have h6 : (x.Blocks.length : Int) > 60 := by omega
    simp [h6, h60]
end Go.Proofs.YtadopcpehgblcaaDoor.Ab

/- The plain law of SheetDiff: what differs. -/
set_option linter.unusedVariables false
set_option linter.unusedSimpArgs false
namespace Go.Proofs.YtadopcpehgblcaaDoor.Ab
open Go Go.RowKit

/-! ### Rows that grow -/
theorem flat_take {α β : Type} {g : α → List β} {xs : List α} {i : Nat} (h : i < xs.length) : (xs.take (i + 1)).flatMap g = (xs.take i).flatMap g ++ g xs[i] := by
  rw [List.take_succ_eq_append_getElem h, List.flatMap_append]
  simp
theorem flat_len {α β : Type} {g : α → List β} {c : Nat} : ∀ (xs : List α), (∀ x ∈ xs, (g x).length ≤ c) → (xs.flatMap g).length ≤ xs.length * c
  | [], _ => by simp
  | x :: xs, h => by
    have h1 := h x (by simp)
    have h2 := flat_len xs fun y hy => h y (by simp [hy])
    simp only [List.flatMap_cons, List.length_append, List.length_cons, Nat.add_mul]
    omega
theorem acc_lp {α β R : Type} {xs : List α} (g : α → List β) (pre : List β) {rnd : (List β × Int → Option R) → List β × Int → Option R} (c : Nat) (hl : xs.length ≤ 1048576) (hc : ∀ x ∈ xs, (g x).length ≤ c) (res : Option R)
    (hend : ∀ rec, rnd rec (pre ++ xs.flatMap g, (xs.length : Int)) = res)
    (hstep : ∀ rec i (hi : i < xs.length) (acc : List β), acc.length ≤ pre.length + i * c → rnd rec (acc, (i : Int)) = rec (acc ++ g xs[i], ((i + 1 : Nat) : Int))) : lpN rnd fuel (pre, 0) = res := by
  have := lp_idx (rnd := rnd) (st := fun i => (pre ++ (xs.take i).flatMap g, ((i : Nat) : Int))) (val := fun _ => res) xs.length (fun rec => by
    show rnd rec (pre ++ (xs.take xs.length).flatMap g, (xs.length : Int)) = res
    rw [List.take_length]
    exact hend rec) (fun rec i hi hr => by
    have hb := flat_len (g := g) (c := c) (xs.take i) fun x hx => hc x (List.mem_of_mem_take hx)
    have hti : (xs.take i).length = i := by simp; omega
    rw [hti] at hb
    show rnd rec (pre ++ (xs.take i).flatMap g, (i : Int)) = res
    rw [hstep rec i hi _ (by rw [List.length_append]; omega), List.append_assoc, ← flat_take hi]
    exact hr) fuel 0 (Nat.zero_le _) (by have := fuel_big; omega)
  simpa using this
theorem flat_one {α : Type} : ∀ xs : List α, xs.flatMap (fun x => [x]) = xs
  | [] => rfl
  | x :: xs => by simp only [List.flatMap_cons, flat_one xs]; rfl

theorem drop_dec {α : Type} [DecidableEq α] {a b : List α} {i : Nat} (hi : i < a.length) (hb : i < b.length) : decide (a.drop i = b.drop i) = (decide (a[i] = b[i]) && decide (a.drop (i + 1) = b.drop (i + 1))) := by
  rw [List.drop_eq_getElem_cons hi, List.drop_eq_getElem_cons hb]
  simp only [List.cons.injEq, Bool.decide_and]
instance lineEq : DecidableEq VSheetLine := fun a b => decidable_of_iff (a.Key = b.Key ∧ a.Words = b.Words) (by
  obtain ⟨a1, a2⟩ := a
  obtain ⟨b1, b2⟩ := b
  simp)
theorem line_dec (a b : VSheetLine) : decide (a = b) = (decide (a.Key = b.Key) && decide (a.Words = b.Words)) := by
  obtain ⟨a1, a2⟩ := a
  obtain ⟨b1, b2⟩ := b
  simp
/-! ### Lines -/
theorem g16 {xs : List VSheetLine} (hl : xs.length ≤ 1048576) (hx : ∀ l ∈ xs, Lok l) : G16 xs = some xs := by
  unfold G16 G16n
  refine acc_lp (xs := xs) (fun x => [x]) [] 1 hl (fun x _ => by simp) (some xs) (fun rec => by simp [r16_0, flat_one]) (fun rec i hi acc ha => ?_)
  have hw := wrap_nat (i := i) (by omega)
  have h1 : (i : Int) < (xs.length : Int) := by omega
  have hli := hx xs[i] (List.getElem_mem hi)
  have h2 : ((([] : List ByteArray).length + xs[i].Words.length) * 16) ≤ 140737488355328 := by have := hli.1; simp; omega
  have h3 : ((acc.length + ([⟨xs[i].Key, [] ++ xs[i].Words⟩] : List VSheetLine).length) * 40) ≤ 140737488355328 := by simp at ha ⊢; omega
  simp only [r16_0, h1, decide_true, cond_true, Int.natCast_nonneg, get_cast hi, Option.bind_some, h2, h3, hw]
  rfl
theorem g21 {xs : List VSheetLine} (hl : xs.length ≤ 1048576) (hx : ∀ l ∈ xs, Lok l) : G21 xs = some xs := by
  unfold G21 G21n
  refine acc_lp (xs := xs) (fun x => [x]) [] 1 hl (fun x _ => by simp) (some xs) (fun rec => by simp [r21_0, flat_one]) (fun rec i hi acc ha => ?_)
  have hw := wrap_nat (i := i) (by omega)
  have h1 : (i : Int) < (xs.length : Int) := by omega
  have hli := hx xs[i] (List.getElem_mem hi)
  have h2 : ((([] : List ByteArray).length + xs[i].Words.length) * 16) ≤ 140737488355328 := by have := hli.1; simp; omega
  have h3 : ((acc.length + ([⟨xs[i].Key, [] ++ xs[i].Words⟩] : List VSheetLine).length) * 40) ≤ 140737488355328 := by simp at ha ⊢; omega
  simp only [r21_0, h1, decide_true, cond_true, Int.natCast_nonneg, get_cast hi, Option.bind_some, h2, h3, hw]
  rfl
def ofG (key : ByteArray) (l : VSheetLine) : List VSheetLine := cond (decide (l.Key = key)) [l] []
def ofL (xs : List VSheetLine) (key : ByteArray) : List VSheetLine := xs.flatMap (ofG key)
theorem ofG_len (key : ByteArray) (l : VSheetLine) : (ofG key l).length ≤ 1 := by unfold ofG; cases decide (l.Key = key) <;> simp
theorem ofL_len (xs : List VSheetLine) (key : ByteArray) : (ofL xs key).length ≤ xs.length := by
  have := flat_len (c := 1) xs fun x _ => ofG_len key x
  unfold ofL; omega
theorem ofL_mem {xs : List VSheetLine} {key : ByteArray} {l : VSheetLine} (h : l ∈ ofL xs key) : l ∈ xs := by
  unfold ofL at h
  rw [List.mem_flatMap] at h
  obtain ⟨x, hx, hm⟩ := h
  unfold ofG at hm
  cases hd : decide (x.Key = key) with
  | true => rw [hd] at hm; simp at hm; subst hm; exact hx
  | false => rw [hd] at hm; simp at hm
theorem of_step {R : Type} (b : Bool) (rec : List VSheetLine × Int → Option R) (acc : List VSheetLine) (l : VSheetLine) (j : Int) (h3 : (acc.length + ([l] : List VSheetLine).length) * 40 ≤ 140737488355328) :
    cond b (cond (decide ((acc.length + ([l] : List VSheetLine).length) * 40 ≤ 140737488355328)) (rec (acc ++ [l], j)) none) (rec (acc, j)) = rec (acc ++ cond b [l] [], j) := by
  cases b with
  | true => simp only [h3, decide_true, cond_true]
  | false => simp only [cond_false, List.append_nil]
theorem g36 {b : VSheetBlock} (hl : b.Lines.length ≤ 1048576) (hx : ∀ l ∈ b.Lines, Lok l) (key : ByteArray) : G36 b key = some (ofL b.Lines key) := by
  unfold G36 G36n
  refine acc_lp (xs := b.Lines) (ofG key) [] 1 hl (fun x _ => ofG_len key x) (some (ofL b.Lines key)) (fun rec => ?_) (fun rec i hi acc ha => ?_)
  · have := ofL_len b.Lines key
    simp only [r36_0, Int.lt_irrefl, decide_false, cond_false, List.nil_append]
    show Option.bind (G16 (ofL b.Lines key)) _ = _
    rw [g16 (by omega) fun l h => hx l (ofL_mem h)]
    rfl
  have hw := wrap_nat (i := i) (by omega)
  have h1 : (i : Int) < (b.Lines.length : Int) := by omega
  have h3 : ((acc.length + ([b.Lines[i]] : List VSheetLine).length) * 40) ≤ 140737488355328 := by simp at ha ⊢; omega
  simp only [r36_0, h1, decide_true, cond_true, Int.natCast_nonneg, get_cast hi, Option.bind_some, hw]
  exact of_step _ rec acc _ _ h3
theorem g37 {a b : List VSheetLine} (hl : a.length ≤ 1048576) (ha : ∀ l ∈ a, Lok l) (hb : ∀ l ∈ b, Lok l) : G37 a b = some (decide (a = b)) := by
  unfold G37 G37n
  by_cases he : a.length = b.length
  · have hc : ((a.length : Int) != (b.length : Int)) = false := by simp [he]
    rw [hc]
    simp only [cond_false]
    have e0 : lpN (r37_0 a b fuel) fuel 0 = some (decide (a.drop 0 = b.drop 0)) := lp_idx (rnd := r37_0 a b fuel) (st := fun i => ((i : Nat) : Int)) (val := fun i => some (decide (a.drop i = b.drop i))) a.length (fun rec => by
      have : b.drop a.length = [] := by rw [he]; exact List.drop_length
      simp [r37_0, this]) (fun rec i hi hr => by
      rw [← wrap_nat (by omega)] at hr
      have hib : i < b.length := by omega
      have h1 : (i : Int) < (a.length : Int) := by omega
      have h2 := ha a[i] (List.getElem_mem hi)
      have h3 := hb b[i] (List.getElem_mem hib)
      simp only [r37_0, h1, decide_true, cond_true, Int.natCast_nonneg, get_cast hi, get_cast hib, Option.bind_some, g58 h2.1 h3.1]
      rw [drop_dec hi hib, line_dec]
      cases decide (a[i].Key = b[i].Key) with
      | false => rfl
      | true =>
        cases decide (a[i].Words = b[i].Words) with
        | false => rfl
        | true => exact hr) fuel 0 (Nat.zero_le _) (by have := fuel_big; omega)
    rw [List.drop_zero, List.drop_zero] at e0
    exact e0
  · have hc : ((a.length : Int) != (b.length : Int)) = true := by simp; omega
    have hne : a ≠ b := fun e => he (by rw [e])
    rw [hc]
    simp [hne]
theorem lp46 (a b : List ByteArray) (h1 : a.length ≤ 1048576) (hl : a.length = b.length) : lpN (r46_0 a b (a.length : Int) fuel) fuel ((0 : Nat) : Int) = some (decide (a.drop 0 = b.drop 0)) :=
  lp_idx (rnd := r46_0 a b (a.length : Int) fuel) (st := fun i => ((i : Nat) : Int)) (val := fun i => some (decide (a.drop i = b.drop i))) a.length (fun rec => by
      have : b.drop a.length = [] := by rw [hl]; exact List.drop_length
      simp [r46_0, this]) (fun rec i hi hr => by
      rw [← wrap_nat (by omega)] at hr
      have hib : i < b.length := by omega
      have h1 : (i : Int) < (a.length : Int) := by omega
      simp only [r46_0, h1, decide_true, cond_true, Int.natCast_nonneg, get_cast hi, get_cast hib, Option.bind_some]
      rw [drop_dec hi hib]
      cases decide (a[i] = b[i]) with
      | false => rfl
      | true => exact hr) fuel 0 (Nat.zero_le _) (by have := fuel_big; omega)
theorem y46 (a b : List ByteArray) (h1 : a.length ≤ 1048576) (hl : a.length = b.length) : lpN (r46_0 a b (a.length : Int) fuel) fuel 0 = some (decide (a = b)) := by
  have e0 := lp46 a b h1 hl
  rw [List.drop_zero, List.drop_zero] at e0
  exact e0
theorem y46a (a b : List ByteArray) (h1 : a.length ≤ 1048576) (hl : a.length = b.length) : cond ((a.length : Int) != (b.length : Int)) (some (false)) (lpN (r46_0 a b (a.length : Int) fuel) fuel 0) = some (decide (a = b)) := by
  have hc : ((a.length : Int) != (b.length : Int)) = false := by simp [hl]
  rw [hc]
  exact y46 a b h1 hl
theorem y46b (a b : List ByteArray) (h1 : a.length ≤ 1048576) (hl : a.length = b.length) : G46 a b = some (decide (a = b)) := by
  unfold G46 G46n
  exact y46a a b h1 hl
theorem y46c (a b : List ByteArray) (hl : ¬ a.length = b.length) : G46 a b = some (decide (a = b)) := by
  unfold G46 G46n
  have hc : ((a.length : Int) != (b.length : Int)) = true := by simp; omega
  have hne : a ≠ b := fun e => hl (by rw [e])
  have hd : decide (a = b) = false := by simp [hne]
  rw [hc, hd]
  rfl
theorem g46 {a b : List ByteArray} (ha : a.length ≤ 1048576) : G46 a b = some (decide (a = b)) := by
  by_cases hl : a.length = b.length
  · exact y46b a b ha hl
  · exact y46c a b hl
theorem lp24 (a b : List VSheetLine) (h1 : a.length ≤ 1048576) (ha : ∀ l ∈ a, Lok l) (hl : a.length = b.length) : lpN (r24_0 b a (a.length : Int) fuel) fuel ((0 : Nat) : Int) = some (decide (a.drop 0 = b.drop 0)) :=
  lp_idx (rnd := r24_0 b a (a.length : Int) fuel) (st := fun i => ((i : Nat) : Int)) (val := fun i => some (decide (a.drop i = b.drop i))) a.length (fun rec => by
      have : b.drop a.length = [] := by rw [hl]; exact List.drop_length
      simp [r24_0, this]) (fun rec i hi hr => by
      rw [← wrap_nat (by omega)] at hr
      have hib : i < b.length := by omega
      have h1 : (i : Int) < (a.length : Int) := by omega
      have h2 := ha a[i] (List.getElem_mem hi)
      simp only [r24_0, h1, decide_true, cond_true, Int.natCast_nonneg, get_cast hi, get_cast hib, Option.bind_some, g46 h2.1]
      rw [drop_dec hi hib, line_dec]
      cases decide (a[i].Key = b[i].Key) with
      | false => rfl
      | true =>
        cases decide (a[i].Words = b[i].Words) with
        | false => rfl
        | true => exact hr) fuel 0 (Nat.zero_le _) (by have := fuel_big; omega)
theorem y24 (a b : List VSheetLine) (h1 : a.length ≤ 1048576) (ha : ∀ l ∈ a, Lok l) (hl : a.length = b.length) : lpN (r24_0 b a (a.length : Int) fuel) fuel 0 = some (decide (a = b)) := by
  have e0 := lp24 a b h1 ha hl
  rw [List.drop_zero, List.drop_zero] at e0
  exact e0
theorem y24a (a b : List VSheetLine) (h1 : a.length ≤ 1048576) (ha : ∀ l ∈ a, Lok l) (hl : a.length = b.length) : cond ((a.length : Int) != (b.length : Int)) (some (false)) (lpN (r24_0 b a (a.length : Int) fuel) fuel 0) = some (decide (a = b)) := by
  have hc : ((a.length : Int) != (b.length : Int)) = false := by simp [hl]
  rw [hc]
  exact y24 a b h1 ha hl
theorem y24b (a b : List VSheetLine) (h1 : a.length ≤ 1048576) (ha : ∀ l ∈ a, Lok l) (hl : a.length = b.length) : G24 a b = some (decide (a = b)) := by
  unfold G24 G24n
  exact y24a a b h1 ha hl
theorem y24c (a b : List VSheetLine) (hl : ¬ a.length = b.length) : G24 a b = some (decide (a = b)) := by
  unfold G24 G24n
  have hc : ((a.length : Int) != (b.length : Int)) = true := by simp; omega
  have hne : a ≠ b := fun e => hl (by rw [e])
  have hd : decide (a = b) = false := by simp [hne]
  rw [hc, hd]
  rfl
theorem g24 {a b : List VSheetLine} (hl : a.length ≤ 1048576) (ha : ∀ l ∈ a, Lok l) : G24 a b = some (decide (a = b)) := by
  by_cases he : a.length = b.length
  · exact y24b a b hl ha he
  · exact y24c a b he

/-! ### Blocks by kind and name -/
def findB (bs : List VSheetBlock) (k n : ByteArray) : Int := posL (fun b => decide (b.Kind = k) && decide (b.Name = n)) bs 0
theorem find_cases (bs : List VSheetBlock) (k n : ByteArray) : findB bs k n = -1 ∨ ∃ i : Nat, ∃ h : i < bs.length, findB bs k n = (i : Int) ∧ bs[i].Kind = k ∧ bs[i].Name = n := by
  rcases posL_cases (fun b => decide (b.Kind = k) && decide (b.Name = n)) bs with ⟨h, _⟩ | ⟨i, hi, h, h2⟩
  · exact .inl h
  · simp only [Bool.and_eq_true, decide_eq_true_eq] at h2
    exact .inr ⟨i, hi, h, h2.1, h2.2⟩
theorem find_fin {bs : List VSheetBlock} {k n : ByteArray} {o : Option Int} (h : o = cond (decide (findB bs k n < 0)) (some (-1)) (some ((findB bs k n).toNat : Int))) : o = some (findB bs k n) := by
  rw [h]
  rcases find_cases bs k n with e | ⟨i, _, e, _⟩
  · rw [e]; rfl
  · rw [e]
    have : ¬ ((i : Nat) : Int) < 0 := by omega
    simp [this]
theorem g15 {x : VSheet} (hl : x.Blocks.length ≤ 1048576) (k n : ByteArray) : G15 x k n = some (findB x.Blocks k n) := by
  unfold G15 G15n
  refine find_fin (pos_lp (rnd := r15_0 k n x.Blocks fuel) (p := fun b => decide (b.Kind = k) && decide (b.Name = n)) (xs := x.Blocks) (st := fun i => ((i : Nat) : Int)) hl (fun i => some (i : Int)) (some (-1)) (fun rec => by simp [r15_0]) (fun rec i hi => ?_))
  have hw := wrap_nat (i := i) (by omega)
  have h1 : (i : Int) < (x.Blocks.length : Int) := by omega
  simp only [r15_0, h1, decide_true, cond_true, Int.natCast_nonneg, get_cast hi, Option.bind_some, hw]
  cases decide (x.Blocks[i].Kind = k) <;> cases decide (x.Blocks[i].Name = n) <;> rfl
theorem g20 {x : VSheet} (hl : x.Blocks.length ≤ 1048576) (k n : ByteArray) : G20 x k n = some (findB x.Blocks k n) := by
  unfold G20 G20n
  have e0 : lpN (r20_0 x.Blocks (x.Blocks.length : Int) k n fuel) fuel 0 = cond (decide (findB x.Blocks k n < 0)) (some (-1)) (some ((findB x.Blocks k n).toNat : Int)) := (pos_lp (rnd := r20_0 x.Blocks (x.Blocks.length : Int) k n fuel) (p := fun b => decide (b.Kind = k) && decide (b.Name = n)) (xs := x.Blocks) (st := fun i => ((i : Nat) : Int)) hl (fun i => some (i : Int)) (some (-1)) (fun rec => by simp [r20_0]) (fun rec i hi => by
    have hw := wrap_nat (i := i) (by omega)
    have h1 : (i : Int) < (x.Blocks.length : Int) := by omega
    simp only [r20_0, h1, decide_true, cond_true, Int.natCast_nonneg, get_cast hi, Option.bind_some, hw]
    cases decide (x.Blocks[i].Kind = k) <;> cases decide (x.Blocks[i].Name = n) <;> rfl))
  exact find_fin e0

/-! ### What differs -/
def chG (al bl : List VSheetLine) (k n : ByteArray) (r : VSheetRule) : List VSheetChange :=
  cond (decide (ofL al r.Key = ofL bl r.Key)) [] [⟨cond (((ofL bl r.Key).length : Int) == 0) 4 3, k, n, r.Key, ofL bl r.Key⟩]
theorem chG_len (al bl : List VSheetLine) (k n : ByteArray) (r : VSheetRule) : (chG al bl k n r).length ≤ 1 := by unfold chG; cases decide (ofL al r.Key = ofL bl r.Key) <;> simp
theorem ch_step {R : Type} (s z : Bool) (rec : List VSheetChange × Int → Option R) (acc : List VSheetChange) (k n key : ByteArray) (ls : List VSheetLine) (j : Int) (h : acc.length ≤ 100000000) :
    cond s (rec (acc, j)) (cond z (cond (decide ((acc.length + ([⟨4, k, n, key, ls⟩] : List VSheetChange).length) * 80 ≤ 140737488355328)) (rec (acc ++ [⟨4, k, n, key, ls⟩], j)) none) (cond (decide ((acc.length + ([⟨3, k, n, key, ls⟩] : List VSheetChange).length) * 80 ≤ 140737488355328)) (rec (acc ++ [⟨3, k, n, key, ls⟩], j)) none)) =
    rec (acc ++ cond s [] [⟨cond z 4 3, k, n, key, ls⟩], j) := by
  have h1 : (acc.length + 1) * 80 ≤ 140737488355328 := by omega
  cases s with
  | true => simp
  | false => cases z <;> simp [h1]
theorem lp17 {a b : VSheetBlock} (ha : Bok a) (hb : Bok b) : lpN (r17_0 (rulesOf a.Kind) a.Kind a.Name a.Lines b.Kind b.Name b.Lines fuel) fuel (([] : List VSheetChange), 0) = some ((rulesOf a.Kind).flatMap (chG a.Lines b.Lines a.Kind a.Name)) := by
  have hr := rules_len a.Kind
  refine acc_lp (xs := rulesOf a.Kind) (chG a.Lines b.Lines a.Kind a.Name) [] 1 (by omega) (fun x _ => chG_len ..) _ (fun rec => by simp [r17_0]) (fun rec i hi acc hacc => ?_)
  have hw := wrap_nat (i := i) (by omega)
  have h1 : (i : Int) < ((rulesOf a.Kind).length : Int) := by omega
  have e1 : ∀ key, G36 (⟨a.Kind, a.Name, a.Lines⟩ : VSheetBlock) key = some (ofL a.Lines key) := fun key => g36 (b := ⟨a.Kind, a.Name, a.Lines⟩) ha.2.1 ha.2.2 key
  have e2 : ∀ key, G36 (⟨b.Kind, b.Name, b.Lines⟩ : VSheetBlock) key = some (ofL b.Lines key) := fun key => g36 (b := ⟨b.Kind, b.Name, b.Lines⟩) hb.2.1 hb.2.2 key
  have e3 : ∀ key, G37 (ofL a.Lines key) (ofL b.Lines key) = some (decide (ofL a.Lines key = ofL b.Lines key)) := fun key => g37 (by have := ofL_len a.Lines key; have := ha.2.1; omega) (fun l h => ha.2.2 l (ofL_mem h)) (fun l h => hb.2.2 l (ofL_mem h))
  simp only [r17_0, h1, decide_true, cond_true, Int.natCast_nonneg, get_cast hi, Option.bind_some, hw, e1, e2, e3]
  exact ch_step _ _ rec acc _ _ _ _ _ (by simp at hacc; omega)
theorem g17 {a b : VSheetBlock} (ha : Bok a) (hb : Bok b) : G17 a b = some ((rulesOf a.Kind).flatMap (chG a.Lines b.Lines a.Kind a.Name)) := by
  unfold G17 G17n
  rw [g32]
  exact lp17 ha hb
theorem r64 : @r7_6 = @r7_4 := rfl
theorem r84 : @r7_8 = @r7_4 := rfl
theorem r124 : @r7_12 = @r7_4 := rfl
section
variable {bl : List VSheetLine} (hl : bl.length ≤ 1048576) (hx : ∀ l ∈ bl, Lok l) {out : List VSheetChange} (ho : out.length ≤ 100000000) (j : Int) {was : List VSheetLine} (wl : was.length ≤ 1048576) (wx : ∀ l ∈ was, Lok l) (k n key : ByteArray)
  (rec1 : A7_1 → Option (List VSheetChange)) (rec2 : A7_2 → Option (List VSheetChange))
include hl hx ho wl wx
theorem lp7b : lpN (r7_4 key bl (bl.length : Int) out j was k n key fuel rec1 rec2) fuel (([] : List VSheetLine), 0) =
    rec2 (out ++ cond (decide (was = ofL bl key)) [] [⟨cond (((ofL bl key).length : Int) == 0) 4 3, k, n, key, ofL bl key⟩], IntKind.i64.wrap (j + 1)) := by
  refine acc_lp (xs := bl) (ofG key) [] 1 hl (fun x _ => ofG_len key x) _ (fun rec => ?_) (fun rec i hi acc ha => ?_)
  · have := ofL_len bl key
    simp only [r7_4, Int.lt_irrefl, decide_false, cond_false, List.nil_append]
    show Option.bind (G24 was (ofL bl key)) (fun r13 => cond r13 _ (Option.bind (G21 (ofL bl key)) _)) = _
    rw [g24 wl wx, g21 (by omega) fun l h => hx l (ofL_mem h)]
    simp only [Option.bind_some]
    exact ch_step _ _ rec2 out _ _ _ _ _ ho
  have hw := wrap_nat (i := i) (by omega)
  have h1 : (i : Int) < (bl.length : Int) := by omega
  have h3 : ((acc.length + ([bl[i]] : List VSheetLine).length) * 40) ≤ 140737488355328 := by simp at ha ⊢; omega
  simp only [r7_4, h1, decide_true, cond_true, Int.natCast_nonneg, get_cast hi, Option.bind_some, hw]
  exact of_step _ rec acc _ _ h3
end
end Go.Proofs.YtadopcpehgblcaaDoor.Ab

/- The plain law: what is marked is held; what is compared with itself is alike. Printed out of the types. -/
set_option linter.unusedVariables false
set_option linter.unusedSimpArgs false
set_option maxRecDepth 10000
namespace Go.Proofs.YtadopcpehgblcaaDoor.Ab
open Go Go.RowKit

theorem fuel_big2 : 2305843009213693952 ≤ fuel := by unfold fuel; omega
theorem len_sum {α : Type} {w : α → Nat} (h : ∀ x, 1 ≤ w x) : ∀ xs : List α, xs.length ≤ (xs.map w).sum
  | [] => Nat.le_refl _
  | x :: t => by have := len_sum h t; have := h x; simp only [List.length_cons, List.map_cons, List.sum_cons]; omega
theorem sum_get {α : Type} {w : α → Nat} : ∀ {xs : List α} {i : Nat} (hi : i < xs.length), w xs[i] ≤ (xs.map w).sum
  | [], _, h => by simp at h
  | x :: t, 0, _ => by simp
  | x :: t, i + 1, h => by
    have := sum_get (w := w) (xs := t) (i := i) (by simpa using h)
    simp only [List.getElem_cons_succ, List.map_cons, List.sum_cons]; omega
theorem sum_drop {α : Type} {w : α → Nat} {xs : List α} {i : Nat} (hi : i < xs.length) : ((xs.drop i).map w).sum = w xs[i] + ((xs.drop (i + 1)).map w).sum := by
  rw [List.drop_eq_getElem_cons hi, List.map_cons, List.sum_cons]
inductive HC {α : Type} (gm : α → Int → Int → Prop) (ys : List α) : Nat → Int → Int → Prop
  | done (k) : HC gm ys ys.length k k
  | step {i k k1 k'} (hi : i < ys.length) (h : gm ys[i] k k1) (h0 : 0 ≤ k) (r : HC gm ys (i + 1) k1 k') : HC gm ys i k k'
theorem held_lp {α : Type} {gm : α → Int → Int → Prop} {ys : List α} {rnd : (List α × Int × Int → Option Int) → List α × Int × Int → Option Int}
    (hend : ∀ rec k, rnd rec (ys, k, (ys.length : Int)) = some k)
    (hstep : ∀ rec i (hi : i < ys.length) k k1, gm ys[i] k k1 → 0 ≤ k → rnd rec (ys, k, (i : Int)) = rec (ys, k1, ((i + 1 : Nat) : Int)))
    {i : Nat} {k k' : Int} (h : HC gm ys i k k') : ∀ n, ys.length - i < n → lpN rnd n (ys, k, (i : Int)) = some k' := by
  induction h with
  | done k => intro n hn; rw [lp_open (by omega)]; exact hend _ _
  | @step i k k1 k' hi hm h0 _ ih =>
    intro n hn
    rw [lp_open (by omega), hstep _ i hi k k1 hm h0]
    exact ih _ (by omega)
theorem mark_lp {α : Type} {w : α → Nat} {gm : α → Int → Int → Prop} {rnd : (List α × Int × Int → Option (List α × Int)) → List α × Int × Int → Option (List α × Int)}
    (hend : ∀ rec (zs : List α) k, rnd rec (zs, k, (zs.length : Int)) = some (zs, k))
    (hstep : ∀ (zs : List α) i (hi : i < zs.length) k, zs.length ≤ 1152921504606846976 → 0 ≤ k → k + (w zs[i] : Int) ≤ 1152921504606846976 → ∃ y, (∀ rec, rnd rec (zs, k, (i : Int)) = rec (zs.set i y, k + (w zs[i] : Int), ((i + 1 : Nat) : Int))) ∧ gm y k (k + (w zs[i] : Int))) :
    ∀ n i (zs : List α) k, zs.length ≤ 1152921504606846976 → i ≤ zs.length → zs.length - i < n → 0 ≤ k → k + ((((zs.drop i).map w).sum : Nat) : Int) ≤ 1152921504606846976 → ∃ ys, lpN rnd n (zs, k, (i : Int)) = some (ys, k + ((((zs.drop i).map w).sum : Nat) : Int)) ∧ ys.length = zs.length ∧ (∀ j, j < i → ys[j]? = zs[j]?) ∧ HC gm ys i k (k + ((((zs.drop i).map w).sum : Nat) : Int)) := by
  intro n
  induction n with
  | zero => intro i zs k _ _ h; omega
  | succ n ih =>
    intro i zs k hl hi hn h0 hk
    rw [lp_succ]
    rcases Nat.lt_or_ge i zs.length with h | h
    · rw [sum_drop h] at hk ⊢
      obtain ⟨y, e, g⟩ := hstep zs i h k hl h0 (by omega)
      rw [e]
      have hd : (zs.set i y).drop (i + 1) = zs.drop (i + 1) := by rw [List.drop_set_of_lt (by omega)]
      obtain ⟨ys, e, e1, e2, e3⟩ := ih (i + 1) (zs.set i y) (k + (w zs[i] : Int)) (by rw [List.length_set]; omega) (by rw [List.length_set]; omega) (by rw [List.length_set]; omega) (by omega) (by rw [hd]; omega)
      rw [hd] at e e3
      rw [List.length_set] at e1
      have ek : k + (w zs[i] : Int) + ((((zs.drop (i + 1)).map w).sum : Nat) : Int) = k + ((w zs[i] + ((zs.drop (i + 1)).map w).sum : Nat) : Int) := by omega
      rw [ek] at e e3
      refine ⟨ys, e, e1, fun j hj => ?_, ?_⟩
      · rw [e2 j (by omega), List.getElem?_set_ne (by omega)]
      · have hy := e2 i (by omega)
        rw [List.getElem?_set_self h] at hy
        have hi' : i < ys.length := by omega
        rw [List.getElem?_eq_getElem hi'] at hy
        refine HC.step hi' ?_ h0 e3
        rw [Option.some.inj hy]
        exact g
    · obtain rfl : i = zs.length := by omega
      rw [hend]
      have e0 : k + ((((zs.drop zs.length).map w).sum : Nat) : Int) = k := by simp
      rw [e0]
      exact ⟨zs, rfl, rfl, fun _ _ => rfl, HC.done _⟩
theorem mark_both {α : Type} {w : α → Nat} {gm : α → Int → Int → Prop} {rm : (List α × Int × Int → Option (List α × Int)) → List α × Int × Int → Option (List α × Int)} {rh : (List α × Int × Int → Option Int) → List α × Int × Int → Option Int}
    (hw : ∀ x, 1 ≤ w x)
    (hend : ∀ rec (zs : List α) k, rm rec (zs, k, (zs.length : Int)) = some (zs, k))
    (hstep : ∀ (zs : List α) i (hi : i < zs.length) k, zs.length ≤ 1152921504606846976 → 0 ≤ k → k + (w zs[i] : Int) ≤ 1152921504606846976 → ∃ y, (∀ rec, rm rec (zs, k, (i : Int)) = rec (zs.set i y, k + (w zs[i] : Int), ((i + 1 : Nat) : Int))) ∧ gm y k (k + (w zs[i] : Int)))
    (hend2 : ∀ rec (ys : List α) k, rh rec (ys, k, (ys.length : Int)) = some k)
    (hstep2 : ∀ rec (ys : List α) i (hi : i < ys.length) k k1, ys.length ≤ 1152921504606846976 → gm ys[i] k k1 → 0 ≤ k → rh rec (ys, k, (i : Int)) = rec (ys, k1, ((i + 1 : Nat) : Int)))
    {xs : List α} {k : Int} (h0 : 0 ≤ k) (hk : k + (((xs.map w).sum : Nat) : Int) ≤ 1152921504606846976) :
    ∃ ys, lpN rm fuel (xs, k, 0) = some (ys, k + (((xs.map w).sum : Nat) : Int)) ∧ lpN rh fuel (ys, k, 0) = some (k + (((xs.map w).sum : Nat) : Int)) := by
  have hl := len_sum hw xs
  obtain ⟨ys, e, e1, _, e3⟩ := mark_lp hend hstep fuel 0 xs k (by omega) (Nat.zero_le _) (by have := fuel_big2; omega) h0 (by simpa using hk)
  refine ⟨ys, e, ?_⟩
  exact held_lp (fun rec k => hend2 rec ys k) (fun rec i hi k k1 g h0 => hstep2 rec ys i hi k k1 (by omega) g h0) e3 fuel (by have := fuel_big2; omega)
theorem eq_lp {α : Type} {xs : List α} {rnd : (List α × List α × Int → Option Bool) → List α × List α × Int → Option Bool}
    (hl : xs.length ≤ 1152921504606846976)
    (hend : ∀ rec, rnd rec (xs, xs, (xs.length : Int)) = some true)
    (hstep : ∀ rec i (hi : i < xs.length), rnd rec (xs, xs, (i : Int)) = rec (xs, xs, ((i + 1 : Nat) : Int))) : lpN rnd fuel (xs, xs, 0) = some true :=
  lp_idx (st := fun i => (xs, xs, (i : Int))) (val := fun _ => some true) xs.length hend (fun rec i hi hr => by rw [hstep rec i hi]; exact hr) fuel 0 (Nat.zero_le _) (by have := fuel_big2; omega)

theorem mt_lp : ∀ (m : Nat) (x : Int) (s : ByteArray) (n : Nat), 0 ≤ x → x < (10 : Int) ^ m → x ≤ 2305843009213693952 → s.size + m ≤ 1000 → m < n → ∃ t, lpN (r28_0 fuel) n (x, s) = some t := by
  intro m
  induction m with
  | zero =>
    intro x s n h0 h1 hx hs hn
    rw [lp_open (by omega)]
    have hc : ¬ x > 0 := by omega
    have hz : (⟨#[109]⟩ : ByteArray).size + s.size ≤ 9223372036854775807 := by have : (⟨#[109]⟩ : ByteArray).size = 1 := rfl; omega
    simp only [r28_0, hc, hz, decide_false, decide_true, cond_false, cond_true]
    exact ⟨_, rfl⟩
  | succ m ih =>
    intro x s n h0 h1 hx hs hn
    rw [lp_open (by omega)]
    have hz : (⟨#[109]⟩ : ByteArray).size + s.size ≤ 9223372036854775807 := by have : (⟨#[109]⟩ : ByteArray).size = 1 := rfl; omega
    by_cases hc : x > 0
    · have ht : ¬ ((10 : Int) = 0) := by decide
      have hd : x.tdiv 10 = x / 10 := Int.tdiv_eq_ediv_of_nonneg h0
      have hp : (10 : Int) ^ (m + 1) = 10 ^ m * 10 := Int.pow_succ _ _
      have hw : IntKind.i64.wrap (x.tdiv 10) = x / 10 := by rw [hd, wrap_id (by omega) (by omega)]
      have hone : ∀ b : Int, (strOf KK .e5 ([b] : List (C .e5))).size = 1 := fun b => rfl
      have hz' : ∀ b : Int, (strOf KK .e5 ([b] : List (C .e5))).size + s.size ≤ 9223372036854775807 := fun b => by rw [hone]; omega
      simp only [r28_0, hc, hz', ht, decide_false, decide_true, cond_false, cond_true, hw]
      refine ih (x / 10) _ (n - 1) (by omega) (by omega) (by omega) ?_ (by omega)
      rw [ByteArray.size_append, hone]; omega
    · simp only [r28_0, hc, hz, decide_false, decide_true, cond_false, cond_true]
      exact ⟨_, rfl⟩
noncomputable def mt (k : Int) : ByteArray := (G28 k).getD ⟨#[]⟩
theorem g28_mt {k : Int} (h : 0 ≤ k) (h2 : k ≤ 2305843009213693952) : G28 k = some (mt k) := by
  have : ∃ t, G28 k = some t := by
    unfold G28 G28n
    by_cases hc : k ≤ 0
    · exact ⟨⟨#[109, 48]⟩, by simp only [hc, decide_true, cond_true]⟩
    · simp only [hc, decide_false, cond_false]
      exact mt_lp 19 k _ fuel h (by have : (10 : Int) ^ 19 = 10000000000000000000 := rfl; omega) h2 (by decide) (by have := fuel_big; omega)
  obtain ⟨t, e⟩ := this
  unfold mt
  rw [e]
  rfl

def w_String (_ : ByteArray) : Nat := 1
def w_StringS (xs : List ByteArray) : Nat := (xs.map w_String).sum
theorem w_String_pos (x : ByteArray) : 1 ≤ w_String x := by unfold w_String; omega
theorem w_StringS_len (xs : List ByteArray) : xs.length ≤ w_StringS xs := len_sum w_String_pos xs
theorem eq_StringS {xs : List ByteArray} (h : w_StringS xs ≤ 1152921504606846976) : G75 xs xs = some true := by
  have hl := w_StringS_len xs
  unfold G75 G75n
  simp only [bne_self_eq_false, cond_false]
  refine eq_lp (rnd := r75_0 fuel) (by omega) (fun rec => by simp [r75_0]) (fun rec i hi => ?_)
  have hw := wrap_nat (i := i) (by omega)
  have h1 : (i : Int) < (xs.length : Int) := by omega
  simp only [r75_0]
  rw [get_cast hi, hw]
  simp only [h1, decide_true, cond_true, Int.natCast_nonneg, Option.bind_some, bne_self_eq_false, Bool.not_true, cond_false]
def gm_String (y : ByteArray) (k k1 : Int) : Prop := y = mt (k) ∧ k1 = k + 1 ∧ k1 ≤ 1152921504606846976
set_option maxHeartbeats 2000000 in
theorem mark_StringS {xs : List ByteArray} {k : Int} (h0 : 0 ≤ k) (h : k + (w_StringS xs : Int) ≤ 1152921504606846976) : ∃ ys : List ByteArray, G49 xs k = some (ys, k + (w_StringS xs : Int)) ∧ G50 ys k = some (k + (w_StringS xs : Int)) := by
  refine mark_both (α := ByteArray) (w := w_String) (gm := gm_String) (rm := r49_0 fuel) (rh := r50_0 fuel) w_String_pos (fun rec zs k => by simp [r49_0]) (fun zs i hi k hl h0 hk => ?_) (fun rec ys k => by simp [r50_0]) (fun rec ys i hi k k1 hl g h0 => ?_) h0 h
  · have hw := wrap_nat (i := i) (by omega)
    have h1 : (i : Int) < (zs.length : Int) := by omega
    have h30 : ¬ ((3 : Int) = 0) := by decide
    have h30n : ¬ ((3 : Nat) = 0) := by decide
    unfold w_String at hk ⊢
    have w0 : IntKind.i64.wrap (k + 1) = k + 1 := wrap_id (by omega) (by omega)
    have he : k + ((1 : Nat) : Int) = k + 1 := by omega
    rw [he]
    refine ⟨mt (k), fun rec => ?_, ⟨rfl, rfl, by omega⟩⟩
    simp only [r49_0]
    rw [hw]
    simp only [get_cast hi, List.getElem?_eq_getElem hi, h30, h30n, decide_false, h1, w0, g28_mt (k := k) (by omega) (by omega), decide_true, cond_true, cond_false, Int.natCast_nonneg, Option.bind_some, Int.toNat_natCast, List.length_set, List.set_set, List.getElem?_set_self hi]
  · obtain ⟨e, rfl, hb⟩ := g
    have hw := wrap_nat (i := i) (by omega)
    have h1 : (i : Int) < (ys.length : Int) := by omega
    have h30 : ¬ ((3 : Int) = 0) := by decide
    have h30n : ¬ ((3 : Nat) = 0) := by decide
    have w0 : IntKind.i64.wrap (k + 1) = k + 1 := wrap_id (by omega) (by omega)
    simp only [r50_0]
    rw [hw]
    simp only [get_cast hi, e, h30, h30n, decide_false, h1, w0, g28_mt (k := k) (by omega) (by omega), decide_true, decide_false, cond_true, cond_false, Int.natCast_nonneg, Option.bind_some, bne_self_eq_false, beq_self_eq_true, Bool.not_true]
def w_SheetLine (x : VSheetLine) : Nat := 1 + w_StringS x.Words
def w_SheetLineS (xs : List VSheetLine) : Nat := (xs.map w_SheetLine).sum
theorem w_SheetLine_pos (x : VSheetLine) : 1 ≤ w_SheetLine x := by unfold w_SheetLine; omega
theorem w_SheetLineS_len (xs : List VSheetLine) : xs.length ≤ w_SheetLineS xs := len_sum w_SheetLine_pos xs
theorem eq_SheetLine {x : VSheetLine} (h : w_SheetLine x ≤ 1152921504606846976) : G66 x x = some true := by
  unfold w_SheetLine at h
  simp only [G9, G9n, G25, G25n, G48, G48n, G66, G66n, eq_StringS (xs := x.Words) (by omega), bne_self_eq_false, cond_false, decide_true, Bool.not_true, Option.bind_some, beq_self_eq_true]
theorem eq_SheetLineS {xs : List VSheetLine} (h : w_SheetLineS xs ≤ 1152921504606846976) : G47 xs xs = some true := by
  have hl := w_SheetLineS_len xs
  unfold G47 G47n
  simp only [bne_self_eq_false, cond_false]
  refine eq_lp (rnd := r47_0 fuel) (by omega) (fun rec => by simp [r47_0]) (fun rec i hi => ?_)
  have hw := wrap_nat (i := i) (by omega)
  have h1 : (i : Int) < (xs.length : Int) := by omega
  have he := eq_SheetLine (x := xs[i]) (by have := sum_get (w := w_SheetLine) hi; unfold w_SheetLineS at h; omega)
  simp only [r47_0]
  rw [get_cast hi, hw]
  simp only [h1, decide_true, cond_true, Int.natCast_nonneg, Option.bind_some, bne_self_eq_false, Bool.not_true, cond_false, he]
def gm_SheetLine (y : VSheetLine) (k k1 : Int) : Prop := ∃ (l0 : List ByteArray) (n0 : Nat), y = (⟨mt (k), l0⟩ : VSheetLine) ∧ G50 l0 (k + 1) = some (k + 1 + (n0 : Int)) ∧ k1 = k + 1 + (n0 : Int) ∧ k1 ≤ 1152921504606846976
set_option maxHeartbeats 2000000 in
theorem mark_SheetLineS {xs : List VSheetLine} {k : Int} (h0 : 0 ≤ k) (h : k + (w_SheetLineS xs : Int) ≤ 1152921504606846976) : ∃ ys : List VSheetLine, G29 xs k = some (ys, k + (w_SheetLineS xs : Int)) ∧ G30 ys k = some (k + (w_SheetLineS xs : Int)) := by
  refine mark_both (α := VSheetLine) (w := w_SheetLine) (gm := gm_SheetLine) (rm := r29_0 fuel) (rh := r30_0 fuel) w_SheetLine_pos (fun rec zs k => by simp [r29_0]) (fun zs i hi k hl h0 hk => ?_) (fun rec ys k => by simp [r30_0]) (fun rec ys i hi k k1 hl g h0 => ?_) h0 h
  · have hw := wrap_nat (i := i) (by omega)
    have h1 : (i : Int) < (zs.length : Int) := by omega
    have h30 : ¬ ((3 : Int) = 0) := by decide
    have h30n : ¬ ((3 : Nat) = 0) := by decide
    unfold w_SheetLine at hk ⊢
    generalize en0 : w_StringS (zs[i]).Words = n0 at hk ⊢
    obtain ⟨l0, ml0, hl0⟩ := mark_StringS (xs := (zs[i]).Words) (k := k + 1) (by omega) (by rw [en0]; omega)
    rw [en0] at ml0 hl0
    have w0 : IntKind.i64.wrap (k + 1) = k + 1 := wrap_id (by omega) (by omega)
    have he : k + ((1 + n0 : Nat) : Int) = k + 1 + (n0 : Int) := by omega
    rw [he]
    refine ⟨(⟨mt (k), l0⟩ : VSheetLine), fun rec => ?_, ⟨l0, n0, rfl, hl0, rfl, by omega⟩⟩
    simp only [r29_0]
    rw [hw]
    simp only [get_cast hi, List.getElem?_eq_getElem hi, h30, h30n, decide_false, h1, w0, ml0, g28_mt (k := k) (by omega) (by omega), decide_true, cond_true, cond_false, Int.natCast_nonneg, Option.bind_some, Int.toNat_natCast, List.length_set, List.set_set, List.getElem?_set_self hi]
  · obtain ⟨l0, n0, e, hl0, rfl, hb⟩ := g
    have hw := wrap_nat (i := i) (by omega)
    have h1 : (i : Int) < (ys.length : Int) := by omega
    have h30 : ¬ ((3 : Int) = 0) := by decide
    have h30n : ¬ ((3 : Nat) = 0) := by decide
    have w0 : IntKind.i64.wrap (k + 1) = k + 1 := wrap_id (by omega) (by omega)
    have q0 : ¬ (k + 1 + (n0 : Int) < 0) := by omega
    simp only [r30_0]
    rw [hw]
    simp only [get_cast hi, e, h30, h30n, decide_false, h1, w0, q0, hl0, g28_mt (k := k) (by omega) (by omega), decide_true, decide_false, cond_true, cond_false, Int.natCast_nonneg, Option.bind_some, bne_self_eq_false, beq_self_eq_true, Bool.not_true]
def w_SheetChange (x : VSheetChange) : Nat := 4 + w_SheetLineS x.Lines
def w_SheetChangeS (xs : List VSheetChange) : Nat := (xs.map w_SheetChange).sum
theorem w_SheetChange_pos (x : VSheetChange) : 1 ≤ w_SheetChange x := by unfold w_SheetChange; omega
theorem w_SheetChangeS_len (xs : List VSheetChange) : xs.length ≤ w_SheetChangeS xs := len_sum w_SheetChange_pos xs
theorem eq_SheetChange {x : VSheetChange} (h : w_SheetChange x ≤ 1152921504606846976) : G25 x x = some true := by
  unfold w_SheetChange at h
  simp only [G9, G9n, G25, G25n, G48, G48n, G66, G66n, eq_SheetLineS (xs := x.Lines) (by omega), bne_self_eq_false, cond_false, decide_true, Bool.not_true, Option.bind_some, beq_self_eq_true]
theorem eq_SheetChangeS {xs : List VSheetChange} (h : w_SheetChangeS xs ≤ 1152921504606846976) : G8 xs xs = some true := by
  have hl := w_SheetChangeS_len xs
  unfold G8 G8n
  simp only [bne_self_eq_false, cond_false]
  refine eq_lp (rnd := r8_0 fuel) (by omega) (fun rec => by simp [r8_0]) (fun rec i hi => ?_)
  have hw := wrap_nat (i := i) (by omega)
  have h1 : (i : Int) < (xs.length : Int) := by omega
  have he := eq_SheetChange (x := xs[i]) (by have := sum_get (w := w_SheetChange) hi; unfold w_SheetChangeS at h; omega)
  simp only [r8_0]
  rw [get_cast hi, hw]
  simp only [h1, decide_true, cond_true, Int.natCast_nonneg, Option.bind_some, bne_self_eq_false, Bool.not_true, cond_false, he]
def gm_SheetChange (y : VSheetChange) (k k1 : Int) : Prop := ∃ (l0 : List VSheetLine) (n0 : Nat), y = (⟨k, mt (k + 1), mt (k + 1 + 1), mt (k + 1 + 1 + 1), l0⟩ : VSheetChange) ∧ G30 l0 (k + 1 + 1 + 1 + 1) = some (k + 1 + 1 + 1 + 1 + (n0 : Int)) ∧ k1 = k + 1 + 1 + 1 + 1 + (n0 : Int) ∧ k1 ≤ 1152921504606846976
set_option maxHeartbeats 2000000 in
theorem mark_SheetChangeS {xs : List VSheetChange} {k : Int} (h0 : 0 ≤ k) (h : k + (w_SheetChangeS xs : Int) ≤ 1152921504606846976) : ∃ ys : List VSheetChange, G11 xs k = some (ys, k + (w_SheetChangeS xs : Int)) ∧ G12 ys k = some (k + (w_SheetChangeS xs : Int)) := by
  refine mark_both (α := VSheetChange) (w := w_SheetChange) (gm := gm_SheetChange) (rm := r11_0 fuel) (rh := r12_0 fuel) w_SheetChange_pos (fun rec zs k => by simp [r11_0]) (fun zs i hi k hl h0 hk => ?_) (fun rec ys k => by simp [r12_0]) (fun rec ys i hi k k1 hl g h0 => ?_) h0 h
  · have hw := wrap_nat (i := i) (by omega)
    have h1 : (i : Int) < (zs.length : Int) := by omega
    have h30 : ¬ ((3 : Int) = 0) := by decide
    have h30n : ¬ ((3 : Nat) = 0) := by decide
    unfold w_SheetChange at hk ⊢
    generalize en0 : w_SheetLineS (zs[i]).Lines = n0 at hk ⊢
    obtain ⟨l0, ml0, hl0⟩ := mark_SheetLineS (xs := (zs[i]).Lines) (k := k + 1 + 1 + 1 + 1) (by omega) (by rw [en0]; omega)
    rw [en0] at ml0 hl0
    have w0 : IntKind.i64.wrap (k + 1) = k + 1 := wrap_id (by omega) (by omega)
    have w1 : IntKind.i64.wrap (k + 1 + 1) = k + 1 + 1 := wrap_id (by omega) (by omega)
    have w2 : IntKind.i64.wrap (k + 1 + 1 + 1) = k + 1 + 1 + 1 := wrap_id (by omega) (by omega)
    have w3 : IntKind.i64.wrap (k + 1 + 1 + 1 + 1) = k + 1 + 1 + 1 + 1 := wrap_id (by omega) (by omega)
    have he : k + ((4 + n0 : Nat) : Int) = k + 1 + 1 + 1 + 1 + (n0 : Int) := by omega
    rw [he]
    refine ⟨(⟨k, mt (k + 1), mt (k + 1 + 1), mt (k + 1 + 1 + 1), l0⟩ : VSheetChange), fun rec => ?_, ⟨l0, n0, rfl, hl0, rfl, by omega⟩⟩
    simp only [r11_0]
    rw [hw]
    simp only [get_cast hi, List.getElem?_eq_getElem hi, h30, h30n, decide_false, h1, w0, w1, w2, w3, ml0, g28_mt (k := k + 1) (by omega) (by omega), g28_mt (k := k + 1 + 1) (by omega) (by omega), g28_mt (k := k + 1 + 1 + 1) (by omega) (by omega), decide_true, cond_true, cond_false, Int.natCast_nonneg, Option.bind_some, Int.toNat_natCast, List.length_set, List.set_set, List.getElem?_set_self hi]
  · obtain ⟨l0, n0, e, hl0, rfl, hb⟩ := g
    have hw := wrap_nat (i := i) (by omega)
    have h1 : (i : Int) < (ys.length : Int) := by omega
    have h30 : ¬ ((3 : Int) = 0) := by decide
    have h30n : ¬ ((3 : Nat) = 0) := by decide
    have w0 : IntKind.i64.wrap (k + 1) = k + 1 := wrap_id (by omega) (by omega)
    have w1 : IntKind.i64.wrap (k + 1 + 1) = k + 1 + 1 := wrap_id (by omega) (by omega)
    have w2 : IntKind.i64.wrap (k + 1 + 1 + 1) = k + 1 + 1 + 1 := wrap_id (by omega) (by omega)
    have w3 : IntKind.i64.wrap (k + 1 + 1 + 1 + 1) = k + 1 + 1 + 1 + 1 := wrap_id (by omega) (by omega)
    have q0 : ¬ (k + 1 + 1 + 1 + 1 + (n0 : Int) < 0) := by omega
    simp only [r12_0]
    rw [hw]
    simp only [get_cast hi, e, h30, h30n, decide_false, h1, w0, w1, w2, w3, q0, hl0, g28_mt (k := k + 1) (by omega) (by omega), g28_mt (k := k + 1 + 1) (by omega) (by omega), g28_mt (k := k + 1 + 1 + 1) (by omega) (by omega), decide_true, decide_false, cond_true, cond_false, Int.natCast_nonneg, Option.bind_some, bne_self_eq_false, beq_self_eq_true, Bool.not_true]
def w_SheetBlock (x : VSheetBlock) : Nat := 2 + w_SheetLineS x.Lines
def w_SheetBlockS (xs : List VSheetBlock) : Nat := (xs.map w_SheetBlock).sum
theorem w_SheetBlock_pos (x : VSheetBlock) : 1 ≤ w_SheetBlock x := by unfold w_SheetBlock; omega
theorem w_SheetBlockS_len (xs : List VSheetBlock) : xs.length ≤ w_SheetBlockS xs := len_sum w_SheetBlock_pos xs
theorem eq_SheetBlock {x : VSheetBlock} (h : w_SheetBlock x ≤ 1152921504606846976) : G48 x x = some true := by
  unfold w_SheetBlock at h
  simp only [G9, G9n, G25, G25n, G48, G48n, G66, G66n, eq_SheetLineS (xs := x.Lines) (by omega), bne_self_eq_false, cond_false, decide_true, Bool.not_true, Option.bind_some, beq_self_eq_true]
theorem eq_SheetBlockS {xs : List VSheetBlock} (h : w_SheetBlockS xs ≤ 1152921504606846976) : G26 xs xs = some true := by
  have hl := w_SheetBlockS_len xs
  unfold G26 G26n
  simp only [bne_self_eq_false, cond_false]
  refine eq_lp (rnd := r26_0 fuel) (by omega) (fun rec => by simp [r26_0]) (fun rec i hi => ?_)
  have hw := wrap_nat (i := i) (by omega)
  have h1 : (i : Int) < (xs.length : Int) := by omega
  have he := eq_SheetBlock (x := xs[i]) (by have := sum_get (w := w_SheetBlock) hi; unfold w_SheetBlockS at h; omega)
  simp only [r26_0]
  rw [get_cast hi, hw]
  simp only [h1, decide_true, cond_true, Int.natCast_nonneg, Option.bind_some, bne_self_eq_false, Bool.not_true, cond_false, he]
set_option maxHeartbeats 2000000 in
theorem markO_SheetBlockS {xs : List VSheetBlock} {k : Int} (h0 : 0 ≤ k) (h : k + (w_SheetBlockS xs : Int) ≤ 1152921504606846976) : ∃ ys : List VSheetBlock, G27 xs k = some (ys, k + (w_SheetBlockS xs : Int)) := by
  have hlw := w_SheetBlockS_len xs
  have key := mark_lp (α := VSheetBlock) (w := w_SheetBlock) (gm := fun _ _ _ => True) (rnd := r27_0 fuel) (fun rec zs k => by simp [r27_0]) (fun zs i hi k hl h0 hk => ?_) fuel 0 xs k (by omega) (Nat.zero_le _) (by have := fuel_big2; omega) h0 (by simpa [w_SheetBlockS] using h)
  · obtain ⟨ys, e, _⟩ := key
    refine ⟨ys, ?_⟩
    unfold G27 G27n LP27_0 w_SheetBlockS
    simpa using e
  · have hw := wrap_nat (i := i) (by omega)
    have h1 : (i : Int) < (zs.length : Int) := by omega
    have h30 : ¬ ((3 : Int) = 0) := by decide
    have h30n : ¬ ((3 : Nat) = 0) := by decide
    unfold w_SheetBlock at hk ⊢
    generalize en0 : w_SheetLineS (zs[i]).Lines = n0 at hk ⊢
    obtain ⟨l0, ml0, hl0⟩ := mark_SheetLineS (xs := (zs[i]).Lines) (k := k + 1 + 1) (by omega) (by rw [en0]; omega)
    rw [en0] at ml0 hl0
    have w0 : IntKind.i64.wrap (k + 1) = k + 1 := wrap_id (by omega) (by omega)
    have w1 : IntKind.i64.wrap (k + 1 + 1) = k + 1 + 1 := wrap_id (by omega) (by omega)
    have he : k + ((2 + n0 : Nat) : Int) = k + 1 + 1 + (n0 : Int) := by omega
    rw [he]
    refine ⟨(⟨mt (k), mt (k + 1), l0⟩ : VSheetBlock), fun rec => ?_, trivial⟩
    simp only [r27_0]
    rw [hw]
    simp only [get_cast hi, List.getElem?_eq_getElem hi, h30, h30n, decide_false, h1, w0, w1, ml0, g28_mt (k := k) (by omega) (by omega), g28_mt (k := k + 1) (by omega) (by omega), decide_true, cond_true, cond_false, Int.natCast_nonneg, Option.bind_some, Int.toNat_natCast, List.length_set, List.set_set, List.getElem?_set_self hi]
end Go.Proofs.YtadopcpehgblcaaDoor.Ab

/- A codec, printed by codec.py: what a kind tells. -/
set_option linter.unusedVariables false
namespace Go.Proofs.YtadopcpehgblcaaDoor.Ab
open Go Go.RowKit
theorem ek3 : ∀ ls : List (Lf C), kindsB [.int .i64] ls = true → ∃ x, d3 ls = some x := by
  intro ls0 g0
  obtain ⟨l0, ls1, rfl, h0, g1⟩ := kinds_cons g0
  obtain ⟨x0, rfl⟩ := kind_int h0
  obtain rfl := kinds_nil g1
  exact ⟨_, rfl⟩
theorem ek5 : ∀ ls : List (Lf C), kindsB [.int .u8] ls = true → ∃ x, d5 ls = some x := by
  intro ls0 g0
  obtain ⟨l0, ls1, rfl, h0, g1⟩ := kinds_cons g0
  obtain ⟨x0, rfl⟩ := kind_int h0
  obtain rfl := kinds_nil g1
  exact ⟨_, rfl⟩
theorem ek9 : ∀ ls : List (Lf C), kindsB [.str] ls = true → ∃ x, d9 ls = some x := by
  intro ls0 g0
  obtain ⟨l0, ls1, rfl, h0, g1⟩ := kinds_cons g0
  obtain ⟨x0, rfl⟩ := kind_str h0
  obtain rfl := kinds_nil g1
  exact ⟨_, rfl⟩
theorem ek24 : ∀ ls : List (Lf C), kindsB [.sli .e65] ls = true → ∃ x, d24 ls = some x := by
  intro ls0 g0
  obtain ⟨l0, ls1, rfl, h0, g1⟩ := kinds_cons g0
  obtain ⟨x0, rfl⟩ := kind_sli h0
  obtain rfl := kinds_nil g1
  exact ⟨_, rfl⟩
theorem ek30 : ∀ ls : List (Lf C), kindsB [.sli .e42] ls = true → ∃ x, d30 ls = some x := by
  intro ls0 g0
  obtain ⟨l0, ls1, rfl, h0, g1⟩ := kinds_cons g0
  obtain ⟨x0, rfl⟩ := kind_sli h0
  obtain rfl := kinds_nil g1
  exact ⟨_, rfl⟩
theorem ek42 : ∀ ls : List (Lf C), kindsB [.str, .str, .sli .e70] ls = true → ∃ x, d42 ls = some x := by
  intro ls0 g0
  obtain ⟨l0, ls1, rfl, h0, g1⟩ := kinds_cons g0
  obtain ⟨x0, rfl⟩ := kind_str h0
  obtain ⟨l1, ls2, rfl, h1, g2⟩ := kinds_cons g1
  obtain ⟨x1, rfl⟩ := kind_str h1
  obtain ⟨l2, ls3, rfl, h2, g3⟩ := kinds_cons g2
  obtain ⟨x2, rfl⟩ := kind_sli h2
  obtain rfl := kinds_nil g3
  exact ⟨_, rfl⟩
theorem ek44 : ∀ ls : List (Lf C), kindsB [.int .i64, .str, .str, .str, .sli .e70] ls = true → ∃ x, d44 ls = some x := by
  intro ls0 g0
  obtain ⟨l0, ls1, rfl, h0, g1⟩ := kinds_cons g0
  obtain ⟨x0, rfl⟩ := kind_int h0
  obtain ⟨l1, ls2, rfl, h1, g2⟩ := kinds_cons g1
  obtain ⟨x1, rfl⟩ := kind_str h1
  obtain ⟨l2, ls3, rfl, h2, g3⟩ := kinds_cons g2
  obtain ⟨x2, rfl⟩ := kind_str h2
  obtain ⟨l3, ls4, rfl, h3, g4⟩ := kinds_cons g3
  obtain ⟨x3, rfl⟩ := kind_str h3
  obtain ⟨l4, ls5, rfl, h4, g5⟩ := kinds_cons g4
  obtain ⟨x4, rfl⟩ := kind_sli h4
  obtain rfl := kinds_nil g5
  exact ⟨_, rfl⟩
theorem ek54 : ∀ ls : List (Lf C), kindsB [.str, .sli .e3, .bool, .sli .e9] ls = true → ∃ x, d54 ls = some x := by
  intro ls0 g0
  obtain ⟨l0, ls1, rfl, h0, g1⟩ := kinds_cons g0
  obtain ⟨x0, rfl⟩ := kind_str h0
  obtain ⟨l1, ls2, rfl, h1, g2⟩ := kinds_cons g1
  obtain ⟨x1, rfl⟩ := kind_sli h1
  obtain ⟨l2, ls3, rfl, h2, g3⟩ := kinds_cons g2
  obtain ⟨x2, rfl⟩ := kind_bool h2
  obtain ⟨l3, ls4, rfl, h3, g4⟩ := kinds_cons g3
  obtain ⟨x3, rfl⟩ := kind_sli h3
  obtain rfl := kinds_nil g4
  exact ⟨_, rfl⟩
theorem ek65 : ∀ ls : List (Lf C), kindsB [.str, .str, .sli .e93] ls = true → ∃ x, d65 ls = some x := by
  intro ls0 g0
  obtain ⟨l0, ls1, rfl, h0, g1⟩ := kinds_cons g0
  obtain ⟨x0, rfl⟩ := kind_str h0
  obtain ⟨l1, ls2, rfl, h1, g2⟩ := kinds_cons g1
  obtain ⟨x1, rfl⟩ := kind_str h1
  obtain ⟨l2, ls3, rfl, h2, g3⟩ := kinds_cons g2
  obtain ⟨x2, rfl⟩ := kind_sli h2
  obtain rfl := kinds_nil g3
  exact ⟨_, rfl⟩
theorem ek70 : ∀ ls : List (Lf C), kindsB [.str, .sli .e9] ls = true → ∃ x, d70 ls = some x := by
  intro ls0 g0
  obtain ⟨l0, ls1, rfl, h0, g1⟩ := kinds_cons g0
  obtain ⟨x0, rfl⟩ := kind_str h0
  obtain ⟨l1, ls2, rfl, h1, g2⟩ := kinds_cons g1
  obtain ⟨x1, rfl⟩ := kind_sli h1
  obtain rfl := kinds_nil g2
  exact ⟨_, rfl⟩
theorem ek93 : ∀ ls : List (Lf C), kindsB [.str, .sli .e9] ls = true → ∃ x, d93 ls = some x := by
  intro ls0 g0
  obtain ⟨l0, ls1, rfl, h0, g1⟩ := kinds_cons g0
  obtain ⟨x0, rfl⟩ := kind_str h0
  obtain ⟨l1, ls2, rfl, h1, g2⟩ := kinds_cons g1
  obtain ⟨x1, rfl⟩ := kind_sli h1
  obtain rfl := kinds_nil g2
  exact ⟨_, rfl⟩
def okT : Ty → Bool
  | .e3 => true
  | .e5 => true
  | .e9 => true
  | .e24 => true
  | .e30 => true
  | .e42 => true
  | .e44 => true
  | .e54 => true
  | .e65 => true
  | .e70 => true
  | .e93 => true
set_option maxRecDepth 100000 in
theorem tab_ok : Tab Go.Proofs.Tryd.prog KK (lk tks) okT := by
  refine tab_of tks_ok els_ok (by kernel_rfl) fun t ht => ?_
  cases t
  · exact ⟨_, rfl, rfl, ek3⟩
  · exact ⟨_, rfl, rfl, ek5⟩
  · exact ⟨_, rfl, rfl, ek9⟩
  · exact ⟨_, rfl, rfl, ek24⟩
  · exact ⟨_, rfl, rfl, ek30⟩
  · exact ⟨_, rfl, rfl, ek42⟩
  · exact ⟨_, rfl, rfl, ek44⟩
  · exact ⟨_, rfl, rfl, ek54⟩
  · exact ⟨_, rfl, rfl, ek65⟩
  · exact ⟨_, rfl, rfl, ek70⟩
  · exact ⟨_, rfl, rfl, ek93⟩
end Go.Proofs.YtadopcpehgblcaaDoor.Ab

/- The plain law: the size guards and the copies of the law's own helpers. Printed out of the types. -/
set_option linter.unusedVariables false
set_option linter.unusedSimpArgs false
set_option maxRecDepth 10000
namespace Go.Proofs.YtadopcpehgblcaaDoor.Ab
open Go Go.RowKit

theorem take_set {α : Type} {xs ys : List α} {i : Nat} (hi : i < xs.length) (e : xs.length = ys.length) : (xs.take i ++ ys.drop i).set i xs[i] = xs.take (i + 1) ++ ys.drop (i + 1) := by
  have hl : (xs.take i).length = i := by simp; omega
  rw [List.set_append_right _ _ (by omega), hl, Nat.sub_self, List.drop_eq_getElem_cons (show i < ys.length by omega), List.set_cons_zero, ← List.take_append_getElem hi, List.append_assoc]
  rfl
theorem get_mix {α : Type} {xs ys : List α} {i : Nat} (hi : i < xs.length) (e : xs.length = ys.length) : (xs.take i ++ ys.drop i)[((i : Int)).toNat]? = some (ys[i]'(by omega)) := by
  have hl : (xs.take i).length = i := by simp; omega
  rw [Int.toNat_natCast, List.getElem?_append_right (by omega), hl, Nat.sub_self, List.getElem?_drop, Nat.add_zero, List.getElem?_eq_getElem (by omega)]
theorem len_mix {α : Type} {xs ys : List α} {i : Nat} (hi : i ≤ xs.length) (e : xs.length = ys.length) : (xs.take i ++ ys.drop i).length = xs.length := by
  simp; omega
theorem max_len {n : Nat} (h : n ≤ maxLen) : n ≤ 9223372036854775807 := h
theorem sub_wrap {a : Int} {n : Nat} (h0 : 0 ≤ a) (h1 : a ≤ 1048576) (h2 : n ≤ 9223372036854775807) : IntKind.i64.wrap (a - (n : Int)) = a - (n : Int) := wrap_id (by omega) (by omega)
/-- What a size guard says: a rest below nought, or the rest when the size is taken off. -/
def Szd (a : Int) (s : Nat) (o : Option Int) : Prop := ∃ r, o = some r ∧ (r < 0 ∨ (0 ≤ r ∧ r + (s : Int) = a))
theorem szd_sub {a : Int} {n s : Nat} {o : Option Int} (h0 : 0 ≤ a) (h1 : a ≤ 1048576) (h2 : n ≤ 9223372036854775807) (hk : 0 ≤ IntKind.i64.wrap (a - (n : Int)) → IntKind.i64.wrap (a - (n : Int)) + n = a → Szd (IntKind.i64.wrap (a - (n : Int))) s o) : Szd a (n + s) (cond (decide (IntKind.i64.wrap (a - (n : Int)) < 0)) (some (-1)) o) := by
  rw [sub_wrap h0 h1 h2] at hk ⊢
  by_cases hc : a - (n : Int) < 0
  · simp only [hc, decide_true, cond_true]
    exact ⟨-1, rfl, Or.inl (by omega)⟩
  · simp only [hc, decide_false, cond_false]
    obtain ⟨r, e, hr⟩ := hk (by omega) (by omega)
    refine ⟨r, e, hr.imp id fun ⟨x, y⟩ => ⟨x, by omega⟩⟩
theorem szd_ret {a : Int} (h0 : 0 ≤ a) : Szd a 0 (some a) := ⟨a, rfl, Or.inr ⟨h0, by omega⟩⟩
theorem szd_bind {a : Int} {s t : Nat} {o : Option Int} {k : Int → Option Int} (h : Szd a s o) (hk : ∀ b, 0 ≤ b → b + (s : Int) = a → Szd b t (k b)) : Szd a (s + t) (Option.bind o fun r => cond (decide (r < 0)) (some (-1)) (k r)) := by
  obtain ⟨r, rfl, hr | ⟨x, y⟩⟩ := h
  · simp only [Option.bind_some, hr, decide_true, cond_true]
    exact ⟨-1, rfl, Or.inl (by omega)⟩
  · have : ¬ r < 0 := by omega
    simp only [Option.bind_some, this, decide_false, cond_false]
    obtain ⟨r', e, hr⟩ := hk r x y
    exact ⟨r', e, hr.imp id fun ⟨x, y⟩ => ⟨x, by omega⟩⟩
theorem szd_lp {α : Type} {xs : List α} {s : α → Nat} {rnd : (List α × Int × Int → Option Int) → List α × Int × Int → Option Int}
    (hend : ∀ rec a, rnd rec (xs, a, (xs.length : Int)) = some a)
    (hstep : ∀ rec a t i (hi : i < xs.length), 0 ≤ a → a ≤ 1048576 → (∀ b, 0 ≤ b → b + (s xs[i] : Int) = a → Szd b t (rec (xs, b, ((i + 1 : Nat) : Int)))) → Szd a (s xs[i] + t) (rnd rec (xs, a, (i : Int)))) :
    ∀ n i a, i ≤ xs.length → xs.length - i < n → 0 ≤ a → a ≤ 1048576 → Szd a (((xs.drop i).map s).sum) (lpN rnd n (xs, a, (i : Int))) := by
  intro n
  induction n with
  | zero => intro i a _ h; omega
  | succ n ih =>
    intro i a hi hn h0 h1
    rw [lp_succ]
    rcases Nat.lt_or_ge i xs.length with h | h
    · rw [sum_drop h]
      exact hstep _ _ _ i h h0 h1 fun b hb he => ih (i + 1) b (by omega) (by omega) hb (by omega)
    · obtain rfl : i = xs.length := by omega
      rw [hend]
      simpa using szd_ret h0
theorem w_sum {α : Type} {w s : α → Nat} (h : ∀ x, w x ≤ 64 * (1 + s x)) : ∀ xs : List α, (xs.map w).sum ≤ 64 * (xs.length + (xs.map s).sum)
  | [] => by simp
  | x :: t => by have := w_sum h t; have := h x; simp only [List.length_cons, List.map_cons, List.sum_cons]; omega
theorem copy_lp {α : Type} {xs : List α} {rnd : (List α × List α × Int → Option (List α)) → List α × List α × Int → Option (List α)}
    (hl : xs.length ≤ 1048576) (hend : ∀ rec ys, rnd rec (xs, ys, (xs.length : Int)) = some ys)
    (hstep : ∀ rec ys i (hi : i < xs.length) (hy : i < ys.length), rnd rec (xs, ys, (i : Int)) = rec (xs, ys.set i xs[i], ((i + 1 : Nat) : Int))) (ys : List α) (e : xs.length = ys.length) : lpN rnd fuel (xs, ys, 0) = some xs := by
  have key := lp_idx (rnd := rnd) (st := fun i => (xs, xs.take i ++ ys.drop i, (i : Int))) (val := fun i => some xs) xs.length (fun rec => by rw [hend]; simp [e, List.take_of_length_le (Nat.le_of_eq e)]) (fun rec i hi hr => by
    rw [hstep rec _ i hi (by rw [len_mix (by omega) e]; exact hi), take_set hi e]
    exact hr) fuel 0 (Nat.zero_le _) (by have := fuel_big2; omega)
  simpa using key

def s_String (x : ByteArray) : Nat := x.size
def sm_String (x : ByteArray) : Prop := x.size ≤ 9223372036854775807
def s_StringS (xs : List ByteArray) : Nat := xs.length + (xs.map s_String).sum
theorem s_StringS_len (xs : List ByteArray) : xs.length ≤ s_StringS xs := by unfold s_StringS; omega
theorem s_StringS_get {xs : List ByteArray} {i : Nat} (hi : i < xs.length) : s_String xs[i] ≤ s_StringS xs := by have := sum_get (w := s_String) hi; unfold s_StringS; omega
theorem s_StringS_mem {xs : List ByteArray} {x : ByteArray} (h : x ∈ xs) : s_String x ≤ s_StringS xs := by obtain ⟨i, hi, rfl⟩ := List.mem_iff_getElem.1 h; exact s_StringS_get hi
theorem ws_String (x : ByteArray) : w_String x ≤ 64 * (1 + s_String x) := by
  simp only [w_String, s_String]; omega
theorem ws_StringS (xs : List ByteArray) : w_StringS xs ≤ 64 * s_StringS xs := w_sum ws_String xs
theorem sm_String_of {x : C .e9} (h : ∀ (i : Nat) (l : Lf C), (KK.enc .e9 x)[i]? = some l → Sm KK l) : sm_String x := by
  have := h 0 _ rfl
  cases this; exact max_len ‹_›
theorem sm_StringS_of {xs : List (C .e9)} (h : Sm KK (.row .e9 xs)) : xs.length ≤ 9223372036854775807 ∧ ∀ y ∈ xs, sm_String y := by
  cases h with
  | row _ _ hl hs =>
    refine ⟨max_len hl, fun y hy => ?_⟩
    obtain ⟨j, hj, rfl⟩ := List.mem_iff_getElem.1 hy
    exact sm_String_of (fun i l e => hs j hj i l e)
theorem sz_StringS {xs : List ByteArray} (h : xs.length ≤ 9223372036854775807) (hs : ∀ y ∈ xs, sm_String y) {a : Int} (h0 : 0 ≤ a) (h1 : a ≤ 1048576) : Szd a (s_StringS xs) (G76 xs a) := by
  unfold G76 G76n s_StringS
  refine szd_sub h0 h1 h fun b0 c0 => ?_
  refine szd_lp (rnd := r76_0 fuel) (s := s_String) (fun rec a => by simp [r76_0]) (fun rec a t i hi h0 h1 hr => ?_) fuel 0 _ (Nat.zero_le _) (by have := fuel_big; omega) b0 (by omega)
  have hw := wrap_nat (i := i) (by omega)
  have h1' : (i : Int) < (xs.length : Int) := by omega
  simp only [r76_0]
  rw [get_cast hi, hw]
  simp only [h1', decide_true, cond_true, Int.natCast_nonneg, Option.bind_some]
  exact szd_sub (n := xs[i].size) h0 h1 (hs _ (List.getElem_mem hi)) fun b c => hr _ b c
theorem to_StringS {xs : List ByteArray} (h : s_StringS xs ≤ 1048576) : G78 xs = some xs := by
  have hl := s_StringS_len xs
  unfold G78 G78n
  have h1 : (xs.length : Int) * 16 ≤ 140737488355328 := by omega
  simp only [h1, decide_true, cond_true, Int.natCast_nonneg]
  refine copy_lp (rnd := r78_0 fuel) (by omega) (fun rec ys => by simp [r78_0]) (fun rec ys i hi hy => ?_) _ (by simp)
  have hw := wrap_nat (i := i) (by omega)
  have h1 : (i : Int) < (xs.length : Int) := by omega
  have h2 : (i : Int) < (ys.length : Int) := by omega
  simp only [r78_0]
  rw [get_cast hi, get_cast hy, hw]
  simp only [h1, h2, decide_true, cond_true, Int.natCast_nonneg, Option.bind_some, Int.toNat_natCast]
def s_SheetLine (x : VSheetLine) : Nat := x.Key.size + (s_StringS x.Words + (0))
def sm_SheetLine (x : VSheetLine) : Prop := x.Key.size ≤ 9223372036854775807 ∧ (x.Words.length ≤ 9223372036854775807 ∧ ∀ y ∈ x.Words, sm_String y) ∧ True
def s_SheetLineS (xs : List VSheetLine) : Nat := xs.length + (xs.map s_SheetLine).sum
theorem s_SheetLineS_len (xs : List VSheetLine) : xs.length ≤ s_SheetLineS xs := by unfold s_SheetLineS; omega
theorem s_SheetLineS_get {xs : List VSheetLine} {i : Nat} (hi : i < xs.length) : s_SheetLine xs[i] ≤ s_SheetLineS xs := by have := sum_get (w := s_SheetLine) hi; unfold s_SheetLineS; omega
theorem s_SheetLineS_mem {xs : List VSheetLine} {x : VSheetLine} (h : x ∈ xs) : s_SheetLine x ≤ s_SheetLineS xs := by obtain ⟨i, hi, rfl⟩ := List.mem_iff_getElem.1 h; exact s_SheetLineS_get hi
theorem ws_SheetLine (x : VSheetLine) : w_SheetLine x ≤ 64 * (1 + s_SheetLine x) := by
  have := w_sum ws_String x.Words
  simp only [w_SheetLine, s_SheetLine, w_StringS, s_StringS]; omega
theorem ws_SheetLineS (xs : List VSheetLine) : w_SheetLineS xs ≤ 64 * s_SheetLineS xs := w_sum ws_SheetLine xs
theorem sm_SheetLine_of {x : C .e93} (h : ∀ (i : Nat) (l : Lf C), (KK.enc .e93 x)[i]? = some l → Sm KK l) : sm_SheetLine x := by
  refine ⟨?_, ⟨?_, ?_⟩, trivial⟩
  · have := h 0 _ rfl
    cases this; exact max_len ‹_›
  · have := h 1 _ rfl
    cases this; exact max_len ‹_›
  · intro y hy
    obtain ⟨j, hj, rfl⟩ := List.mem_iff_getElem.1 hy
    have := h 1 _ rfl
    cases this with
    | row _ _ hl hs => exact sm_String_of (fun i l e => hs j hj i l e)
theorem sm_SheetLineS_of {xs : List (C .e93)} (h : Sm KK (.row .e93 xs)) : xs.length ≤ 9223372036854775807 ∧ ∀ y ∈ xs, sm_SheetLine y := by
  cases h with
  | row _ _ hl hs =>
    refine ⟨max_len hl, fun y hy => ?_⟩
    obtain ⟨j, hj, rfl⟩ := List.mem_iff_getElem.1 hy
    exact sm_SheetLine_of (fun i l e => hs j hj i l e)
theorem sz_SheetLine {x : VSheetLine} (h : sm_SheetLine x) {a : Int} (h0 : 0 ≤ a) (h1 : a ≤ 1048576) : Szd a (s_SheetLine x) (G67 x a) := by
  obtain ⟨m0, m1, -⟩ := h
  unfold G67 G67n s_SheetLine
  refine szd_sub h0 h1 m0 fun b0 c0 => ?_
  refine szd_bind (sz_StringS m1.1 m1.2 b0 (by omega)) fun x1 b1 c1 => ?_
  exact szd_ret b1
theorem sz_SheetLineS {xs : List VSheetLine} (h : xs.length ≤ 9223372036854775807) (hs : ∀ y ∈ xs, sm_SheetLine y) {a : Int} (h0 : 0 ≤ a) (h1 : a ≤ 1048576) : Szd a (s_SheetLineS xs) (G51 xs a) := by
  unfold G51 G51n s_SheetLineS
  refine szd_sub h0 h1 h fun b0 c0 => ?_
  refine szd_lp (rnd := r51_0 fuel) (s := s_SheetLine) (fun rec a => by simp [r51_0]) (fun rec a t i hi h0 h1 hr => ?_) fuel 0 _ (Nat.zero_le _) (by have := fuel_big; omega) b0 (by omega)
  have hw := wrap_nat (i := i) (by omega)
  have h1' : (i : Int) < (xs.length : Int) := by omega
  simp only [r51_0]
  rw [get_cast hi, hw]
  simp only [h1', decide_true, cond_true, Int.natCast_nonneg, Option.bind_some]
  exact szd_bind (sz_SheetLine (hs _ (List.getElem_mem hi)) h0 h1) fun b b0 b1 => hr b b0 b1
theorem to_SheetLine {x : VSheetLine} (h : s_SheetLine x ≤ 1048576) : G70 x = some x := by
  unfold s_SheetLine at h
  unfold G70 G70n
  simp only [to_StringS (xs := x.Words) (by omega), Option.bind_some]
theorem to_SheetLineS {xs : List VSheetLine} (h : s_SheetLineS xs ≤ 1048576) : G59 xs = some xs := by
  have hl := s_SheetLineS_len xs
  unfold G59 G59n
  have h1 : (xs.length : Int) * 40 ≤ 140737488355328 := by omega
  simp only [h1, decide_true, cond_true, Int.natCast_nonneg]
  refine copy_lp (rnd := r59_0 fuel) (by omega) (fun rec ys => by simp [r59_0]) (fun rec ys i hi hy => ?_) _ (by simp)
  have hw := wrap_nat (i := i) (by omega)
  have h1 : (i : Int) < (xs.length : Int) := by omega
  have h2 : (i : Int) < (ys.length : Int) := by omega
  have he := to_SheetLine (x := xs[i]) (by have := s_SheetLineS_get hi; omega)
  simp only [r59_0]
  rw [get_cast hi, get_cast hy, hw]
  simp only [h1, h2, decide_true, cond_true, Int.natCast_nonneg, Option.bind_some, Int.toNat_natCast, he]
def s_SheetBlock (x : VSheetBlock) : Nat := x.Kind.size + (x.Name.size + (s_SheetLineS x.Lines + (0)))
def sm_SheetBlock (x : VSheetBlock) : Prop := x.Kind.size ≤ 9223372036854775807 ∧ x.Name.size ≤ 9223372036854775807 ∧ (x.Lines.length ≤ 9223372036854775807 ∧ ∀ y ∈ x.Lines, sm_SheetLine y) ∧ True
def s_SheetBlockS (xs : List VSheetBlock) : Nat := xs.length + (xs.map s_SheetBlock).sum
theorem s_SheetBlockS_len (xs : List VSheetBlock) : xs.length ≤ s_SheetBlockS xs := by unfold s_SheetBlockS; omega
theorem s_SheetBlockS_get {xs : List VSheetBlock} {i : Nat} (hi : i < xs.length) : s_SheetBlock xs[i] ≤ s_SheetBlockS xs := by have := sum_get (w := s_SheetBlock) hi; unfold s_SheetBlockS; omega
theorem s_SheetBlockS_mem {xs : List VSheetBlock} {x : VSheetBlock} (h : x ∈ xs) : s_SheetBlock x ≤ s_SheetBlockS xs := by obtain ⟨i, hi, rfl⟩ := List.mem_iff_getElem.1 h; exact s_SheetBlockS_get hi
theorem ws_SheetBlock (x : VSheetBlock) : w_SheetBlock x ≤ 64 * (1 + s_SheetBlock x) := by
  have := w_sum ws_SheetLine x.Lines
  simp only [w_SheetBlock, s_SheetBlock, w_SheetLineS, s_SheetLineS]; omega
theorem ws_SheetBlockS (xs : List VSheetBlock) : w_SheetBlockS xs ≤ 64 * s_SheetBlockS xs := w_sum ws_SheetBlock xs
theorem sm_SheetBlock_of {x : C .e65} (h : ∀ (i : Nat) (l : Lf C), (KK.enc .e65 x)[i]? = some l → Sm KK l) : sm_SheetBlock x := by
  refine ⟨?_, ?_, ⟨?_, ?_⟩, trivial⟩
  · have := h 0 _ rfl
    cases this; exact max_len ‹_›
  · have := h 1 _ rfl
    cases this; exact max_len ‹_›
  · have := h 2 _ rfl
    cases this; exact max_len ‹_›
  · intro y hy
    obtain ⟨j, hj, rfl⟩ := List.mem_iff_getElem.1 hy
    have := h 2 _ rfl
    cases this with
    | row _ _ hl hs => exact sm_SheetLine_of (fun i l e => hs j hj i l e)
theorem sm_SheetBlockS_of {xs : List (C .e65)} (h : Sm KK (.row .e65 xs)) : xs.length ≤ 9223372036854775807 ∧ ∀ y ∈ xs, sm_SheetBlock y := by
  cases h with
  | row _ _ hl hs =>
    refine ⟨max_len hl, fun y hy => ?_⟩
    obtain ⟨j, hj, rfl⟩ := List.mem_iff_getElem.1 hy
    exact sm_SheetBlock_of (fun i l e => hs j hj i l e)
theorem sz_SheetBlock {x : VSheetBlock} (h : sm_SheetBlock x) {a : Int} (h0 : 0 ≤ a) (h1 : a ≤ 1048576) : Szd a (s_SheetBlock x) (G31 x a) := by
  obtain ⟨m0, m1, m2, -⟩ := h
  unfold G31 G31n s_SheetBlock
  refine szd_sub h0 h1 m0 fun b0 c0 => ?_
  refine szd_sub b0 (by omega) m1 fun b1 c1 => ?_
  refine szd_bind (sz_SheetLineS m2.1 m2.2 b1 (by omega)) fun x2 b2 c2 => ?_
  exact szd_ret b2
theorem sz_SheetBlockS {xs : List VSheetBlock} (h : xs.length ≤ 9223372036854775807) (hs : ∀ y ∈ xs, sm_SheetBlock y) {a : Int} (h0 : 0 ≤ a) (h1 : a ≤ 1048576) : Szd a (s_SheetBlockS xs) (G13 xs a) := by
  unfold G13 G13n s_SheetBlockS
  refine szd_sub h0 h1 h fun b0 c0 => ?_
  refine szd_lp (rnd := r13_0 fuel) (s := s_SheetBlock) (fun rec a => by simp [r13_0]) (fun rec a t i hi h0 h1 hr => ?_) fuel 0 _ (Nat.zero_le _) (by have := fuel_big; omega) b0 (by omega)
  have hw := wrap_nat (i := i) (by omega)
  have h1' : (i : Int) < (xs.length : Int) := by omega
  simp only [r13_0]
  rw [get_cast hi, hw]
  simp only [h1', decide_true, cond_true, Int.natCast_nonneg, Option.bind_some]
  exact szd_bind (sz_SheetBlock (hs _ (List.getElem_mem hi)) h0 h1) fun b b0 b1 => hr b b0 b1
theorem to_SheetBlock {x : VSheetBlock} (h : s_SheetBlock x ≤ 1048576) : G38 x = some x := by
  unfold s_SheetBlock at h
  unfold G38 G38n
  simp only [to_SheetLineS (xs := x.Lines) (by omega), Option.bind_some]
theorem to_SheetBlockS {xs : List VSheetBlock} (h : s_SheetBlockS xs ≤ 1048576) : G18 xs = some xs := by
  have hl := s_SheetBlockS_len xs
  unfold G18 G18n
  have h1 : (xs.length : Int) * 56 ≤ 140737488355328 := by omega
  simp only [h1, decide_true, cond_true, Int.natCast_nonneg]
  refine copy_lp (rnd := r18_0 fuel) (by omega) (fun rec ys => by simp [r18_0]) (fun rec ys i hi hy => ?_) _ (by simp)
  have hw := wrap_nat (i := i) (by omega)
  have h1 : (i : Int) < (xs.length : Int) := by omega
  have h2 : (i : Int) < (ys.length : Int) := by omega
  have he := to_SheetBlock (x := xs[i]) (by have := s_SheetBlockS_get hi; omega)
  simp only [r18_0]
  rw [get_cast hi, get_cast hy, hw]
  simp only [h1, h2, decide_true, cond_true, Int.natCast_nonneg, Option.bind_some, Int.toNat_natCast, he]
def s_Sheet (x : VSheet) : Nat := s_SheetBlockS x.Blocks + (0)
def sm_Sheet (x : VSheet) : Prop := (x.Blocks.length ≤ 9223372036854775807 ∧ ∀ y ∈ x.Blocks, sm_SheetBlock y) ∧ True
def s_SheetS (xs : List VSheet) : Nat := xs.length + (xs.map s_Sheet).sum
theorem s_SheetS_len (xs : List VSheet) : xs.length ≤ s_SheetS xs := by unfold s_SheetS; omega
theorem s_SheetS_get {xs : List VSheet} {i : Nat} (hi : i < xs.length) : s_Sheet xs[i] ≤ s_SheetS xs := by have := sum_get (w := s_Sheet) hi; unfold s_SheetS; omega
theorem s_SheetS_mem {xs : List VSheet} {x : VSheet} (h : x ∈ xs) : s_Sheet x ≤ s_SheetS xs := by obtain ⟨i, hi, rfl⟩ := List.mem_iff_getElem.1 h; exact s_SheetS_get hi
theorem sz_Sheet {x : VSheet} (h : sm_Sheet x) {a : Int} (h0 : 0 ≤ a) (h1 : a ≤ 1048576) : Szd a (s_Sheet x) (G4 x a) := by
  obtain ⟨m0, -⟩ := h
  unfold G4 G4n s_Sheet
  refine szd_bind (sz_SheetBlockS m0.1 m0.2 h0 h1) fun x0 b0 c0 => ?_
  exact szd_ret b0
theorem to_Sheet {x : VSheet} (h : s_Sheet x ≤ 1048576) : G6 x = some x := by
  unfold s_Sheet at h
  unfold G6 G6n
  simp only [to_SheetBlockS (xs := x.Blocks) (by omega), Option.bind_some]
end Go.Proofs.YtadopcpehgblcaaDoor.Ab

/- The plain law of SheetDiff: both tell the same differences. -/
set_option linter.unusedVariables false
set_option linter.unusedSimpArgs false
namespace Go.Proofs.YtadopcpehgblcaaDoor.Ab
open Go Go.RowKit

section
variable {al bl : List VSheetLine} (al1 : al.length ≤ 1048576) (alx : ∀ l ∈ al, Lok l) (hl : bl.length ≤ 1048576) (hx : ∀ l ∈ bl, Lok l) {out : List VSheetChange} (ho : out.length ≤ 100000000) (j : Int) (k n key : ByteArray)
  (rec1 : A7_1 → Option (List VSheetChange)) (rec2 : A7_2 → Option (List VSheetChange))
abbrev resD (al bl : List VSheetLine) (out : List VSheetChange) (j : Int) (k n key : ByteArray) (rec2 : A7_2 → Option (List VSheetChange)) : Option (List VSheetChange) :=
    rec2 (out ++ cond (decide (ofL al key = ofL bl key)) [] [⟨cond (((ofL bl key).length : Int) == 0) 4 3, k, n, key, ofL bl key⟩], IntKind.i64.wrap (j + 1))
include al1 alx hl hx ho
theorem lp7_3 : lpN (r7_3 key al (al.length : Int) out j bl key k n key fuel rec1 rec2) fuel (([] : List VSheetLine), 0) = resD al bl out j k n key rec2 := by
  refine acc_lp (xs := al) (ofG key) [] 1 al1 (fun x _ => ofG_len key x) _ (fun rec => ?_) (fun rec i hi acc ha => ?_)
  · simp only [r7_3, Int.lt_irrefl, decide_false, cond_false, List.nil_append]
    exact lp7b hl hx ho j (was := ofL al key) (by have := ofL_len al key; omega) (fun l h => alx l (ofL_mem h)) k n key rec1 rec2
  have hw := wrap_nat (i := i) (by omega)
  have h1 : (i : Int) < (al.length : Int) := by omega
  have h3 : ((acc.length + ([al[i]] : List VSheetLine).length) * 40) ≤ 140737488355328 := by simp at ha ⊢; omega
  simp only [r7_3, h1, decide_true, cond_true, Int.natCast_nonneg, get_cast hi, Option.bind_some, hw]
  exact of_step _ rec acc _ _ h3
theorem lp7_5 : lpN (r7_5 key al (al.length : Int) out j bl k n key fuel rec1 rec2) fuel (([] : List VSheetLine), 0) = resD al bl out j k n key rec2 := by
  refine acc_lp (xs := al) (ofG key) [] 1 al1 (fun x _ => ofG_len key x) _ (fun rec => ?_) (fun rec i hi acc ha => ?_)
  · simp only [r7_5, Int.lt_irrefl, decide_false, cond_false, List.nil_append]
    exact lp7b hl hx ho j (was := ofL al key) (by have := ofL_len al key; omega) (fun l h => alx l (ofL_mem h)) k n key rec1 rec2
  have hw := wrap_nat (i := i) (by omega)
  have h1 : (i : Int) < (al.length : Int) := by omega
  have h3 : ((acc.length + ([al[i]] : List VSheetLine).length) * 40) ≤ 140737488355328 := by simp at ha ⊢; omega
  simp only [r7_5, h1, decide_true, cond_true, Int.natCast_nonneg, get_cast hi, Option.bind_some, hw]
  exact of_step _ rec acc _ _ h3
theorem lp7_7 : lpN (r7_7 key al (al.length : Int) out j bl k n key fuel rec1 rec2) fuel (([] : List VSheetLine), 0) = resD al bl out j k n key rec2 := by
  refine acc_lp (xs := al) (ofG key) [] 1 al1 (fun x _ => ofG_len key x) _ (fun rec => ?_) (fun rec i hi acc ha => ?_)
  · simp only [r7_7, Int.lt_irrefl, decide_false, cond_false, List.nil_append]
    exact lp7b hl hx ho j (was := ofL al key) (by have := ofL_len al key; omega) (fun l h => alx l (ofL_mem h)) k n key rec1 rec2
  have hw := wrap_nat (i := i) (by omega)
  have h1 : (i : Int) < (al.length : Int) := by omega
  have h3 : ((acc.length + ([al[i]] : List VSheetLine).length) * 40) ≤ 140737488355328 := by simp at ha ⊢; omega
  simp only [r7_7, h1, decide_true, cond_true, Int.natCast_nonneg, get_cast hi, Option.bind_some, hw]
  exact of_step _ rec acc _ _ h3
theorem lp7_9 : lpN (r7_9 key al (al.length : Int) out j key k n bl key fuel rec1 rec2) fuel (([] : List VSheetLine), 0) = resD al bl out j k n key rec2 := by
  refine acc_lp (xs := al) (ofG key) [] 1 al1 (fun x _ => ofG_len key x) _ (fun rec => ?_) (fun rec i hi acc ha => ?_)
  · simp only [r7_9, Int.lt_irrefl, decide_false, cond_false, List.nil_append]
    exact lp7b hl hx ho j (was := ofL al key) (by have := ofL_len al key; omega) (fun l h => alx l (ofL_mem h)) k n key rec1 rec2
  have hw := wrap_nat (i := i) (by omega)
  have h1 : (i : Int) < (al.length : Int) := by omega
  have h3 : ((acc.length + ([al[i]] : List VSheetLine).length) * 40) ≤ 140737488355328 := by simp at ha ⊢; omega
  simp only [r7_9, h1, decide_true, cond_true, Int.natCast_nonneg, get_cast hi, Option.bind_some, hw]
  exact of_step _ rec acc _ _ h3
theorem lp7_10 : lpN (r7_10 key al (al.length : Int) out j k n bl key fuel rec1 rec2) fuel (([] : List VSheetLine), 0) = resD al bl out j k n key rec2 := by
  refine acc_lp (xs := al) (ofG key) [] 1 al1 (fun x _ => ofG_len key x) _ (fun rec => ?_) (fun rec i hi acc ha => ?_)
  · simp only [r7_10, Int.lt_irrefl, decide_false, cond_false, List.nil_append]
    exact lp7b hl hx ho j (was := ofL al key) (by have := ofL_len al key; omega) (fun l h => alx l (ofL_mem h)) k n key rec1 rec2
  have hw := wrap_nat (i := i) (by omega)
  have h1 : (i : Int) < (al.length : Int) := by omega
  have h3 : ((acc.length + ([al[i]] : List VSheetLine).length) * 40) ≤ 140737488355328 := by simp at ha ⊢; omega
  simp only [r7_10, h1, decide_true, cond_true, Int.natCast_nonneg, get_cast hi, Option.bind_some, hw]
  exact of_step _ rec acc _ _ h3
theorem lp7_11 : lpN (r7_11 key al (al.length : Int) out j k n bl key fuel rec1 rec2) fuel (([] : List VSheetLine), 0) = resD al bl out j k n key rec2 := by
  refine acc_lp (xs := al) (ofG key) [] 1 al1 (fun x _ => ofG_len key x) _ (fun rec => ?_) (fun rec i hi acc ha => ?_)
  · simp only [r7_11, Int.lt_irrefl, decide_false, cond_false, List.nil_append]
    exact lp7b hl hx ho j (was := ofL al key) (by have := ofL_len al key; omega) (fun l h => alx l (ofL_mem h)) k n key rec1 rec2
  have hw := wrap_nat (i := i) (by omega)
  have h1 : (i : Int) < (al.length : Int) := by omega
  have h3 : ((acc.length + ([al[i]] : List VSheetLine).length) * 40) ≤ 140737488355328 := by simp at ha ⊢; omega
  simp only [r7_11, h1, decide_true, cond_true, Int.natCast_nonneg, get_cast hi, Option.bind_some, hw]
  exact of_step _ rec acc _ _ h3
end
theorem lp7_2 {aa : List VSheetBlock} {i : Nat} (hi : i < aa.length) (ha : Bok aa[i]) {bl : List VSheetLine} (hl : bl.length ≤ 1048576) (hx : ∀ l ∈ bl, Lok l) (k n kk : ByteArray) (j : Int) {out : List VSheetChange} (ho : out.length ≤ 90000000) (rec1 : A7_1 → Option (List VSheetChange)) :
    lpN (r7_2 (i : Int) j (rulesOf kk) ((rulesOf kk).length : Int) aa k n bl fuel rec1) fuel (out, 0) = rec1 (out ++ (rulesOf kk).flatMap (chG aa[i].Lines bl k n), IntKind.i64.wrap (j + 1)) := by
  have hr := rules_len kk
  refine acc_lp (xs := rulesOf kk) (chG aa[i].Lines bl k n) out 1 (by omega) (fun x _ => chG_len ..) _ (fun rec => ?_) (fun rec m hm acc hacc => ?_)
  · simp only [r7_2, Int.lt_irrefl, decide_false, cond_false]
  have hw := wrap_nat (i := m) (by omega)
  have h1 : (m : Int) < ((rulesOf kk).length : Int) := by omega
  have hacc' : acc.length ≤ 100000000 := by omega
  simp only [r7_2, h1, decide_true, cond_true, Int.natCast_nonneg, get_cast hm, get_cast hi, Option.bind_some, lp7_3 ha.2.1 ha.2.2 hl hx hacc', lp7_5 ha.2.1 ha.2.2 hl hx hacc', lp7_7 ha.2.1 ha.2.2 hl hx hacc', lp7_9 ha.2.1 ha.2.2 hl hx hacc', lp7_10 ha.2.1 ha.2.2 hl hx hacc', lp7_11 ha.2.1 ha.2.2 hl hx hacc', alt_self, resD, hw]
  rfl
def gX (bs : List VSheetBlock) (x : VSheetBlock) : List VSheetChange := cond (decide (findB bs x.Kind x.Name < 0)) [⟨1, x.Kind, x.Name, ⟨#[]⟩, []⟩] []
def gY (aa : List VSheetBlock) (y : VSheetBlock) : List VSheetChange := cond (decide (findB aa y.Kind y.Name < 0)) [⟨2, y.Kind, y.Name, ⟨#[]⟩, y.Lines⟩] ((rulesOf y.Kind).flatMap (chG (aa.getD (findB aa y.Kind y.Name).toNat block0).Lines y.Lines y.Kind y.Name))
theorem gX_len (bs : List VSheetBlock) (x : VSheetBlock) : (gX bs x).length ≤ 1 := by unfold gX; cases decide (findB bs x.Kind x.Name < 0) <;> simp
theorem gY_len (aa : List VSheetBlock) (y : VSheetBlock) : (gY aa y).length ≤ 12 := by
  unfold gY
  cases decide (findB aa y.Kind y.Name < 0) with
  | true => simp
  | false =>
    have h1 := rules_len y.Kind
    have h2 := flat_len (c := 1) (rulesOf y.Kind) fun r _ => chG_len (aa.getD (findB aa y.Kind y.Name).toNat block0).Lines y.Lines y.Kind y.Name r
    simp only [cond_false]
    omega
theorem add_step {R : Type} (b : Bool) (rec : List VSheetChange × Int → Option R) (acc : List VSheetChange) (c : VSheetChange) (j : Int) (h3 : acc.length ≤ 100000000) :
    cond b (cond (decide ((acc.length + ([c] : List VSheetChange).length) * 80 ≤ 140737488355328)) (rec (acc ++ [c], j)) none) (rec (acc, j)) = rec (acc ++ cond b [c] [], j) := by
  have h1 : (acc.length + 1) * 80 ≤ 140737488355328 := by omega
  cases b with
  | true => simp [h1]
  | false => simp
section
variable {aa bs : List VSheetBlock} (la : aa.length ≤ 60) (lb : bs.length ≤ 60) (ha : ∀ b ∈ aa, Bok b) (hb : ∀ b ∈ bs, Bok b) {out : List VSheetChange} (ho : out.length ≤ 60)
include la lb ha hb ho
theorem lp7_1 : lpN (r7_1 bs (bs.length : Int) aa fuel) fuel (out, 0) = some (out ++ bs.flatMap (gY aa)) := by
  refine acc_lp (xs := bs) (gY aa) out 12 (by omega) (fun x _ => gY_len aa x) _ (fun rec => by simp only [r7_1, Int.lt_irrefl, decide_false, cond_false]) (fun rec m hm acc hacc => ?_)
  have hw := wrap_nat (i := m) (by omega)
  have h1 : (m : Int) < (bs.length : Int) := by omega
  have hacc' : acc.length ≤ 90000000 := by omega
  have hbm := hb bs[m] (List.getElem_mem hm)
  simp only [r7_1, h1, decide_true, cond_true, Int.natCast_nonneg, get_cast hm, Option.bind_some, g20 (x := ⟨aa⟩) (show aa.length ≤ 1048576 by omega), g21 hbm.2.1 hbm.2.2, g22, hw]
  unfold gY
  rcases find_cases aa bs[m].Kind bs[m].Name with e | ⟨i, hi, e, e1, e2⟩
  · have h2 : (acc.length + 1) * 80 ≤ 140737488355328 := by omega
    have h3 : (-1 : Int) < 0 := by decide
    simp only [e, h3, decide_true, cond_true, List.length_singleton, h2]
  · have h3 : ¬ ((i : Nat) : Int) < 0 := by omega
    have hg : aa.getD i block0 = aa[i] := by simp [hi]
    simp only [e, h3, decide_false, cond_false, Int.toNat_natCast, hg]
    rw [lp7_2 hi (ha aa[i] (List.getElem_mem hi)) hbm.2.1 hbm.2.2 bs[m].Kind bs[m].Name bs[m].Kind (m : Int) hacc' rec, hw]
theorem lp5_1 : lpN (r5_1 aa bs fuel) fuel (out, 0) = some (out ++ bs.flatMap (gY aa)) := by
  refine acc_lp (xs := bs) (gY aa) out 12 (by omega) (fun x _ => gY_len aa x) _ (fun rec => by simp only [r5_1, Int.lt_irrefl, decide_false, cond_false]) (fun rec m hm acc hacc => ?_)
  have hw := wrap_nat (i := m) (by omega)
  have h1 : (m : Int) < (bs.length : Int) := by omega
  have hacc' : acc.length ≤ 90000000 := by omega
  have hbm := hb bs[m] (List.getElem_mem hm)
  have hgl := gY_len aa bs[m]
  simp only [r5_1, h1, decide_true, cond_true, Int.natCast_nonneg, get_cast hm, Option.bind_some, g15 (x := ⟨aa⟩) (show aa.length ≤ 1048576 by omega), g16 hbm.2.1 hbm.2.2, hw]
  unfold gY at hgl ⊢
  rcases find_cases aa bs[m].Kind bs[m].Name with e | ⟨i, hi, e, e1, e2⟩
  · have h2 : (acc.length + 1) * 80 ≤ 140737488355328 := by omega
    have h3 : (-1 : Int) < 0 := by decide
    simp only [e, h3, decide_true, cond_true, List.length_singleton, h2]
  · have h3 : ¬ ((i : Nat) : Int) < 0 := by omega
    have hg : aa.getD i block0 = aa[i] := by simp [hi]
    simp only [e, h3, decide_false, cond_false, Int.toNat_natCast, hg] at hgl
    simp only [e, h3, decide_false, decide_true, cond_false, cond_true, Int.toNat_natCast, Int.natCast_nonneg, hg, List.getElem?_eq_getElem hi, Option.bind_some, g17 (ha aa[i] (List.getElem_mem hi)) hbm, e1, e2]
    have h4 : (acc.length + ((rulesOf bs[m].Kind).flatMap (chG aa[i].Lines bs[m].Lines bs[m].Kind bs[m].Name)).length) * 80 ≤ 140737488355328 := by omega
    simp only [h4, decide_true, cond_true]
end
section
variable {aa bs : List VSheetBlock} (la : aa.length ≤ 60) (lb : bs.length ≤ 60) (ha : ∀ b ∈ aa, Bok b) (hb : ∀ b ∈ bs, Bok b)
include la lb ha hb
theorem gXs_len : (aa.flatMap (gX bs)).length ≤ 60 := by
  have := flat_len (c := 1) aa fun x _ => gX_len bs x
  omega
theorem lp7_0 : lpN (r7_0 aa (aa.length : Int) aa bs fuel) fuel (([] : List VSheetChange), 0) = some (aa.flatMap (gX bs) ++ bs.flatMap (gY aa)) := by
  refine acc_lp (xs := aa) (gX bs) [] 1 (by omega) (fun x _ => gX_len bs x) _ (fun rec => ?_) (fun rec m hm acc hacc => ?_)
  · simp only [r7_0, Int.lt_irrefl, decide_false, cond_false, List.nil_append]
    exact lp7_1 la lb ha hb (gXs_len la lb ha hb)
  have hw := wrap_nat (i := m) (by omega)
  have h1 : (m : Int) < (aa.length : Int) := by omega
  simp only [r7_0, h1, decide_true, cond_true, Int.natCast_nonneg, get_cast hm, Option.bind_some, g20 (x := ⟨bs⟩) (show bs.length ≤ 1048576 by omega), hw]
  exact add_step _ rec acc _ _ (by simp at hacc; omega)
theorem lp5_0 : lpN (r5_0 aa bs fuel) fuel (([] : List VSheetChange), 0) = some (aa.flatMap (gX bs) ++ bs.flatMap (gY aa)) := by
  refine acc_lp (xs := aa) (gX bs) [] 1 (by omega) (fun x _ => gX_len bs x) _ (fun rec => ?_) (fun rec m hm acc hacc => ?_)
  · simp only [r5_0, Int.lt_irrefl, decide_false, cond_false, List.nil_append]
    exact lp5_1 la lb ha hb (gXs_len la lb ha hb)
  have hw := wrap_nat (i := m) (by omega)
  have h1 : (m : Int) < (aa.length : Int) := by omega
  simp only [r5_0, h1, decide_true, cond_true, Int.natCast_nonneg, get_cast hm, Option.bind_some, g15 (x := ⟨bs⟩) (show bs.length ≤ 1048576 by omega), hw]
  exact add_step _ rec acc _ _ (by simp at hacc; omega)
end
theorem blocks_ok {x : VSheet} (t : s_Sheet x ≤ 1048576) : ∀ b ∈ x.Blocks, Bok b := by
  intro b hb
  have h1 := s_SheetBlockS_mem hb
  unfold s_Sheet at t
  unfold s_SheetBlock at h1
  have h2 := s_SheetLineS_len b.Lines
  refine ⟨by omega, by omega, fun l hl => ?_⟩
  have h3 := s_SheetLineS_mem hl
  unfold s_SheetLine at h3
  have h4 := s_StringS_len l.Words
  refine ⟨by omega, fun w hw => ?_⟩
  have h5 := s_StringS_mem hw
  unfold s_String at h5
  omega
theorem sum_le {α : Type} {f : α → Nat} {c : Nat} : ∀ xs : List α, (∀ x ∈ xs, f x ≤ c) → (xs.map f).sum ≤ xs.length * c
  | [], _ => by simp
  | x :: xs, h => by
    have h1 := h x (by simp)
    have h2 := sum_le xs fun y hy => h y (by simp [hy])
    simp only [List.map_cons, List.sum_cons, List.length_cons, Nat.add_mul]
    omega
theorem w_of (xs : List VSheetLine) (key : ByteArray) : w_SheetLineS (ofL xs key) ≤ w_SheetLineS xs := by
  induction xs with
  | nil => exact Nat.le_refl _
  | cons x xs ih =>
    unfold ofL at ih ⊢
    simp only [List.flatMap_cons, ofG]
    unfold w_SheetLineS at ih ⊢
    cases decide (x.Key = key) with
    | true => simp only [cond_true, List.singleton_append, List.map_cons, List.sum_cons]; omega
    | false => simp only [cond_false, List.nil_append, List.map_cons, List.sum_cons]; omega
theorem w_lines {x : VSheet} (t : s_Sheet x ≤ 1048576) {b : VSheetBlock} (hb : b ∈ x.Blocks) : w_SheetLineS b.Lines ≤ 67108864 := by
  have h1 := s_SheetBlockS_mem hb
  unfold s_Sheet at t
  unfold s_SheetBlock at h1
  have := ws_SheetLineS b.Lines
  omega
theorem main3 (a0 a1 : VSheet) (t0 : s_Sheet a0 ≤ 1048576) (t1 : s_Sheet a1 ≤ 1048576) : ∃ R, G5 a0 a1 = some R ∧ G7 a0 a1 = some R ∧ w_SheetChangeS R ≤ 1000000000000000 ∧ True := by
  have b0 := blocks_ok t0
  have b1 := blocks_ok t1
  unfold G5 G5n G7 G7n
  rw [g14 b0, g14 b1, g19 b0, g19 b1]
  simp only [Option.bind_some]
  have nil0 : w_SheetChangeS [] ≤ 1000000000000000 := by simp [w_SheetChangeS]
  cases h0 : sheetB a0.Blocks with
  | false => exact ⟨[], rfl, rfl, nil0, trivial⟩
  | true =>
    cases h1 : sheetB a1.Blocks with
    | false => exact ⟨[], rfl, rfl, nil0, trivial⟩
    | true =>
      have l0 : a0.Blocks.length ≤ 60 := by
        unfold sheetB at h0
        simp only [Bool.and_eq_true, decide_eq_true_eq] at h0
        exact h0.1
      have l1 : a1.Blocks.length ≤ 60 := by
        unfold sheetB at h1
        simp only [Bool.and_eq_true, decide_eq_true_eq] at h1
        exact h1.1
      refine ⟨_, lp5_0 l0 l1 b0 b1, lp7_0 l0 l1 b0 b1, ?_, trivial⟩
      have hlen : (a0.Blocks.flatMap (gX a1.Blocks) ++ a1.Blocks.flatMap (gY a0.Blocks)).length ≤ 780 := by
        have h2 := gXs_len l0 l1 b0 b1
        have h3 := flat_len (c := 12) a1.Blocks fun x _ => gY_len a0.Blocks x
        rw [List.length_append]
        omega
      have hw : ∀ c ∈ (a0.Blocks.flatMap (gX a1.Blocks) ++ a1.Blocks.flatMap (gY a0.Blocks)), w_SheetChange c ≤ 67108868 := by
        intro c hc
        unfold w_SheetChange
        rcases List.mem_append.1 hc with hc | hc
        · rw [List.mem_flatMap] at hc
          obtain ⟨x, hx, hc⟩ := hc
          unfold gX at hc
          cases hd : decide (findB a1.Blocks x.Kind x.Name < 0) with
          | true => rw [hd] at hc; simp at hc; subst hc; simp [w_SheetLineS]
          | false => rw [hd] at hc; simp at hc
        · rw [List.mem_flatMap] at hc
          obtain ⟨y, hy, hc⟩ := hc
          have hy2 := w_lines t1 hy
          unfold gY at hc
          cases hd : decide (findB a0.Blocks y.Kind y.Name < 0) with
          | true => rw [hd] at hc; simp at hc; subst hc; show 4 + w_SheetLineS y.Lines ≤ _; omega
          | false =>
            rw [hd] at hc
            simp only [cond_false, List.mem_flatMap] at hc
            obtain ⟨r, hr, hc⟩ := hc
            unfold chG at hc
            cases hd2 : decide (ofL (a0.Blocks.getD (findB a0.Blocks y.Kind y.Name).toNat block0).Lines r.Key = ofL y.Lines r.Key) with
            | true => rw [hd2] at hc; simp at hc
            | false =>
              rw [hd2] at hc
              simp only [cond_false, List.mem_singleton] at hc
              subst hc
              have := w_of y.Lines r.Key
              show 4 + w_SheetLineS (ofL y.Lines r.Key) ≤ _
              omega
      have := sum_le _ hw
      unfold w_SheetChangeS
      have h5 : (a0.Blocks.flatMap (gX a1.Blocks) ++ a1.Blocks.flatMap (gY a0.Blocks)).length * 67108868 ≤ 780 * 67108868 := Nat.mul_le_mul_right _ hlen
      omega
end Go.Proofs.YtadopcpehgblcaaDoor.Ab

/- The plain law: structures that are marked and held. Printed out of the types. -/
set_option linter.unusedVariables false
set_option linter.unusedSimpArgs false
set_option maxRecDepth 10000
namespace Go.Proofs.YtadopcpehgblcaaDoor.Ab
open Go Go.RowKit

def w_Sheet (x : VSheet) : Nat := 1 + w_SheetBlockS x.Blocks
theorem ws_Sheet (x : VSheet) : w_Sheet x ≤ 64 * (1 + s_Sheet x) := by
  have := w_sum ws_SheetBlock x.Blocks
  simp only [w_Sheet, s_Sheet, w_SheetBlockS, s_SheetBlockS]; omega
def wl_Sheet (x : VSheet) : Nat := w_SheetBlockS x.Blocks
theorem wl_le_Sheet (x : VSheet) : wl_Sheet x ≤ w_Sheet x := by unfold wl_Sheet w_Sheet; omega
theorem eq_Sheet {x : VSheet} (h : w_Sheet x ≤ 1152921504606846976) : G9 x x = some true := by
  unfold w_Sheet at h
  simp only [G9, G9n, eq_SheetBlockS (xs := x.Blocks) (by omega), bne_self_eq_false, cond_false, decide_true, Bool.not_true, Option.bind_some, beq_self_eq_true]
theorem mark_Sheet {x : VSheet} {k : Int} (h0 : 0 ≤ k) (h : k + (wl_Sheet x : Int) ≤ 1152921504606846976) : ∃ l0, G10 x k = some (l0, k + (wl_Sheet x : Int)) := by
  have e : k + (wl_Sheet x : Int) = k + (w_SheetBlockS x.Blocks : Int) := by unfold wl_Sheet; omega
  rw [e] at h ⊢
  obtain ⟨l0, m0⟩ := markO_SheetBlockS (xs := x.Blocks) (k := k) (by omega) (by omega)
  have n0 : ¬ k + (w_SheetBlockS x.Blocks : Int) < 0 := by omega
  refine ⟨l0, ?_⟩
  · unfold G10 G10n
    simp only [m0, Option.bind_some]
end Go.Proofs.YtadopcpehgblcaaDoor.Ab


/- The plain law: the function of FnExactSheetDiff is true. Printed. -/
set_option linter.unusedVariables false
set_option linter.unusedSimpArgs false
set_option maxRecDepth 10000
namespace Go.Proofs.YtadopcpehgblcaaDoor.Ab
open Go Go.RowKit

theorem sm_str {s : ByteArray} (h : Sm KK (.str s)) : s.size ≤ 9223372036854775807 := by
  cases h; exact max_len ‹_›
theorem pure3 (a0 : VSheet) (a1 : VSheet) (h0_0 : Sm KK (.row .e65 a0.Blocks)) (h1_0 : Sm KK (.row .e65 a1.Blocks)) : G3 a0 a1 = some true := by
  unfold G3 G3n
  obtain ⟨r1, e1, q1 | ⟨p1, q1⟩⟩ := sz_Sheet (x := a0) ⟨sm_SheetBlockS_of h0_0, trivial⟩ (a := 1048576) (by omega) (by omega)
  · simp only [e1, q1, Option.bind_some, decide_true, decide_false, cond_true, cond_false]
  have n1 : ¬ r1 < 0 := by omega
  obtain ⟨r2, e2, q2 | ⟨p2, q2⟩⟩ := sz_Sheet (x := a1) ⟨sm_SheetBlockS_of h1_0, trivial⟩ (a := r1) p1 (by omega)
  · simp only [e1, n1, e2, q2, Option.bind_some, decide_true, decide_false, cond_true, cond_false]
  have n2 : ¬ r2 < 0 := by omega
  have t0 : s_Sheet a0 ≤ 1048576 := by omega
  have t1 : s_Sheet a1 ≤ 1048576 := by omega
  obtain ⟨R0, sp, im, b0, -⟩ := main3 a0 a1 t0 t1
  have w0 := ws_Sheet a0
  have v0 := wl_le_Sheet a0
  obtain ⟨y0_0, m0⟩ := mark_Sheet (x := a0) (k := 1) (by omega) (by omega)
  have w1 := ws_Sheet a1
  have v1 := wl_le_Sheet a1
  obtain ⟨y1_0, m1⟩ := mark_Sheet (x := a1) (k := 1 + (wl_Sheet a0 : Int)) (by omega) (by omega)
  have nk : ¬ 1 + (wl_Sheet a0 : Int) + (wl_Sheet a1 : Int) < 0 := by omega
  obtain ⟨z0, u0, g0⟩ := mark_SheetChangeS (xs := R0) (k := 1) (by omega) (by omega)
  have o0 : ¬ 1 + (w_SheetChangeS R0 : Int) < 0 := by omega
  simp only [e1, n1, e2, n2, sp, im, to_Sheet t0, eq_Sheet (x := a0) (by omega), m0, to_Sheet t1, eq_Sheet (x := a1) (by omega), m1, nk, eq_SheetChangeS (xs := R0) (by omega), u0, g0, o0, Option.bind_some, decide_false, decide_true, cond_false, cond_true, Bool.not_true, Bool.not_false, bne_self_eq_false, beq_self_eq_true, eq_self_iff_true]
end Go.Proofs.YtadopcpehgblcaaDoor.Ab

