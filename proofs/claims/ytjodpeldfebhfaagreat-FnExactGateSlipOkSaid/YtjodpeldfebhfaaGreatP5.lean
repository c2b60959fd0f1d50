/- The functions that the law calls, written plainly, and their contracts: each call answers what its plain function answers. No conditions. -/
import Derived.Test.YtjodpeldfebhfaaGreatP4
set_option linter.unusedVariables false
set_option linter.unusedSimpArgs false
set_option maxRecDepth 100000
namespace Go.Proofs.YtjodpeldfebhfaaGreat.Ab
open Go Go.RowKit
/-! ### f95 loop.example/wharfdesk/impl.shapeOk -/
noncomputable def X95 (n : Nat) : Cx C := mkX [(31, con31), (98, con98), (148, con148), (150, con150), (152, con152), (154, con154), (155, con155), (157, con157), (158, con158), (160, con160)] [] [(104, I104 n)] [1, 5, 7, 8, 9, 16, 17, 18, 38, 40, 41, 42, 45, 47, 48, 49, 50, 51, 52, 53, 54, 55] 6225920
def F95 (n : Nat) : Cf := { N := n, keep := [0, 1, 2, 4, 5, 7, 8, 9, 13, 16, 17, 18, 19, 37, 55, 65], live := lk [(0, [1, 5, 16, 17, 18])] }
noncomputable abbrev dec95 := deR KK [.bool]
abbrev A95_0 : Type := List (C .e9) × List (C .e146) × Int × Int × List (Nat × C .e9 × C .e3) × Nat
def s95_0  : A95_0 → St C := fun (x0_0, x0_1, x0_2, x0_3, x0_4, x0_5) => { env := [(1, .one (.row .e9 x0_0)), (5, .one (.vo 6226816)), (16, .one (.row .e146 x0_1)), (17, .one (.int .i64 x0_2)), (18, .one (.int .i64 x0_3))], objs := [(6226816, .map ⟨false, false, false, false⟩ .e9 .e3 x0_4 x0_5)], base := 0 }
noncomputable def r95_0 (n : Nat)   (rec0 : A95_0 → Option (Bool)) : A95_0 → Option (Bool) := fun (x0_0, x0_1, x0_2, x0_3, x0_4, x0_5) =>
 cond (decide (x0_3 < x0_2))
 (cond (decide (0 ≤ x0_3)) (Option.bind x0_1[x0_3.toNat]? fun e1 => Option.bind (G31 e1.Name) fun r2 =>
 cond (!r2)
 (some (false))
 (cond (decide ((mval KK .e9 .e3 e1.Name (mput KK .e9 .e3 e1.Name (IntKind.i64.wrap ((mval KK .e9 .e3 e1.Name x0_4) + 1)) x0_5 x0_4)) > 1))
 (some (false))
 (cond (decide (1 = e1.Kind))
 (Option.bind (G148 (⟨e1.Name, e1.Kind, e1.Least, e1.Most, e1.Words, e1.To, e1.Role, e1.Must, e1.Fixed, e1.Default, e1.Weighs⟩ : VnumberField)) fun r3 =>
 cond (!r3)
 (some (false))
 (Option.bind (G150 (⟨e1.Name, e1.Kind, e1.Least, e1.Most, e1.Words, e1.To, e1.Role, e1.Must, e1.Fixed, e1.Default, e1.Weighs⟩ : VnumberField) x0_0) fun r4 =>
 cond (!r4)
 (some (false))
 (cond (!decide (e1.Default = (⟨#[]⟩ : ByteArray)))
 (Option.bind (G98 e1 e1.Default) fun r5 =>
 cond (!r5)
 (some (false))
 (rec0 ((x0_0, x0_1, x0_2, IntKind.i64.wrap (x0_3 + 1), mput KK .e9 .e3 e1.Name (IntKind.i64.wrap ((mval KK .e9 .e3 e1.Name x0_4) + 1)) x0_5 x0_4, mclk KK .e9 .e3 e1.Name x0_5 x0_4))))
 (rec0 ((x0_0, x0_1, x0_2, IntKind.i64.wrap (x0_3 + 1), mput KK .e9 .e3 e1.Name (IntKind.i64.wrap ((mval KK .e9 .e3 e1.Name x0_4) + 1)) x0_5 x0_4, mclk KK .e9 .e3 e1.Name x0_5 x0_4))))))
 (cond (decide (2 = e1.Kind))
 (Option.bind (G152 (⟨e1.Name, e1.Kind, e1.Least, e1.Most, e1.Words, e1.To, e1.Role, e1.Must, e1.Fixed, e1.Default, e1.Weighs⟩ : VwordField)) fun r6 =>
 cond (!r6)
 (some (false))
 (Option.bind (G154 (⟨e1.Name, e1.Kind, e1.Least, e1.Most, e1.Words, e1.To, e1.Role, e1.Must, e1.Fixed, e1.Default, e1.Weighs⟩ : VwordField) x0_0) fun r7 =>
 cond (!r7)
 (some (false))
 (cond (!decide (e1.Default = (⟨#[]⟩ : ByteArray)))
 (Option.bind (G98 e1 e1.Default) fun r8 =>
 cond (!r8)
 (some (false))
 (rec0 ((x0_0, x0_1, x0_2, IntKind.i64.wrap (x0_3 + 1), mput KK .e9 .e3 e1.Name (IntKind.i64.wrap ((mval KK .e9 .e3 e1.Name x0_4) + 1)) x0_5 x0_4, mclk KK .e9 .e3 e1.Name x0_5 x0_4))))
 (rec0 ((x0_0, x0_1, x0_2, IntKind.i64.wrap (x0_3 + 1), mput KK .e9 .e3 e1.Name (IntKind.i64.wrap ((mval KK .e9 .e3 e1.Name x0_4) + 1)) x0_5 x0_4, mclk KK .e9 .e3 e1.Name x0_5 x0_4))))))
 (cond (decide (3 = e1.Kind))
 (Option.bind (G155 (⟨e1.Name, e1.Kind, e1.Least, e1.Most, e1.Words, e1.To, e1.Role, e1.Must, e1.Fixed, e1.Default, e1.Weighs⟩ : VtextField)) fun r9 =>
 cond (!r9)
 (some (false))
 (Option.bind (G157 (⟨e1.Name, e1.Kind, e1.Least, e1.Most, e1.Words, e1.To, e1.Role, e1.Must, e1.Fixed, e1.Default, e1.Weighs⟩ : VtextField) x0_0) fun r10 =>
 cond (!r10)
 (some (false))
 (cond (!decide (e1.Default = (⟨#[]⟩ : ByteArray)))
 (Option.bind (G98 e1 e1.Default) fun r11 =>
 cond (!r11)
 (some (false))
 (rec0 ((x0_0, x0_1, x0_2, IntKind.i64.wrap (x0_3 + 1), mput KK .e9 .e3 e1.Name (IntKind.i64.wrap ((mval KK .e9 .e3 e1.Name x0_4) + 1)) x0_5 x0_4, mclk KK .e9 .e3 e1.Name x0_5 x0_4))))
 (rec0 ((x0_0, x0_1, x0_2, IntKind.i64.wrap (x0_3 + 1), mput KK .e9 .e3 e1.Name (IntKind.i64.wrap ((mval KK .e9 .e3 e1.Name x0_4) + 1)) x0_5 x0_4, mclk KK .e9 .e3 e1.Name x0_5 x0_4))))))
 (cond (decide (4 = e1.Kind))
 (Option.bind (G158 (⟨e1.Name, e1.Kind, e1.Least, e1.Most, e1.Words, e1.To, e1.Role, e1.Must, e1.Fixed, e1.Default, e1.Weighs⟩ : VlinkField)) fun r12 =>
 cond (!r12)
 (some (false))
 (Option.bind (G160 (⟨e1.Name, e1.Kind, e1.Least, e1.Most, e1.Words, e1.To, e1.Role, e1.Must, e1.Fixed, e1.Default, e1.Weighs⟩ : VlinkField) x0_0) fun r13 =>
 cond (!r13)
 (some (false))
 (cond (!decide (e1.Default = (⟨#[]⟩ : ByteArray)))
 (Option.bind (G98 e1 e1.Default) fun r14 =>
 cond (!r14)
 (some (false))
 (rec0 ((x0_0, x0_1, x0_2, IntKind.i64.wrap (x0_3 + 1), mput KK .e9 .e3 e1.Name (IntKind.i64.wrap ((mval KK .e9 .e3 e1.Name x0_4) + 1)) x0_5 x0_4, mclk KK .e9 .e3 e1.Name x0_5 x0_4))))
 (rec0 ((x0_0, x0_1, x0_2, IntKind.i64.wrap (x0_3 + 1), mput KK .e9 .e3 e1.Name (IntKind.i64.wrap ((mval KK .e9 .e3 e1.Name x0_4) + 1)) x0_5 x0_4, mclk KK .e9 .e3 e1.Name x0_5 x0_4))))))
 (some (false)))))))) none)
 (some (true))
noncomputable def LP95_0 (n : Nat)   (x : A95_0) : Option (Bool) := lpN (r95_0 n  ) n x
noncomputable def MP95_0 (n : Nat)   (x : A95_0) : Option (Bool) := iter (fun rec S => run (X95 n) (F95 n) (codeAt (bodyOf Tryz.f95) [1, 1, 1, 0, 1, 0, 0]) 0 S (lopK rec (blkK 0 (seqK (run (X95 n) (F95 n) (codeAt (bodyOf Tryz.f95) [1, 1, 1, 1]) 0) (kTop (X95 n) Tryz.f95 dec95))))) [1, 5, 16, 17, 18] n (s95_0  x)
theorem m95_0 (n : Nat)   (x : A95_0) : MP95_0 n   x = LP95_0 n   x := by
  refine iter_eq (s95_0 ) (r95_0 n  ) (fun rec0 x => ?_) n x
  obtain ⟨x0_0, x0_1, x0_2, x0_3, x0_4, x0_5⟩ := x
  kernel_rfl
noncomputable def G95n (n : Nat) (a0 : VGateShape) (a1 : List (C .e9)) : Option (Bool) :=
 cond (decide ((a0.Fields.length : Int) > 6))
 (some (false))
 (LP95_0 n    ((a1, a0.Fields, (a0.Fields.length : Int), 0, ([] : List (Nat × C .e9 × C .e3)), 0)))
theorem t95 (n : Nat) (a0 : VGateShape) (a1 : List (C .e9)) : runFn (X95 n) (F95 n) Tryz.f95 [.agg [.str a0.Kind, .row .e146 a0.Fields], .one (.row .e9 a1)] dec95 = G95n n a0 a1 := by
  refine Eq.trans (b :=
   cond (decide ((a0.Fields.length : Int) > 6))
   (some (false))
   (MP95_0 n    ((a1, a0.Fields, (a0.Fields.length : Int), 0, ([] : List (Nat × C .e9 × C .e3)), 0)))) (by kernel_rfl) ?_
  simp only [G95n, m95_0]
noncomputable def G95 (a0 : VGateShape) (a1 : List (C .e9)) : Option (Bool) := G95n fuel a0 a1
noncomputable def con95 : Con C := mkC KK [.el .e105, .row .e9] [.bool] G95
theorem c95 : ConOk Tryz.prog KK 95 con95 := cO (mkQ ⟨c31, c98, c148, c150, c152, c154, c155, c157, c158, c160, trivial⟩ trivial ⟨i104 _, trivial⟩ : Cons Tryz.prog (X95 fuel)) (fn := Tryz.f95) (by kernel_rfl) (by kernel_rfl) (by kernel_rfl) (by kernel_rfl) (F95 fuel) (by kernel_rfl) (fun a0 a1 => t95 fuel a0 a1)
/-! ### f79 loop.example/wharfdesk/impl.GateShapesOk -/
noncomputable def X79 : Cx C := mkX [(94, con94), (95, con95)] [] [] [] 5177344
def F79 (n : Nat) : Cf := { N := n, keep := [0, 2, 3, 5, 7, 10, 14, 15, 16, 17, 28, 29, 30, 31, 32, 38], live := lk [(0, [0, 3, 14, 15, 16]), (2, [3, 29, 30, 31])] }
noncomputable abbrev dec79 := deR KK [.bool]
abbrev A79_1 : Type := List (C .e9) × List (C .e105) × Int × Int
def s79_1  : A79_1 → St C := fun (x1_0, x1_1, x1_2, x1_3) => { env := [(3, .one (.ref 100003 [])), (29, .one (.row .e105 x1_1)), (30, .one (.int .i64 x1_2)), (31, .one (.int .i64 x1_3))], objs := [(100003, .row .e9 x1_0 false)], base := 0 }
abbrev A79_0 : Type := List (C .e105) × List (C .e9) × List (C .e105) × Int × Int
def s79_0  : A79_0 → St C := fun (x0_0, x0_1, x0_2, x0_3, x0_4) => { env := [(0, .one (.row .e105 x0_0)), (3, .one (.ref 100003 [])), (14, .one (.row .e105 x0_2)), (15, .one (.int .i64 x0_3)), (16, .one (.int .i64 x0_4))], objs := [(100003, .row .e9 x0_1 false)], base := 0 }
noncomputable def r79_1 (n : Nat)   (rec1 : A79_1 → Option (Bool)) : A79_1 → Option (Bool) := fun (x1_0, x1_1, x1_2, x1_3) =>
 cond (decide (x1_3 < x1_2))
 (cond (decide (0 ≤ x1_3)) (Option.bind x1_1[x1_3.toNat]? fun e3 => Option.bind (G95 e3 x1_0) fun r4 =>
 cond (!r4)
 (some (false))
 (rec1 ((x1_0, x1_1, x1_2, IntKind.i64.wrap (x1_3 + 1))))) none)
 (some (true))
noncomputable def LP79_1 (n : Nat)   (x : A79_1) : Option (Bool) := lpN (r79_1 n  ) n x
noncomputable def MP79_1 (n : Nat)   (x : A79_1) : Option (Bool) := iter (fun rec S => run X79 (F79 n) (codeAt (bodyOf Tryz.f79) [1, 1, 1, 1, 1, 0, 1, 0, 0]) 2 S (lopK rec (blkK 2 (seqK (run X79 (F79 n) (codeAt (bodyOf Tryz.f79) [1, 1, 1, 1, 1, 1]) 0) (kTop X79 Tryz.f79 dec79))))) [3, 29, 30, 31] n (s79_1  x)
theorem m79_1 (n : Nat)   (x : A79_1) : MP79_1 n   x = LP79_1 n   x := by
  refine iter_eq (s79_1 ) (r79_1 n  ) (fun rec1 x => ?_) n x
  obtain ⟨x1_0, x1_1, x1_2, x1_3⟩ := x
  kernel_rfl
noncomputable def r79_0 (n : Nat)   (rec0 : A79_0 → Option (Bool)) : A79_0 → Option (Bool) := fun (x0_0, x0_1, x0_2, x0_3, x0_4) =>
 cond (decide (x0_4 < x0_3))
 (cond (decide (0 ≤ x0_4)) (Option.bind x0_2[x0_4.toNat]? fun e1 => cond (decide ((x0_1.length + (([e1.Kind] : List (C .e9))).length) * 16 ≤ 140737488355328)) (rec0 ((x0_0, x0_1 ++ (([e1.Kind] : List (C .e9))), x0_2, x0_3, IntKind.i64.wrap (x0_4 + 1)))) none) none)
 (Option.bind (G94 x0_1) fun r2 =>
 cond (!r2)
 (some (false))
 (LP79_1 n    ((x0_1, x0_0, (x0_0.length : Int), 0))))
noncomputable def LP79_0 (n : Nat)   (x : A79_0) : Option (Bool) := lpN (r79_0 n  ) n x
noncomputable def MP79_0 (n : Nat)   (x : A79_0) : Option (Bool) := iter (fun rec S => run X79 (F79 n) (codeAt (bodyOf Tryz.f79) [1, 1, 1, 0, 1, 0, 0]) 0 S (lopK rec (blkK 0 (seqK (run X79 (F79 n) (codeAt (bodyOf Tryz.f79) [1, 1, 1, 1]) 0) (kTop X79 Tryz.f79 dec79))))) [0, 3, 14, 15, 16] n (s79_0  x)
theorem m79_0 (n : Nat)   (x : A79_0) : MP79_0 n   x = LP79_0 n   x := by
  refine iter_eq (s79_0 ) (r79_0 n  ) (fun rec0 x => ?_) n x
  obtain ⟨x0_0, x0_1, x0_2, x0_3, x0_4⟩ := x
  have h : run X79 (F79 n) (codeAt (bodyOf Tryz.f79) [1, 1, 1, 0, 1, 0, 0]) 0 (s79_0  (x0_0, x0_1, x0_2, x0_3, x0_4)) (lopK (canThen [0, 3, 14, 15, 16] rec0) (blkK 0 (seqK (run X79 (F79 n) (codeAt (bodyOf Tryz.f79) [1, 1, 1, 1]) 0) (kTop X79 Tryz.f79 dec79)))) =
   cond (decide (x0_4 < x0_3))
   (cond (decide (0 ≤ x0_4)) (Option.bind x0_2[x0_4.toNat]? fun e1 => cond (decide ((x0_1.length + (([e1.Kind] : List (C .e9))).length) * 16 ≤ 140737488355328)) ((fun x => rec0 (s79_0  x)) ((x0_0, x0_1 ++ (([e1.Kind] : List (C .e9))), x0_2, x0_3, IntKind.i64.wrap (x0_4 + 1)))) none) none)
   (Option.bind (G94 x0_1) fun r2 =>
   cond (!r2)
   (some (false))
   (MP79_1 n    ((x0_1, x0_0, (x0_0.length : Int), 0)))) := by kernel_rfl
  simp only [m79_1] at h
  exact h
noncomputable def G79n (n : Nat) (a0 : List (C .e105)) : Option (Bool) :=
 cond (decide ((a0.length : Int) > 6))
 (some (false))
 (cond (decide ((0 : Int) ≤ (a0.length : Int))) (cond (decide ((a0.length : Int) * 16 ≤ 140737488355328)) (LP79_0 n    ((a0, ([] : List (C .e9)), a0, (a0.length : Int), 0))) none) none)
theorem t79 (n : Nat) (a0 : List (C .e105)) : runFn X79 (F79 n) Tryz.f79 [.one (.row .e105 a0)] dec79 = G79n n a0 := by
  refine Eq.trans (b :=
   cond (decide ((a0.length : Int) > 6))
   (some (false))
   (cond (decide ((0 : Int) ≤ (a0.length : Int))) (cond (decide ((a0.length : Int) * 16 ≤ 140737488355328)) (MP79_0 n    ((a0, ([] : List (C .e9)), a0, (a0.length : Int), 0))) none) none)) (by kernel_rfl) ?_
  simp only [G79n, m79_0]
noncomputable def G79 (a0 : List (C .e105)) : Option (Bool) := G79n fuel a0
noncomputable def con79 : Con C := mkC KK [.row .e105] [.bool] G79
theorem c79 : ConOk Tryz.prog KK 79 con79 := cO (mkQ ⟨c94, c95, trivial⟩ trivial trivial : Cons Tryz.prog X79) (fn := Tryz.f79) (by kernel_rfl) (by kernel_rfl) (by kernel_rfl) (by kernel_rfl) (F79 fuel) (by kernel_rfl) (fun a0 => t79 fuel a0)
/-! ### f97 loop.example/wharfdesk/impl.placeOf -/
noncomputable def X97 : Cx C := mkX [] [] [] [] 6356992
def F97 (n : Nat) : Cf := { N := n, keep := [0, 1, 4, 5, 6, 7, 8, 9, 10, 17], live := lk [(0, [1, 7, 8, 9])] }
noncomputable abbrev dec97 := deR KK [.int .i64]
abbrev A97_0 : Type := ByteArray × List (C .e146) × Int × Int
def s97_0  : A97_0 → St C := fun (x0_0, x0_1, x0_2, x0_3) => { env := [(1, .one (.str x0_0)), (7, .one (.row .e146 x0_1)), (8, .one (.int .i64 x0_2)), (9, .one (.int .i64 x0_3))], objs := [], base := 0 }
noncomputable def r97_0 (n : Nat)   (rec0 : A97_0 → Option (Int)) : A97_0 → Option (Int) := fun (x0_0, x0_1, x0_2, x0_3) =>
 cond (decide (x0_3 < x0_2))
 (cond (decide (0 ≤ x0_3)) (Option.bind x0_1[x0_3.toNat]? fun e1 => cond (decide (e1.Name = x0_0))
 (some (x0_3))
 (rec0 ((x0_0, x0_1, x0_2, IntKind.i64.wrap (x0_3 + 1))))) none)
 (some ((-1)))
noncomputable def LP97_0 (n : Nat)   (x : A97_0) : Option (Int) := lpN (r97_0 n  ) n x
noncomputable def MP97_0 (n : Nat)   (x : A97_0) : Option (Int) := iter (fun rec S => run X97 (F97 n) (codeAt (bodyOf Tryz.f97) [1, 0, 1, 0, 0]) 0 S (lopK rec (blkK 0 (seqK (run X97 (F97 n) (codeAt (bodyOf Tryz.f97) [1, 1]) 0) (kTop X97 Tryz.f97 dec97))))) [1, 7, 8, 9] n (s97_0  x)
theorem m97_0 (n : Nat)   (x : A97_0) : MP97_0 n   x = LP97_0 n   x := by
  refine iter_eq (s97_0 ) (r97_0 n  ) (fun rec0 x => ?_) n x
  obtain ⟨x0_0, x0_1, x0_2, x0_3⟩ := x
  kernel_rfl
noncomputable def G97n (n : Nat) (a0 : List (C .e146)) (a1 : ByteArray) : Option (Int) :=
 LP97_0 n    ((a1, a0, (a0.length : Int), 0))
theorem t97 (n : Nat) (a0 : List (C .e146)) (a1 : ByteArray) : runFn X97 (F97 n) Tryz.f97 [.one (.row .e146 a0), .one (.str a1)] dec97 = G97n n a0 a1 := by
  refine Eq.trans (b :=
   MP97_0 n    ((a1, a0, (a0.length : Int), 0))) (by kernel_rfl) ?_
  simp only [G97n, m97_0]
noncomputable def G97 (a0 : List (C .e146)) (a1 : ByteArray) : Option (Int) := G97n fuel a0 a1
noncomputable def con97 : Con C := mkC KK [.row .e146, .str] [.int .i64] G97
theorem c97 : ConOk Tryz.prog KK 97 con97 := cO (mkQ trivial trivial trivial : Cons Tryz.prog X97) (fn := Tryz.f97) (by kernel_rfl) (by kernel_rfl) (by kernel_rfl) (by kernel_rfl) (F97 fuel) (by kernel_rfl) (fun a0 a1 => t97 fuel a0 a1)
/-! ### f96 loop.example/wharfdesk/impl.mendOk$1 -/
noncomputable def X96 : Cx C := mkX [(97, con97)] [] [] [] 6291456
def F96 (n : Nat) : Cf := { N := n, keep := [0, 1, 3, 4], live := lk [] }
noncomputable abbrev dec96 := deR KK [.bool]
noncomputable def G96n (n : Nat) (a0 : ByteArray) (a1 : C .e103) : Option (Bool) :=
 Option.bind (G97 a1 a0) fun r1 =>
 cond (decide (r1 ≥ 0))
 (cond (decide (0 ≤ r1)) (Option.bind a1[r1.toNat]? fun e2 => some (e2.Kind != 4)) none)
 (some (false))
theorem t96 (n : Nat) (a0 : ByteArray) (a1 : C .e103) : runFn X96 (F96 n) Tryz.f96 [.one (.str a0), .one (.elt .e103 a1 0)] dec96 = G96n n a0 a1 := by
  kernel_rfl
noncomputable def G96 (a0 : ByteArray) (a1 : C .e103) : Option (Bool) := G96n fuel a0 a1
noncomputable def con96 : Con C := mkC KK [.str, .ptr .e103] [.bool] G96
theorem c96 : ConOk Tryz.prog KK 96 con96 := cO (mkQ ⟨c97, trivial⟩ trivial trivial : Cons Tryz.prog X96) (fn := Tryz.f96) (by kernel_rfl) (by kernel_rfl) (by kernel_rfl) (by kernel_rfl) (F96 fuel) (by kernel_rfl) (fun a0 a1 => t96 fuel a0 a1)
/-! ### f81 loop.example/wharfdesk/impl.mendOk -/
noncomputable def X81 : Cx C := mkX [(96, con96), (97, con97), (98, con98)] [] [] [] 5308416
def F81 (n : Nat) : Cf := { N := n, keep := [0, 1, 2, 3, 4, 5, 35, 66], live := lk [] }
noncomputable abbrev dec81 := deR KK [.bool]
noncomputable def G81n (n : Nat) (a0 : List (C .e146)) (a1 : VGateMend) : Option (Bool) :=
 Option.bind (G96 a1.Field a0) fun r1 =>
 cond (!r1)
 (some (false))
 (cond (!decide (a1.When = (⟨#[]⟩ : ByteArray)))
 (Option.bind (G96 a1.When a0) fun r2 =>
 cond (!r2)
 (some (false))
 (cond (!decide (a1.From = (⟨#[]⟩ : ByteArray)))
 (Option.bind (G96 a1.From a0) fun r3 =>
 cond (!r3)
 (some (false))
 (cond (decide (a1.When = a1.Field))
 (some (false))
 (cond (decide (a1.From = a1.Field))
 (some (false))
 (cond (decide (a1.When = (⟨#[]⟩ : ByteArray)))
 (cond (!decide (a1.Is = (⟨#[]⟩ : ByteArray)))
 (some (false))
 (cond ((decide (a1.Put = (⟨#[]⟩ : ByteArray))) == (decide (a1.From = (⟨#[]⟩ : ByteArray))))
 (some (false))
 (cond (decide (a1.Put = (⟨#[]⟩ : ByteArray)))
 (some (true))
 (Option.bind (G97 a0 a1.Field) fun r4 =>
 cond (decide (0 ≤ r4)) (Option.bind a0[r4.toNat]? fun e5 => Option.bind (G98 e5 a1.Put) fun r6 =>
 some (r6)) none))))
 (cond ((decide (a1.Put = (⟨#[]⟩ : ByteArray))) == (decide (a1.From = (⟨#[]⟩ : ByteArray))))
 (some (false))
 (cond (decide (a1.Put = (⟨#[]⟩ : ByteArray)))
 (some (true))
 (Option.bind (G97 a0 a1.Field) fun r7 =>
 cond (decide (0 ≤ r7)) (Option.bind a0[r7.toNat]? fun e8 => Option.bind (G98 e8 a1.Put) fun r9 =>
 some (r9)) none)))))))
 (cond (decide (a1.When = a1.Field))
 (some (false))
 (cond (decide (a1.From = a1.Field))
 (some (false))
 (cond (decide (a1.When = (⟨#[]⟩ : ByteArray)))
 (cond (!decide (a1.Is = (⟨#[]⟩ : ByteArray)))
 (some (false))
 (cond ((decide (a1.Put = (⟨#[]⟩ : ByteArray))) == (decide (a1.From = (⟨#[]⟩ : ByteArray))))
 (some (false))
 (cond (decide (a1.Put = (⟨#[]⟩ : ByteArray)))
 (some (true))
 (Option.bind (G97 a0 a1.Field) fun r10 =>
 cond (decide (0 ≤ r10)) (Option.bind a0[r10.toNat]? fun e11 => Option.bind (G98 e11 a1.Put) fun r12 =>
 some (r12)) none))))
 (cond ((decide (a1.Put = (⟨#[]⟩ : ByteArray))) == (decide (a1.From = (⟨#[]⟩ : ByteArray))))
 (some (false))
 (cond (decide (a1.Put = (⟨#[]⟩ : ByteArray)))
 (some (true))
 (Option.bind (G97 a0 a1.Field) fun r13 =>
 cond (decide (0 ≤ r13)) (Option.bind a0[r13.toNat]? fun e14 => Option.bind (G98 e14 a1.Put) fun r15 =>
 some (r15)) none))))))))
 (cond (!decide (a1.From = (⟨#[]⟩ : ByteArray)))
 (Option.bind (G96 a1.From a0) fun r16 =>
 cond (!r16)
 (some (false))
 (cond (decide (a1.When = a1.Field))
 (some (false))
 (cond (decide (a1.From = a1.Field))
 (some (false))
 (cond (decide (a1.When = (⟨#[]⟩ : ByteArray)))
 (cond (!decide (a1.Is = (⟨#[]⟩ : ByteArray)))
 (some (false))
 (cond ((decide (a1.Put = (⟨#[]⟩ : ByteArray))) == (decide (a1.From = (⟨#[]⟩ : ByteArray))))
 (some (false))
 (cond (decide (a1.Put = (⟨#[]⟩ : ByteArray)))
 (some (true))
 (Option.bind (G97 a0 a1.Field) fun r17 =>
 cond (decide (0 ≤ r17)) (Option.bind a0[r17.toNat]? fun e18 => Option.bind (G98 e18 a1.Put) fun r19 =>
 some (r19)) none))))
 (cond ((decide (a1.Put = (⟨#[]⟩ : ByteArray))) == (decide (a1.From = (⟨#[]⟩ : ByteArray))))
 (some (false))
 (cond (decide (a1.Put = (⟨#[]⟩ : ByteArray)))
 (some (true))
 (Option.bind (G97 a0 a1.Field) fun r20 =>
 cond (decide (0 ≤ r20)) (Option.bind a0[r20.toNat]? fun e21 => Option.bind (G98 e21 a1.Put) fun r22 =>
 some (r22)) none)))))))
 (cond (decide (a1.When = a1.Field))
 (some (false))
 (cond (decide (a1.From = a1.Field))
 (some (false))
 (cond (decide (a1.When = (⟨#[]⟩ : ByteArray)))
 (cond (!decide (a1.Is = (⟨#[]⟩ : ByteArray)))
 (some (false))
 (cond ((decide (a1.Put = (⟨#[]⟩ : ByteArray))) == (decide (a1.From = (⟨#[]⟩ : ByteArray))))
 (some (false))
 (cond (decide (a1.Put = (⟨#[]⟩ : ByteArray)))
 (some (true))
 (Option.bind (G97 a0 a1.Field) fun r23 =>
 cond (decide (0 ≤ r23)) (Option.bind a0[r23.toNat]? fun e24 => Option.bind (G98 e24 a1.Put) fun r25 =>
 some (r25)) none))))
 (cond ((decide (a1.Put = (⟨#[]⟩ : ByteArray))) == (decide (a1.From = (⟨#[]⟩ : ByteArray))))
 (some (false))
 (cond (decide (a1.Put = (⟨#[]⟩ : ByteArray)))
 (some (true))
 (Option.bind (G97 a0 a1.Field) fun r26 =>
 cond (decide (0 ≤ r26)) (Option.bind a0[r26.toNat]? fun e27 => Option.bind (G98 e27 a1.Put) fun r28 =>
 some (r28)) none))))))))
theorem t81 (n : Nat) (a0 : List (C .e146)) (a1 : VGateMend) : runFn X81 (F81 n) Tryz.f81 [.one (.row .e146 a0), .agg [.str a1.Kind, .str a1.Field, .str a1.When, .str a1.Is, .str a1.Put, .str a1.From]] dec81 = G81n n a0 a1 := by
  kernel_rfl
noncomputable def G81 (a0 : List (C .e146)) (a1 : VGateMend) : Option (Bool) := G81n fuel a0 a1
noncomputable def con81 : Con C := mkC KK [.row .e146, .el .e110] [.bool] G81
theorem c81 : ConOk Tryz.prog KK 81 con81 := cO (mkQ ⟨c96, c97, c98, trivial⟩ trivial trivial : Cons Tryz.prog X81) (fn := Tryz.f81) (by kernel_rfl) (by kernel_rfl) (by kernel_rfl) (by kernel_rfl) (F81 fuel) (by kernel_rfl) (fun a0 a1 => t81 fuel a0 a1)
/-! ### f100 loop.example/wharfdesk/impl.rowOf$1 -/
noncomputable def X100 : Cx C := mkX [] [] [] [] 6553600
def F100 (n : Nat) : Cf := { N := n, keep := [0, 1, 2, 4, 5, 7, 8, 9, 10, 11, 24, 27, 35], live := lk [(0, [0, 2, 5, 8, 9, 10])] }
noncomputable abbrev dec100 := deR KK [.row .e9]
abbrev A100_0 : Type := ByteArray × C .e105 × List (C .e9) × List (C .e110) × Int × Int
def s100_0  : A100_0 → St C := fun (x0_0, x0_1, x0_2, x0_3, x0_4, x0_5) => { env := [(0, .one (.str x0_0)), (2, .one (.elt .e105 x0_1 0)), (5, .one (.ref 100005 [])), (8, .one (.row .e110 x0_3)), (9, .one (.int .i64 x0_4)), (10, .one (.int .i64 x0_5))], objs := [(100005, .row .e9 x0_2 false)], base := 0 }
noncomputable def r100_0 (n : Nat)   (rec0 : A100_0 → Option (List (C .e9))) : A100_0 → Option (List (C .e9)) := fun (x0_0, x0_1, x0_2, x0_3, x0_4, x0_5) =>
 cond (decide (x0_5 < x0_4))
 (cond (decide (0 ≤ x0_5)) (Option.bind x0_3[x0_5.toNat]? fun e1 => cond (!decide (e1.Kind = x0_1.Kind))
 (rec0 ((x0_0, x0_1, x0_2, x0_3, x0_4, IntKind.i64.wrap (x0_5 + 1))))
 (cond (!decide (e1.Field = x0_0))
 (rec0 ((x0_0, x0_1, x0_2, x0_3, x0_4, IntKind.i64.wrap (x0_5 + 1))))
 (cond (!decide (e1.When = (⟨#[]⟩ : ByteArray)))
 (cond (decide ((x0_2.length + (([e1.When] : List (C .e9))).length) * 16 ≤ 140737488355328)) (cond (!decide (e1.From = (⟨#[]⟩ : ByteArray)))
 (cond (decide (((x0_2 ++ (([e1.When] : List (C .e9)))).length + (([e1.From] : List (C .e9))).length) * 16 ≤ 140737488355328)) (rec0 ((x0_0, x0_1, (x0_2 ++ (([e1.When] : List (C .e9)))) ++ (([e1.From] : List (C .e9))), x0_3, x0_4, IntKind.i64.wrap (x0_5 + 1)))) none)
 (rec0 ((x0_0, x0_1, x0_2 ++ (([e1.When] : List (C .e9))), x0_3, x0_4, IntKind.i64.wrap (x0_5 + 1))))) none)
 (cond (!decide (e1.From = (⟨#[]⟩ : ByteArray)))
 (cond (decide ((x0_2.length + (([e1.From] : List (C .e9))).length) * 16 ≤ 140737488355328)) (rec0 ((x0_0, x0_1, x0_2 ++ (([e1.From] : List (C .e9))), x0_3, x0_4, IntKind.i64.wrap (x0_5 + 1)))) none)
 (rec0 ((x0_0, x0_1, x0_2, x0_3, x0_4, IntKind.i64.wrap (x0_5 + 1)))))))) none)
 (some (x0_2))
noncomputable def LP100_0 (n : Nat)   (x : A100_0) : Option (List (C .e9)) := lpN (r100_0 n  ) n x
noncomputable def MP100_0 (n : Nat)   (x : A100_0) : Option (List (C .e9)) := iter (fun rec S => run X100 (F100 n) (codeAt (bodyOf Tryz.f100) [1, 1, 0, 1, 0, 0]) 0 S (lopK rec (blkK 0 (seqK (run X100 (F100 n) (codeAt (bodyOf Tryz.f100) [1, 1, 1]) 0) (kTop X100 Tryz.f100 dec100))))) [0, 2, 5, 8, 9, 10] n (s100_0  x)
theorem m100_0 (n : Nat)   (x : A100_0) : MP100_0 n   x = LP100_0 n   x := by
  refine iter_eq (s100_0 ) (r100_0 n  ) (fun rec0 x => ?_) n x
  obtain ⟨x0_0, x0_1, x0_2, x0_3, x0_4, x0_5⟩ := x
  kernel_rfl
noncomputable def G100n (n : Nat) (a0 : ByteArray) (a1 : C .e37) (a2 : C .e105) : Option (List (C .e9)) :=
 LP100_0 n    ((a0, a2, ([] : List (C .e9)), a1, (a1.length : Int), 0))
theorem t100 (n : Nat) (a0 : ByteArray) (a1 : C .e37) (a2 : C .e105) : runFn X100 (F100 n) Tryz.f100 [.one (.str a0), .one (.elt .e37 a1 0), .one (.elt .e105 a2 0)] dec100 = G100n n a0 a1 a2 := by
  refine Eq.trans (b :=
   MP100_0 n    ((a0, a2, ([] : List (C .e9)), a1, (a1.length : Int), 0))) (by kernel_rfl) ?_
  simp only [G100n, m100_0]
noncomputable def G100 (a0 : ByteArray) (a1 : C .e37) (a2 : C .e105) : Option (List (C .e9)) := G100n fuel a0 a1 a2
noncomputable def con100 : Con C := mkC KK [.str, .ptr .e37, .ptr .e105] [.row .e9] G100
theorem c100 : ConOk Tryz.prog KK 100 con100 := cO (mkQ trivial trivial trivial : Cons Tryz.prog X100) (fn := Tryz.f100) (by kernel_rfl) (by kernel_rfl) (by kernel_rfl) (by kernel_rfl) (F100 fuel) (by kernel_rfl) (fun a0 a1 a2 => t100 fuel a0 a1 a2)
/-! ### f105 loop.example/wharfdesk/impl.row[string]$1, by a summary -/
noncomputable def F105 (n : Nat) : Cf := { N := n, keep := [0, 1, 2, 3, 4, 6, 8, 11, 12, 14, 20, 21, 22, 23, 29], live := lk [(1, [0, 1, 3, 4, 20, 21, 22])] }
def dec105 (os : Objs C) (ls : List (Lf C)) (rs : List (Bool × List (Lf C))) : Option (List (C .e9) × List (Nat × C .e9 × C .e3) × Nat × List (C .e110) × ByteArray × List (C .e146) × Bool) := match os, ls, rs with
  | [(6488448, .box .mem [.vo 6488768]), (6488256, .box .mem [.vo 5375424]), (6488576, .box .mem [.vo 6488832]), (6488512, .box .mem [.ref 649851200 []]), (649851200, .row .e9 z0 false), (6488768, .map ⟨false, false, false, false⟩ .e9 .e3 z1 z2), (5375424, .box (.clo 100 0 [(false, 1), (false, 1)]) [.ptr 5374144 0, .ptr 5374080 0]), (6488832, .box (.clo 105 0 [(false, 1), (false, 1), (false, 1), (false, 1)]) [.ptr 6488448 0, .ptr 6488256 0, .ptr 6488576 0, .ptr 6488512 0]), (5374144, .box .mem [.row .e110 z3]), (5374080, .box .mem [.str z4, .row .e146 z5]), (77777777, .ghost)], [.ptr 6488448 0, .ptr 6488256 0, .ptr 6488576 0, .ptr 6488512 0, .vo 6488768, .vo 5375424, .vo 6488832, .ptr 5374144 0, .ptr 5374080 0], [(false, [.bool z6])] => some (z0, z1, z2, z3, z4, z5, z6)
  | _, _, _ => none
abbrev A105_0 : Type := ByteArray × List (C .e9) × Int × Int × List (C .e9) × List (Nat × C .e9 × C .e3) × Nat × List (C .e110) × ByteArray × List (C .e146)
def s105_0  : A105_0 → St C := fun (x0_0, x0_1, x0_2, x0_3, x0_4, x0_5, x0_6, x0_7, x0_8, x0_9) => { env := [(0, .one (.str x0_0)), (1, .one (.ptr 6488448 0)), (3, .one (.ptr 6488576 0)), (4, .one (.ptr 6488512 0)), (20, .one (.ref 100020 [])), (21, .one (.int .i64 x0_2)), (22, .one (.int .i64 x0_3)), (90000, .frame), (90001, .sus (true, [.ptr 6488448 0, .ptr 6488256 0, .ptr 6488576 0, .ptr 6488512 0, .vo 6488768, .vo 5375424, .vo 6488832, .ptr 5374144 0, .ptr 5374080 0]) 0)], objs := [(100020, .row .e9 x0_1 false), (6488448, .box .mem [.vo 6488768]), (6488576, .box .mem [.vo 6488832]), (6488512, .box .mem [.ref 649851200 []]), (649851200, .row .e9 x0_4 false), (6488256, .box .mem [.vo 5375424]), (6488768, .map ⟨false, false, false, false⟩ .e9 .e3 x0_5 x0_6), (5375424, .box (.clo 100 0 [(false, 1), (false, 1)]) [.ptr 5374144 0, .ptr 5374080 0]), (6488832, .box (.clo 105 0 [(false, 1), (false, 1), (false, 1), (false, 1)]) [.ptr 6488448 0, .ptr 6488256 0, .ptr 6488576 0, .ptr 6488512 0]), (5374144, .box .mem [.row .e110 x0_7]), (5374080, .box .mem [.str x0_8, .row .e146 x0_9]), (77777777, .ghost)], base := 0 }
noncomputable def r105_0 (n : Nat) (rc : (ByteArray) → (List (C .e9)) → (List (Nat × C .e9 × C .e3)) → (Nat) → (List (C .e110)) → (ByteArray) → (List (C .e146)) → Option (List (C .e9) × List (Nat × C .e9 × C .e3) × Nat × List (C .e110) × ByteArray × List (C .e146) × Bool))   (rec0 : A105_0 → Option (List (C .e9) × List (Nat × C .e9 × C .e3) × Nat × List (C .e110) × ByteArray × List (C .e146) × Bool)) : A105_0 → Option (List (C .e9) × List (Nat × C .e9 × C .e3) × Nat × List (C .e110) × ByteArray × List (C .e146) × Bool) := fun (x0_0, x0_1, x0_2, x0_3, x0_4, x0_5, x0_6, x0_7, x0_8, x0_9) =>
 cond (decide (x0_3 < x0_2))
 (cond (decide (0 ≤ x0_3)) (cond (decide (x0_3 < (x0_1.length : Int))) (Option.bind x0_1[x0_3.toNat]? fun e2 => Option.bind (rc e2 x0_4 x0_5 x0_6 x0_7 x0_8 x0_9) fun r3 =>
 cond (!r3.2.2.2.2.2.2)
 (some (r3.1, r3.2.1, r3.2.2.1, r3.2.2.2.1, r3.2.2.2.2.1, r3.2.2.2.2.2.1, false))
 (rec0 ((x0_0, x0_1, x0_2, IntKind.i64.wrap (x0_3 + 1), r3.1, r3.2.1, r3.2.2.1, r3.2.2.2.1, r3.2.2.2.2.1, r3.2.2.2.2.2.1)))) none) none)
 (cond (decide ((x0_4.length + (([x0_0] : List (C .e9))).length) * 16 ≤ 140737488355328)) (some (x0_4 ++ (([x0_0] : List (C .e9))), mput KK .e9 .e3 x0_0 2 x0_6 x0_5, mclk KK .e9 .e3 x0_0 x0_6 x0_5, x0_7, x0_8, x0_9, true)) none)
noncomputable def LP105_0 (n : Nat) (rc : (ByteArray) → (List (C .e9)) → (List (Nat × C .e9 × C .e3)) → (Nat) → (List (C .e110)) → (ByteArray) → (List (C .e146)) → Option (List (C .e9) × List (Nat × C .e9 × C .e3) × Nat × List (C .e110) × ByteArray × List (C .e146) × Bool))   (x : A105_0) : Option (List (C .e9) × List (Nat × C .e9 × C .e3) × Nat × List (C .e110) × ByteArray × List (C .e146) × Bool) := lpN (r105_0 n rc  ) n x
noncomputable def B105 (n : Nat) (rc : (ByteArray) → (List (C .e9)) → (List (Nat × C .e9 × C .e3)) → (Nat) → (List (C .e110)) → (ByteArray) → (List (C .e146)) → Option (List (C .e9) × List (Nat × C .e9 × C .e3) × Nat × List (C .e110) × ByteArray × List (C .e146) × Bool)) (a0 : ByteArray) (a1 : List (C .e9)) (a2 : List (Nat × C .e9 × C .e3)) (a3 : Nat) (a4 : List (C .e110)) (a5 : ByteArray) (a6 : List (C .e146)) : Option (List (C .e9) × List (Nat × C .e9 × C .e3) × Nat × List (C .e110) × ByteArray × List (C .e146) × Bool) :=
 cond ((mval KK .e9 .e3 a0 a2) == 1)
 (some (a1, a2, a3, a4, a5, a6, false))
 (cond ((mval KK .e9 .e3 a0 a2) == 2)
 (some (a1, a2, a3, a4, a5, a6, true))
 (Option.bind (G100 a0 a4 (⟨a5, a6⟩ : VGateShape)) fun r1 =>
 LP105_0 n rc   ((a0, r1, (r1.length : Int), 0, a1, mput KK .e9 .e3 a0 1 a3 a2, mclk KK .e9 .e3 a0 a3 a2, a4, a5, a6))))
noncomputable def G105d (n : Nat) : Nat → (ByteArray) → (List (C .e9)) → (List (Nat × C .e9 × C .e3)) → (Nat) → (List (C .e110)) → (ByteArray) → (List (C .e146)) → Option (List (C .e9) × List (Nat × C .e9 × C .e3) × Nat × List (C .e110) × ByteArray × List (C .e146) × Bool)
  | 0 => fun _ _ _ _ _ _ _ => none
  | d + 1 => B105 n (G105d n d)
noncomputable def su105 (n d : Nat) : Sum C := { ids := [6488448, 6488256, 6488576, 6488512, 649851200, 6488768, 5375424, 6488832, 5374144, 5374080], roots := [.ptr 6488448 0, .ptr 6488256 0, .ptr 6488576 0, .ptr 6488512 0, .vo 6488768, .vo 5375424, .vo 6488832, .ptr 5374144 0, .ptr 5374080 0], rowIds := [649851200], R0 := List (C .e9) × List (Nat × C .e9 × C .e3) × Nat × List (C .e110) × ByteArray × List (C .e146) × Bool, out := fun r => [(6488448, .box .mem [.vo 6488768]), (6488256, .box .mem [.vo 5375424]), (6488576, .box .mem [.vo 6488832]), (6488512, .box .mem [.ref 649851200 []]), (649851200, .row .e9 r.1 false), (6488768, .map ⟨false, false, false, false⟩ .e9 .e3 r.2.1 r.2.2.1), (5375424, .box (.clo 100 0 [(false, 1), (false, 1)]) [.ptr 5374144 0, .ptr 5374080 0]), (6488832, .box (.clo 105 0 [(false, 1), (false, 1), (false, 1), (false, 1)]) [.ptr 6488448 0, .ptr 6488256 0, .ptr 6488576 0, .ptr 6488512 0]), (5374144, .box .mem [.row .e110 r.2.2.2.1]), (5374080, .box .mem [.str r.2.2.2.2.1, .row .e146 r.2.2.2.2.2.1])], ret := fun r => [(false, [.bool r.2.2.2.2.2.2])], g := fun vs O => match vs, O with
  | [.one (.str y0), .one (.ptr 6488448 0), .one (.ptr 6488256 0), .one (.ptr 6488576 0), .one (.ptr 6488512 0)], [(6488448, .box .mem [.vo 6488768]), (6488256, .box .mem [.vo 5375424]), (6488576, .box .mem [.vo 6488832]), (6488512, .box .mem [.ref 649851200 []]), (649851200, .row .e9 y1 false), (6488768, .map ⟨false, false, false, false⟩ .e9 .e3 y2 y3), (5375424, .box (.clo 100 0 [(false, 1), (false, 1)]) [.ptr 5374144 0, .ptr 5374080 0]), (6488832, .box (.clo 105 0 [(false, 1), (false, 1), (false, 1), (false, 1)]) [.ptr 6488448 0, .ptr 6488256 0, .ptr 6488576 0, .ptr 6488512 0]), (5374144, .box .mem [.row .e110 y4]), (5374080, .box .mem [.str y5, .row .e146 y6])] => G105d n d y0 y1 y2 y3 y4 y5 y6
  | _, _ => none }
noncomputable def X105 (n d : Nat) : Cx C := { K := KK, tk := lk tks, con := lkC [(100, con100)], conw := lkC [], inl := lkA [(105, sumInl (su105 n d))], hold := [0, 1, 3, 4, 20, 21, 22, 28, 29], mp := lk mps, meth := lkS meths, off := 6881280 }
noncomputable def MP105_0 (n d : Nat)   (x : A105_0) : Option (List (C .e9) × List (Nat × C .e9 × C .e3) × Nat × List (C .e110) × ByteArray × List (C .e146) × Bool) := iter (fun rec S => run (X105 n d) (F105 n) (codeAt (bodyOf Tryz.f105) [1, 1, 1, 0, 1, 0, 0]) 1 S (lopK rec (blkK 1 (seqK (run (X105 n d) (F105 n) (codeAt (bodyOf Tryz.f105) [1, 1, 1, 1]) 0) (kTopS (X105 n d) Tryz.f105 dec105))))) [0, 1, 3, 4, 20, 21, 22] n (s105_0  x)
theorem m105_0 (n d : Nat)   (x : A105_0) : MP105_0 n d   x = LP105_0 n (G105d n d)   x := by
  refine iter_eq (s105_0 ) (r105_0 n (G105d n d)  ) (fun rec0 x => ?_) n x
  obtain ⟨x0_0, x0_1, x0_2, x0_3, x0_4, x0_5, x0_6, x0_7, x0_8, x0_9⟩ := x
  kernel_rfl
theorem t105 (n d : Nat) (a0 : ByteArray) (a1 : List (C .e9)) (a2 : List (Nat × C .e9 × C .e3)) (a3 : Nat) (a4 : List (C .e110)) (a5 : ByteArray) (a6 : List (C .e146)) : runFnS (X105 n d) (F105 n) Tryz.f105 (su105 n (d + 1)) [.one (.str a0), .one (.ptr 6488448 0), .one (.ptr 6488256 0), .one (.ptr 6488576 0), .one (.ptr 6488512 0)] [(6488448, .box .mem [.vo 6488768]), (6488256, .box .mem [.vo 5375424]), (6488576, .box .mem [.vo 6488832]), (6488512, .box .mem [.ref 649851200 []]), (649851200, .row .e9 a1 false), (6488768, .map ⟨false, false, false, false⟩ .e9 .e3 a2 a3), (5375424, .box (.clo 100 0 [(false, 1), (false, 1)]) [.ptr 5374144 0, .ptr 5374080 0]), (6488832, .box (.clo 105 0 [(false, 1), (false, 1), (false, 1), (false, 1)]) [.ptr 6488448 0, .ptr 6488256 0, .ptr 6488576 0, .ptr 6488512 0]), (5374144, .box .mem [.row .e110 a4]), (5374080, .box .mem [.str a5, .row .e146 a6])] dec105 = B105 n (G105d n d) a0 a1 a2 a3 a4 a5 a6 := by
  have h : runFnS (X105 n d) (F105 n) Tryz.f105 (su105 n (d + 1)) [.one (.str a0), .one (.ptr 6488448 0), .one (.ptr 6488256 0), .one (.ptr 6488576 0), .one (.ptr 6488512 0)] [(6488448, .box .mem [.vo 6488768]), (6488256, .box .mem [.vo 5375424]), (6488576, .box .mem [.vo 6488832]), (6488512, .box .mem [.ref 649851200 []]), (649851200, .row .e9 a1 false), (6488768, .map ⟨false, false, false, false⟩ .e9 .e3 a2 a3), (5375424, .box (.clo 100 0 [(false, 1), (false, 1)]) [.ptr 5374144 0, .ptr 5374080 0]), (6488832, .box (.clo 105 0 [(false, 1), (false, 1), (false, 1), (false, 1)]) [.ptr 6488448 0, .ptr 6488256 0, .ptr 6488576 0, .ptr 6488512 0]), (5374144, .box .mem [.row .e110 a4]), (5374080, .box .mem [.str a5, .row .e146 a6])] dec105 =
   cond ((mval KK .e9 .e3 a0 a2) == 1)
   (some (a1, a2, a3, a4, a5, a6, false))
   (cond ((mval KK .e9 .e3 a0 a2) == 2)
   (some (a1, a2, a3, a4, a5, a6, true))
   (Option.bind (G100 a0 a4 (⟨a5, a6⟩ : VGateShape)) fun r1 =>
   MP105_0 n d   ((a0, r1, (r1.length : Int), 0, a1, mput KK .e9 .e3 a0 1 a3 a2, mclk KK .e9 .e3 a0 a3 a2, a4, a5, a6)))) := by kernel_rfl
  simp only [h, B105, m105_0]
noncomputable def I105 (n : Nat) : Inl C := sumInl (su105 n n)
theorem i105d (n : Nat) : ∀ d : Nat, InlOk Tryz.prog KK 105 (sumInl (su105 n d))
  | 0 => sum_none (fn := Tryz.f105) (by kernel_rfl) (by kernel_rfl) (nameB (by kernel_rfl)) _ (fun vs O => by simp only [su105]; split <;> rfl)
  | d + 1 => by
    have ih := i105d n d
    have x : XOk Tryz.prog (X105 n d) := ⟨tks_ok, els_ok, mps_ok, meths_ok⟩
    have q : Cons Tryz.prog (X105 n d) := ⟨lkR_ok (l := [(100, con100)]) ⟨c100, trivial⟩, lkW_ok (l := []) trivial, lkI_ok (l := [(105, sumInl (su105 n d))]) ⟨ih, trivial⟩⟩
    refine sum_of x q (by kernel_rfl) (f := 105) (fn := Tryz.f105) (c := bodyOf Tryz.f105) (by kernel_rfl) (by kernel_rfl) (by kernel_rfl) (nameB (by kernel_rfl)) (su105 n (d + 1)) (Nat.le_of_ble_eq_true (by kernel_rfl)) dec105 (fun os ls rs r0 h => ?_) (fun vs O r0 hk h => ?_)
    · unfold dec105 at h
      split at h
      · cases h; exact ⟨rfl, rfl, rfl⟩
      · cases h
    · simp only [su105] at h
      split at h
      · rename_i y0 y1 y2 y3 y4 y5 y6
        exact ⟨fit_of (by kernel_rfl) (by kernel_rfl) (by kernel_rfl) (by kernel_rfl) (by kernel_rfl) (by kernel_rfl) (by kernel_rfl) (by kernel_rfl) (by kernel_rfl), Nat.le_of_ble_eq_true (by kernel_rfl), F105 n, (t105 n d y0 y1 y2 y3 y4 y5 y6).trans h⟩
      · cases h
theorem i105 (n : Nat) : InlOk Tryz.prog KK 105 (I105 n) := i105d n n
/-! ### f99 loop.example/wharfdesk/impl.row[string], run in place -/
noncomputable def X99 (n : Nat) : Cx C := mkX [(100, con100)] [] [(105, I105 n)] [7, 8, 13, 14, 15, 21, 22] 6488064
def F99 (n : Nat) : Cf := { N := n, keep := [0, 1, 3, 4, 5, 6, 7, 8, 10, 13, 14, 15, 16, 22], live := lk [(0, [7, 8, 13, 14, 15])] }
noncomputable def I99 (n : Nat) : Inl C := inlOf (X99 n) (F99 n) Tryz.f99
theorem i99 (n : Nat) : InlOk Tryz.prog KK 99 (I99 n) := iO (mkQ ⟨c100, trivial⟩ trivial ⟨i105 _, trivial⟩ : Cons Tryz.prog (X99 n)) (F99 n) (fn := Tryz.f99) (by kernel_rfl) (by kernel_rfl) (by kernel_rfl) (by kernel_rfl)
/-! ### f82 loop.example/wharfdesk/impl.rowOf -/
noncomputable def X82 (n : Nat) : Cx C := mkX [(100, con100)] [] [(99, I99 n)] [4, 5, 24, 25, 26] 5373952
def F82 (n : Nat) : Cf := { N := n, keep := [0, 1, 2, 3, 4, 5, 6, 8, 10, 11, 12, 13], live := lk [(0, [2, 3, 6, 10, 11, 12])] }
noncomputable abbrev dec82 := deR KK [.row .e9, .bool]
abbrev A82_1 : Type := List (C .e9) × Int × Int × List (C .e9) × List (Nat × C .e9 × C .e3) × Nat × List (C .e110) × ByteArray × List (C .e146)
def s82_1  : A82_1 → St C := fun (x1_0, x1_1, x1_2, x1_3, x1_4, x1_5, x1_6, x1_7, x1_8) => { env := [(7, .one (.ptr 6488512 0)), (8, .one (.ptr 6488576 0)), (13, .one (.ref 100013 [])), (14, .one (.int .i64 x1_1)), (15, .one (.int .i64 x1_2))], objs := [(100013, .row .e9 x1_0 false), (6488512, .box .mem [.ref 649851200 []]), (649851200, .row .e9 x1_3 false), (6488576, .box .mem [.vo 6488832]), (6488832, .box (.clo 105 0 [(false, 1), (false, 1), (false, 1), (false, 1)]) [.ptr 6488448 0, .ptr 6488256 0, .ptr 6488576 0, .ptr 6488512 0]), (6488448, .box .mem [.vo 6488768]), (6488256, .box .mem [.vo 5375424]), (6488768, .map ⟨false, false, false, false⟩ .e9 .e3 x1_4 x1_5), (5375424, .box (.clo 100 0 [(false, 1), (false, 1)]) [.ptr 5374144 0, .ptr 5374080 0]), (5374144, .box .mem [.row .e110 x1_6]), (5374080, .box .mem [.str x1_7, .row .e146 x1_8])], base := 1000 }
abbrev A82_0 : Type := List (C .e9) × List (C .e146) × Int × Int × ByteArray × List (C .e146) × List (C .e110)
def s82_0  : A82_0 → St C := fun (x0_0, x0_1, x0_2, x0_3, x0_4, x0_5, x0_6) => { env := [(2, .one (.ptr 5374080 0)), (3, .one (.ptr 5374144 0)), (6, .one (.ref 100006 [])), (10, .one (.row .e146 x0_1)), (11, .one (.int .i64 x0_2)), (12, .one (.int .i64 x0_3))], objs := [(100006, .row .e9 x0_0 false), (5374080, .box .mem [.str x0_4, .row .e146 x0_5]), (5374144, .box .mem [.row .e110 x0_6])], base := 0 }
noncomputable def r82_1 (n : Nat)   (rec1 : A82_1 → Option (List (C .e9) × Bool)) : A82_1 → Option (List (C .e9) × Bool) := fun (x1_0, x1_1, x1_2, x1_3, x1_4, x1_5, x1_6, x1_7, x1_8) =>
 cond (decide (x1_2 < x1_1))
 (cond (decide (0 ≤ x1_2)) (cond (decide (x1_2 < (x1_0.length : Int))) (Option.bind x1_0[x1_2.toNat]? fun e2 => Option.bind ((G105d n n) e2 x1_3 x1_4 x1_5 x1_6 x1_7 x1_8) fun r3 =>
 cond (!r3.2.2.2.2.2.2)
 (some (([] : List (C .e9)), false))
 (rec1 ((x1_0, x1_1, IntKind.i64.wrap (x1_2 + 1), r3.1, r3.2.1, r3.2.2.1, r3.2.2.2.1, r3.2.2.2.2.1, r3.2.2.2.2.2.1)))) none) none)
 (some (x1_3, true))
noncomputable def LP82_1 (n : Nat)   (x : A82_1) : Option (List (C .e9) × Bool) := lpN (r82_1 n  ) n x
noncomputable def MP82_1 (n : Nat)   (x : A82_1) : Option (List (C .e9) × Bool) := iter (fun rec S => run (X99 n) (F99 n) (codeAt (bodyOf Tryz.f99) [1, 1, 1, 1, 1, 0, 1, 0, 0]) 0 S (lopK rec (blkK 0 (seqK (run (X99 n) (F99 n) (codeAt (bodyOf Tryz.f99) [1, 1, 1, 1, 1, 1]) 0) (inlK (X99 n) Tryz.f99 (callK 0 (some 24) (restK (X82 n) (codeAt (bodyOf Tryz.f82) [1, 1, 1, 0]) 3 (regK (F82 n) (seqK (run (X82 n) (F82 n) (codeAt (bodyOf Tryz.f82) [1, 1, 1, 1]) 0) (kTop (X82 n) Tryz.f82 dec82)))))))))) [7, 8, 13, 14, 15] n (s82_1  x)
theorem m82_1 (n : Nat)   (x : A82_1) : MP82_1 n   x = LP82_1 n   x := by
  refine iter_eq (s82_1 ) (r82_1 n  ) (fun rec1 x => ?_) n x
  obtain ⟨x1_0, x1_1, x1_2, x1_3, x1_4, x1_5, x1_6, x1_7, x1_8⟩ := x
  kernel_rfl
noncomputable def r82_0 (n : Nat)   (rec0 : A82_0 → Option (List (C .e9) × Bool)) : A82_0 → Option (List (C .e9) × Bool) := fun (x0_0, x0_1, x0_2, x0_3, x0_4, x0_5, x0_6) =>
 cond (decide (x0_3 < x0_2))
 (cond (decide (0 ≤ x0_3)) (Option.bind x0_1[x0_3.toNat]? fun e1 => cond (decide ((x0_0.length + (([e1.Name] : List (C .e9))).length) * 16 ≤ 140737488355328)) (rec0 ((x0_0 ++ (([e1.Name] : List (C .e9))), x0_1, x0_2, IntKind.i64.wrap (x0_3 + 1), x0_4, x0_5, x0_6))) none) none)
 (LP82_1 n    ((x0_0, (x0_0.length : Int), 0, ([] : List (C .e9)), ([] : List (Nat × C .e9 × C .e3)), 0, x0_6, x0_4, x0_5)))
noncomputable def LP82_0 (n : Nat)   (x : A82_0) : Option (List (C .e9) × Bool) := lpN (r82_0 n  ) n x
noncomputable def MP82_0 (n : Nat)   (x : A82_0) : Option (List (C .e9) × Bool) := iter (fun rec S => run (X82 n) (F82 n) (codeAt (bodyOf Tryz.f82) [1, 1, 0, 1, 0, 0]) 0 S (lopK rec (blkK 0 (seqK (run (X82 n) (F82 n) (codeAt (bodyOf Tryz.f82) [1, 1, 1]) 0) (kTop (X82 n) Tryz.f82 dec82))))) [2, 3, 6, 10, 11, 12] n (s82_0  x)
theorem m82_0 (n : Nat)   (x : A82_0) : MP82_0 n   x = LP82_0 n   x := by
  refine iter_eq (s82_0 ) (r82_0 n  ) (fun rec0 x => ?_) n x
  obtain ⟨x0_0, x0_1, x0_2, x0_3, x0_4, x0_5, x0_6⟩ := x
  have h : run (X82 n) (F82 n) (codeAt (bodyOf Tryz.f82) [1, 1, 0, 1, 0, 0]) 0 (s82_0  (x0_0, x0_1, x0_2, x0_3, x0_4, x0_5, x0_6)) (lopK (canThen [2, 3, 6, 10, 11, 12] rec0) (blkK 0 (seqK (run (X82 n) (F82 n) (codeAt (bodyOf Tryz.f82) [1, 1, 1]) 0) (kTop (X82 n) Tryz.f82 dec82)))) =
   cond (decide (x0_3 < x0_2))
   (cond (decide (0 ≤ x0_3)) (Option.bind x0_1[x0_3.toNat]? fun e1 => cond (decide ((x0_0.length + (([e1.Name] : List (C .e9))).length) * 16 ≤ 140737488355328)) ((fun x => rec0 (s82_0  x)) ((x0_0 ++ (([e1.Name] : List (C .e9))), x0_1, x0_2, IntKind.i64.wrap (x0_3 + 1), x0_4, x0_5, x0_6))) none) none)
   (MP82_1 n    ((x0_0, (x0_0.length : Int), 0, ([] : List (C .e9)), ([] : List (Nat × C .e9 × C .e3)), 0, x0_6, x0_4, x0_5))) := by kernel_rfl
  simp only [m82_1] at h
  exact h
noncomputable def G82n (n : Nat) (a0 : VGateShape) (a1 : List (C .e110)) : Option (List (C .e9) × Bool) :=
 LP82_0 n    ((([] : List (C .e9)), a0.Fields, (a0.Fields.length : Int), 0, a0.Kind, a0.Fields, a1))
theorem t82 (n : Nat) (a0 : VGateShape) (a1 : List (C .e110)) : runFn (X82 n) (F82 n) Tryz.f82 [.agg [.str a0.Kind, .row .e146 a0.Fields], .one (.row .e110 a1)] dec82 = G82n n a0 a1 := by
  refine Eq.trans (b :=
   MP82_0 n    ((([] : List (C .e9)), a0.Fields, (a0.Fields.length : Int), 0, a0.Kind, a0.Fields, a1))) (by kernel_rfl) ?_
  simp only [G82n, m82_0]
noncomputable def G82 (a0 : VGateShape) (a1 : List (C .e110)) : Option (List (C .e9) × Bool) := G82n fuel a0 a1
noncomputable def con82 : Con C := mkC KK [.el .e105, .row .e110] [.row .e9, .bool] G82
theorem c82 : ConOk Tryz.prog KK 82 con82 := cO (mkQ ⟨c100, trivial⟩ trivial ⟨i99 _, trivial⟩ : Cons Tryz.prog (X82 fuel)) (fn := Tryz.f82) (by kernel_rfl) (by kernel_rfl) (by kernel_rfl) (by kernel_rfl) (F82 fuel) (by kernel_rfl) (fun a0 a1 => t82 fuel a0 a1)
/-! ### f62 loop.example/wharfdesk/impl.GateMendsOk -/
noncomputable def X62 : Cx C := mkX [(79, con79), (80, con80), (81, con81), (82, con82)] [] [] [] 4063232
def F62 (n : Nat) : Cf := { N := n, keep := [0, 1, 4, 6, 7, 9, 11, 19, 20, 21, 22, 23, 41, 43, 44, 45, 46, 56], live := lk [(0, [0, 1, 20, 21, 22]), (2, [1, 43, 44, 45])] }
noncomputable abbrev dec62 := deR KK [.bool]
abbrev A62_1 : Type := List (C .e110) × List (C .e105) × Int × Int
def s62_1  : A62_1 → St C := fun (x1_0, x1_1, x1_2, x1_3) => { env := [(1, .one (.row .e110 x1_0)), (43, .one (.row .e105 x1_1)), (44, .one (.int .i64 x1_2)), (45, .one (.int .i64 x1_3))], objs := [], base := 0 }
abbrev A62_0 : Type := List (C .e105) × List (C .e110) × List (C .e110) × Int × Int
def s62_0  : A62_0 → St C := fun (x0_0, x0_1, x0_2, x0_3, x0_4) => { env := [(0, .one (.row .e105 x0_0)), (1, .one (.row .e110 x0_1)), (20, .one (.row .e110 x0_2)), (21, .one (.int .i64 x0_3)), (22, .one (.int .i64 x0_4))], objs := [], base := 0 }
noncomputable def r62_1 (n : Nat)   (rec1 : A62_1 → Option (Bool)) : A62_1 → Option (Bool) := fun (x1_0, x1_1, x1_2, x1_3) =>
 cond (decide (x1_3 < x1_2))
 (cond (decide (0 ≤ x1_3)) (Option.bind x1_1[x1_3.toNat]? fun e6 => Option.bind (G82 e6 x1_0) fun r7 =>
 cond (!r7.2)
 (some (false))
 (rec1 ((x1_0, x1_1, x1_2, IntKind.i64.wrap (x1_3 + 1))))) none)
 (some (true))
noncomputable def LP62_1 (n : Nat)   (x : A62_1) : Option (Bool) := lpN (r62_1 n  ) n x
noncomputable def MP62_1 (n : Nat)   (x : A62_1) : Option (Bool) := iter (fun rec S => run X62 (F62 n) (codeAt (bodyOf Tryz.f62) [1, 1, 1, 0, 1, 0, 0]) 2 S (lopK rec (blkK 2 (seqK (run X62 (F62 n) (codeAt (bodyOf Tryz.f62) [1, 1, 1, 1]) 0) (kTop X62 Tryz.f62 dec62))))) [1, 43, 44, 45] n (s62_1  x)
theorem m62_1 (n : Nat)   (x : A62_1) : MP62_1 n   x = LP62_1 n   x := by
  refine iter_eq (s62_1 ) (r62_1 n  ) (fun rec1 x => ?_) n x
  obtain ⟨x1_0, x1_1, x1_2, x1_3⟩ := x
  kernel_rfl
noncomputable def r62_0 (n : Nat)   (rec0 : A62_0 → Option (Bool)) : A62_0 → Option (Bool) := fun (x0_0, x0_1, x0_2, x0_3, x0_4) =>
 cond (decide (x0_4 < x0_3))
 (cond (decide (0 ≤ x0_4)) (Option.bind x0_2[x0_4.toNat]? fun e2 => Option.bind (G80 x0_0 e2.Kind) fun r3 =>
 cond (decide (r3 < 0))
 (some (false))
 (cond (decide (0 ≤ r3)) (Option.bind x0_0[r3.toNat]? fun e4 => Option.bind (G81 e4.Fields e2) fun r5 =>
 cond (!r5)
 (some (false))
 (rec0 ((x0_0, x0_1, x0_2, x0_3, IntKind.i64.wrap (x0_4 + 1))))) none)) none)
 (LP62_1 n    ((x0_1, x0_0, (x0_0.length : Int), 0)))
noncomputable def LP62_0 (n : Nat)   (x : A62_0) : Option (Bool) := lpN (r62_0 n  ) n x
noncomputable def MP62_0 (n : Nat)   (x : A62_0) : Option (Bool) := iter (fun rec S => run X62 (F62 n) (codeAt (bodyOf Tryz.f62) [1, 1, 0, 1, 0, 0]) 0 S (lopK rec (blkK 0 (seqK (run X62 (F62 n) (codeAt (bodyOf Tryz.f62) [1, 1, 1]) 0) (kTop X62 Tryz.f62 dec62))))) [0, 1, 20, 21, 22] n (s62_0  x)
theorem m62_0 (n : Nat)   (x : A62_0) : MP62_0 n   x = LP62_0 n   x := by
  refine iter_eq (s62_0 ) (r62_0 n  ) (fun rec0 x => ?_) n x
  obtain ⟨x0_0, x0_1, x0_2, x0_3, x0_4⟩ := x
  have h : run X62 (F62 n) (codeAt (bodyOf Tryz.f62) [1, 1, 0, 1, 0, 0]) 0 (s62_0  (x0_0, x0_1, x0_2, x0_3, x0_4)) (lopK (canThen [0, 1, 20, 21, 22] rec0) (blkK 0 (seqK (run X62 (F62 n) (codeAt (bodyOf Tryz.f62) [1, 1, 1]) 0) (kTop X62 Tryz.f62 dec62)))) =
   cond (decide (x0_4 < x0_3))
   (cond (decide (0 ≤ x0_4)) (Option.bind x0_2[x0_4.toNat]? fun e2 => Option.bind (G80 x0_0 e2.Kind) fun r3 =>
   cond (decide (r3 < 0))
   (some (false))
   (cond (decide (0 ≤ r3)) (Option.bind x0_0[r3.toNat]? fun e4 => Option.bind (G81 e4.Fields e2) fun r5 =>
   cond (!r5)
   (some (false))
   ((fun x => rec0 (s62_0  x)) ((x0_0, x0_1, x0_2, x0_3, IntKind.i64.wrap (x0_4 + 1))))) none)) none)
   (MP62_1 n    ((x0_1, x0_0, (x0_0.length : Int), 0))) := by kernel_rfl
  simp only [m62_1] at h
  exact h
noncomputable def G62n (n : Nat) (a0 : List (C .e105)) (a1 : List (C .e110)) : Option (Bool) :=
 Option.bind (G79 a0) fun r1 =>
 cond (!r1)
 (some (false))
 (cond (decide ((a1.length : Int) > 12))
 (some (false))
 (LP62_0 n    ((a0, a1, a1, (a1.length : Int), 0))))
theorem t62 (n : Nat) (a0 : List (C .e105)) (a1 : List (C .e110)) : runFn X62 (F62 n) Tryz.f62 [.one (.row .e105 a0), .one (.row .e110 a1)] dec62 = G62n n a0 a1 := by
  refine Eq.trans (b :=
   Option.bind (G79 a0) fun r1 =>
   cond (!r1)
   (some (false))
   (cond (decide ((a1.length : Int) > 12))
   (some (false))
   (MP62_0 n    ((a0, a1, a1, (a1.length : Int), 0))))) (by kernel_rfl) ?_
  simp only [G62n, m62_0]
noncomputable def G62 (a0 : List (C .e105)) (a1 : List (C .e110)) : Option (Bool) := G62n fuel a0 a1
noncomputable def con62 : Con C := mkC KK [.row .e105, .row .e110] [.bool] G62
theorem c62 : ConOk Tryz.prog KK 62 con62 := cO (mkQ ⟨c79, c80, c81, c82, trivial⟩ trivial trivial : Cons Tryz.prog X62) (fn := Tryz.f62) (by kernel_rfl) (by kernel_rfl) (by kernel_rfl) (by kernel_rfl) (F62 fuel) (by kernel_rfl) (fun a0 a1 => t62 fuel a0 a1)
/-! ### f83 loop.example/wharfdesk/impl.teamOf -/
noncomputable def X83 : Cx C := mkX [] [] [] [] 5439488
def F83 (n : Nat) : Cf := { N := n, keep := [0, 1, 4, 5, 6, 7, 8, 9, 10, 17], live := lk [(0, [1, 7, 8, 9])] }
noncomputable abbrev dec83 := deR KK [.int .i64]
abbrev A83_0 : Type := ByteArray × List (C .e112) × Int × Int
def s83_0  : A83_0 → St C := fun (x0_0, x0_1, x0_2, x0_3) => { env := [(1, .one (.str x0_0)), (7, .one (.row .e112 x0_1)), (8, .one (.int .i64 x0_2)), (9, .one (.int .i64 x0_3))], objs := [], base := 0 }
noncomputable def r83_0 (n : Nat)   (rec0 : A83_0 → Option (Int)) : A83_0 → Option (Int) := fun (x0_0, x0_1, x0_2, x0_3) =>
 cond (decide (x0_3 < x0_2))
 (cond (decide (0 ≤ x0_3)) (Option.bind x0_1[x0_3.toNat]? fun e1 => cond (decide (e1.Name = x0_0))
 (some (x0_3))
 (rec0 ((x0_0, x0_1, x0_2, IntKind.i64.wrap (x0_3 + 1))))) none)
 (some ((-1)))
noncomputable def LP83_0 (n : Nat)   (x : A83_0) : Option (Int) := lpN (r83_0 n  ) n x
noncomputable def MP83_0 (n : Nat)   (x : A83_0) : Option (Int) := iter (fun rec S => run X83 (F83 n) (codeAt (bodyOf Tryz.f83) [1, 0, 1, 0, 0]) 0 S (lopK rec (blkK 0 (seqK (run X83 (F83 n) (codeAt (bodyOf Tryz.f83) [1, 1]) 0) (kTop X83 Tryz.f83 dec83))))) [1, 7, 8, 9] n (s83_0  x)
theorem m83_0 (n : Nat)   (x : A83_0) : MP83_0 n   x = LP83_0 n   x := by
  refine iter_eq (s83_0 ) (r83_0 n  ) (fun rec0 x => ?_) n x
  obtain ⟨x0_0, x0_1, x0_2, x0_3⟩ := x
  kernel_rfl
noncomputable def G83n (n : Nat) (a0 : List (C .e112)) (a1 : ByteArray) : Option (Int) :=
 LP83_0 n    ((a1, a0, (a0.length : Int), 0))
theorem t83 (n : Nat) (a0 : List (C .e112)) (a1 : ByteArray) : runFn X83 (F83 n) Tryz.f83 [.one (.row .e112 a0), .one (.str a1)] dec83 = G83n n a0 a1 := by
  refine Eq.trans (b :=
   MP83_0 n    ((a1, a0, (a0.length : Int), 0))) (by kernel_rfl) ?_
  simp only [G83n, m83_0]
noncomputable def G83 (a0 : List (C .e112)) (a1 : ByteArray) : Option (Int) := G83n fuel a0 a1
noncomputable def con83 : Con C := mkC KK [.row .e112, .str] [.int .i64] G83
theorem c83 : ConOk Tryz.prog KK 83 con83 := cO (mkQ trivial trivial trivial : Cons Tryz.prog X83) (fn := Tryz.f83) (by kernel_rfl) (by kernel_rfl) (by kernel_rfl) (by kernel_rfl) (F83 fuel) (by kernel_rfl) (fun a0 a1 => t83 fuel a0 a1)
/-! ### f63 loop.example/wharfdesk/impl.GateTeamsOk -/
noncomputable def X63 : Cx C := mkX [(31, con31), (83, con83)] [] [] [] 4128768
def F63 (n : Nat) : Cf := { N := n, keep := [0, 2, 3, 4, 6, 7, 8, 11, 12, 13, 14, 15, 49, 51, 52, 53, 54, 60, 71], live := lk [(0, [0, 12, 13, 14]), (2, [0, 51, 52, 53]), (4, [0, 7, 8, 51, 52, 53])] }
noncomputable abbrev dec63 := deR KK [.bool]
abbrev A63_2 : Type := List (C .e112) × Int × ByteArray × List (C .e112) × Int × Int
def s63_2  : A63_2 → St C := fun (x2_0, x2_1, x2_2, x2_3, x2_4, x2_5) => { env := [(0, .one (.row .e112 x2_0)), (7, .one (.int .i64 x2_1)), (8, .one (.str x2_2)), (51, .one (.row .e112 x2_3)), (52, .one (.int .i64 x2_4)), (53, .one (.int .i64 x2_5))], objs := [], base := 0 }
abbrev A63_1 : Type := List (C .e112) × List (C .e112) × Int × Int
def s63_1  : A63_1 → St C := fun (x1_0, x1_1, x1_2, x1_3) => { env := [(0, .one (.row .e112 x1_0)), (51, .one (.row .e112 x1_1)), (52, .one (.int .i64 x1_2)), (53, .one (.int .i64 x1_3))], objs := [], base := 0 }
abbrev A63_0 : Type := List (C .e112) × List (C .e112) × Int × Int
def s63_0  : A63_0 → St C := fun (x0_0, x0_1, x0_2, x0_3) => { env := [(0, .one (.row .e112 x0_0)), (12, .one (.row .e112 x0_1)), (13, .one (.int .i64 x0_2)), (14, .one (.int .i64 x0_3))], objs := [], base := 0 }
noncomputable def r63_2 (n : Nat) (rec1 : A63_1 → Option (Bool))  (rec2 : A63_2 → Option (Bool)) : A63_2 → Option (Bool) := fun (x2_0, x2_1, x2_2, x2_3, x2_4, x2_5) =>
 cond (!decide (x2_2 = (⟨#[]⟩ : ByteArray)))
 (cond (decide ((IntKind.i64.wrap (x2_1 + 1)) > 4))
 (some (false))
 (Option.bind (G83 x2_0 x2_2) fun r7 =>
 cond (decide (0 ≤ r7)) (Option.bind x2_0[r7.toNat]? fun e8 => rec2 ((x2_0, IntKind.i64.wrap (x2_1 + 1), e8.Over, x2_3, x2_4, x2_5))) none))
 (rec1 ((x2_0, x2_3, x2_4, IntKind.i64.wrap (x2_5 + 1))))
noncomputable def LP63_2 (n : Nat) (rec1 : A63_1 → Option (Bool))  (x : A63_2) : Option (Bool) := lpN (r63_2 n rec1 ) n x
noncomputable def MP63_2 (n : Nat) (rec1 : St C → Option (Bool))  (x : A63_2) : Option (Bool) := iter (fun rec S => run X63 (F63 n) (codeAt (bodyOf Tryz.f63) [1, 1, 1, 0, 1, 0, 0, 1, 1, 0, 0, 1, 1, 1, 0, 0]) 4 S (lopK rec (blkK 4 (blkK 3 (seqK (run X63 (F63 n) (codeAt (bodyOf Tryz.f63) [1, 1, 1, 0, 1, 0, 0, 1, 1, 1]) 2) (lopK (canThen [0, 51, 52, 53] rec1) (blkK 2 (seqK (run X63 (F63 n) (codeAt (bodyOf Tryz.f63) [1, 1, 1, 1]) 0) (kTop X63 Tryz.f63 dec63))))))))) [0, 7, 8, 51, 52, 53] n (s63_2  x)
theorem m63_2 (n : Nat) (rec1 : St C → Option (Bool))  (x : A63_2) : MP63_2 n rec1  x = LP63_2 n (fun x => rec1 (s63_1  x))  x := by
  refine iter_eq (s63_2 ) (r63_2 n (fun x => rec1 (s63_1  x)) ) (fun rec2 x => ?_) n x
  obtain ⟨x2_0, x2_1, x2_2, x2_3, x2_4, x2_5⟩ := x
  kernel_rfl
noncomputable def r63_1 (n : Nat)   (rec1 : A63_1 → Option (Bool)) : A63_1 → Option (Bool) := fun (x1_0, x1_1, x1_2, x1_3) =>
 cond (decide (x1_3 < x1_2))
 (cond (decide (0 ≤ x1_3)) (Option.bind x1_1[x1_3.toNat]? fun e6 => LP63_2 n  rec1  (x1_0, 0, e6.Over, x1_1, x1_2, x1_3)) none)
 (some (true))
noncomputable def LP63_1 (n : Nat)   (x : A63_1) : Option (Bool) := lpN (r63_1 n  ) n x
noncomputable def MP63_1 (n : Nat)   (x : A63_1) : Option (Bool) := iter (fun rec S => run X63 (F63 n) (codeAt (bodyOf Tryz.f63) [1, 1, 1, 0, 1, 0, 0]) 2 S (lopK rec (blkK 2 (seqK (run X63 (F63 n) (codeAt (bodyOf Tryz.f63) [1, 1, 1, 1]) 0) (kTop X63 Tryz.f63 dec63))))) [0, 51, 52, 53] n (s63_1  x)
theorem m63_1 (n : Nat)   (x : A63_1) : MP63_1 n   x = LP63_1 n   x := by
  refine iter_eq (s63_1 ) (r63_1 n  ) (fun rec1 x => ?_) n x
  obtain ⟨x1_0, x1_1, x1_2, x1_3⟩ := x
  have h : run X63 (F63 n) (codeAt (bodyOf Tryz.f63) [1, 1, 1, 0, 1, 0, 0]) 2 (s63_1  (x1_0, x1_1, x1_2, x1_3)) (lopK (canThen [0, 51, 52, 53] rec1) (blkK 2 (seqK (run X63 (F63 n) (codeAt (bodyOf Tryz.f63) [1, 1, 1, 1]) 0) (kTop X63 Tryz.f63 dec63)))) =
   cond (decide (x1_3 < x1_2))
   (cond (decide (0 ≤ x1_3)) (Option.bind x1_1[x1_3.toNat]? fun e6 => MP63_2 n  rec1  (x1_0, 0, e6.Over, x1_1, x1_2, x1_3)) none)
   (some (true)) := by kernel_rfl
  simp only [m63_2] at h
  exact h
noncomputable def r63_0 (n : Nat)   (rec0 : A63_0 → Option (Bool)) : A63_0 → Option (Bool) := fun (x0_0, x0_1, x0_2, x0_3) =>
 cond (decide (x0_3 < x0_2))
 (cond (decide (0 ≤ x0_3)) (Option.bind x0_1[x0_3.toNat]? fun e1 => Option.bind (G31 e1.Name) fun r2 =>
 cond (!r2)
 (some (false))
 (cond (decide (x0_3 > 0))
 (cond (decide (0 ≤ IntKind.i64.wrap (x0_3 - 1))) (Option.bind x0_0[(IntKind.i64.wrap (x0_3 - 1)).toNat]? fun e3 => cond (!slt e3.Name e1.Name)
 (some (false))
 (cond (!decide (e1.Over = (⟨#[]⟩ : ByteArray)))
 (Option.bind (G83 x0_0 e1.Over) fun r4 =>
 cond (decide (r4 < 0))
 (some (false))
 (rec0 ((x0_0, x0_1, x0_2, IntKind.i64.wrap (x0_3 + 1)))))
 (rec0 ((x0_0, x0_1, x0_2, IntKind.i64.wrap (x0_3 + 1)))))) none)
 (cond (!decide (e1.Over = (⟨#[]⟩ : ByteArray)))
 (Option.bind (G83 x0_0 e1.Over) fun r5 =>
 cond (decide (r5 < 0))
 (some (false))
 (rec0 ((x0_0, x0_1, x0_2, IntKind.i64.wrap (x0_3 + 1)))))
 (rec0 ((x0_0, x0_1, x0_2, IntKind.i64.wrap (x0_3 + 1))))))) none)
 (LP63_1 n    ((x0_0, x0_0, (x0_0.length : Int), 0)))
noncomputable def LP63_0 (n : Nat)   (x : A63_0) : Option (Bool) := lpN (r63_0 n  ) n x
noncomputable def MP63_0 (n : Nat)   (x : A63_0) : Option (Bool) := iter (fun rec S => run X63 (F63 n) (codeAt (bodyOf Tryz.f63) [1, 1, 0, 1, 0, 0]) 0 S (lopK rec (blkK 0 (seqK (run X63 (F63 n) (codeAt (bodyOf Tryz.f63) [1, 1, 1]) 0) (kTop X63 Tryz.f63 dec63))))) [0, 12, 13, 14] n (s63_0  x)
theorem m63_0 (n : Nat)   (x : A63_0) : MP63_0 n   x = LP63_0 n   x := by
  refine iter_eq (s63_0 ) (r63_0 n  ) (fun rec0 x => ?_) n x
  obtain ⟨x0_0, x0_1, x0_2, x0_3⟩ := x
  have h : run X63 (F63 n) (codeAt (bodyOf Tryz.f63) [1, 1, 0, 1, 0, 0]) 0 (s63_0  (x0_0, x0_1, x0_2, x0_3)) (lopK (canThen [0, 12, 13, 14] rec0) (blkK 0 (seqK (run X63 (F63 n) (codeAt (bodyOf Tryz.f63) [1, 1, 1]) 0) (kTop X63 Tryz.f63 dec63)))) =
   cond (decide (x0_3 < x0_2))
   (cond (decide (0 ≤ x0_3)) (Option.bind x0_1[x0_3.toNat]? fun e1 => Option.bind (G31 e1.Name) fun r2 =>
   cond (!r2)
   (some (false))
   (cond (decide (x0_3 > 0))
   (cond (decide (0 ≤ IntKind.i64.wrap (x0_3 - 1))) (Option.bind x0_0[(IntKind.i64.wrap (x0_3 - 1)).toNat]? fun e3 => cond (!slt e3.Name e1.Name)
   (some (false))
   (cond (!decide (e1.Over = (⟨#[]⟩ : ByteArray)))
   (Option.bind (G83 x0_0 e1.Over) fun r4 =>
   cond (decide (r4 < 0))
   (some (false))
   ((fun x => rec0 (s63_0  x)) ((x0_0, x0_1, x0_2, IntKind.i64.wrap (x0_3 + 1)))))
   ((fun x => rec0 (s63_0  x)) ((x0_0, x0_1, x0_2, IntKind.i64.wrap (x0_3 + 1)))))) none)
   (cond (!decide (e1.Over = (⟨#[]⟩ : ByteArray)))
   (Option.bind (G83 x0_0 e1.Over) fun r5 =>
   cond (decide (r5 < 0))
   (some (false))
   ((fun x => rec0 (s63_0  x)) ((x0_0, x0_1, x0_2, IntKind.i64.wrap (x0_3 + 1)))))
   ((fun x => rec0 (s63_0  x)) ((x0_0, x0_1, x0_2, IntKind.i64.wrap (x0_3 + 1))))))) none)
   (MP63_1 n    ((x0_0, x0_0, (x0_0.length : Int), 0))) := by kernel_rfl
  simp only [m63_1] at h
  exact h
noncomputable def G63n (n : Nat) (a0 : List (C .e112)) : Option (Bool) :=
 cond (decide ((a0.length : Int) > 12))
 (some (false))
 (LP63_0 n    ((a0, a0, (a0.length : Int), 0)))
theorem t63 (n : Nat) (a0 : List (C .e112)) : runFn X63 (F63 n) Tryz.f63 [.one (.row .e112 a0)] dec63 = G63n n a0 := by
  refine Eq.trans (b :=
   cond (decide ((a0.length : Int) > 12))
   (some (false))
   (MP63_0 n    ((a0, a0, (a0.length : Int), 0)))) (by kernel_rfl) ?_
  simp only [G63n, m63_0]
noncomputable def G63 (a0 : List (C .e112)) : Option (Bool) := G63n fuel a0
noncomputable def con63 : Con C := mkC KK [.row .e112] [.bool] G63
theorem c63 : ConOk Tryz.prog KK 63 con63 := cO (mkQ ⟨c31, c83, trivial⟩ trivial trivial : Cons Tryz.prog X63) (fn := Tryz.f63) (by kernel_rfl) (by kernel_rfl) (by kernel_rfl) (by kernel_rfl) (F63 fuel) (by kernel_rfl) (fun a0 => t63 fuel a0)
/-! ### f30 loop.example/wharfdesk/impl.GateLawOk -/
noncomputable def X30 : Cx C := mkX [(62, con62), (63, con63)] [] [] [] 1966080
def F30 (n : Nat) : Cf := { N := n, keep := [0, 1, 2], live := lk [] }
noncomputable abbrev dec30 := deR KK [.bool]
noncomputable def G30n (n : Nat) (a0 : VGateLaw) : Option (Bool) :=
 Option.bind (G62 a0.Shapes a0.Mends) fun r1 =>
 cond r1
 (Option.bind (G63 a0.Teams) fun r2 =>
 some (r2))
 (some (false))
theorem t30 (n : Nat) (a0 : VGateLaw) : runFn X30 (F30 n) Tryz.f30 [.agg [.row .e105 a0.Shapes, .row .e110 a0.Mends, .row .e112 a0.Teams]] dec30 = G30n n a0 := by
  kernel_rfl
noncomputable def G30 (a0 : VGateLaw) : Option (Bool) := G30n fuel a0
noncomputable def con30 : Con C := mkC KK [.el .e40] [.bool] G30
theorem c30 : ConOk Tryz.prog KK 30 con30 := cO (mkQ ⟨c62, c63, trivial⟩ trivial trivial : Cons Tryz.prog X30) (fn := Tryz.f30) (by kernel_rfl) (by kernel_rfl) (by kernel_rfl) (by kernel_rfl) (F30 fuel) (by kernel_rfl) (fun a0 => t30 fuel a0)
/-! ### f38 loop.example/wharfdesk/laws.eqStringS -/
noncomputable def X38 : Cx C := mkX [] [] [] [] 2490368
def F38 (n : Nat) : Cf := { N := n, keep := [0, 1, 4, 5, 10, 14, 25], live := lk [(0, [0, 1, 5])] }
noncomputable abbrev dec38 := deR KK [.bool]
abbrev A38_0 : Type := List (C .e9) × List (C .e9) × Int
def s38_0  : A38_0 → St C := fun (x0_0, x0_1, x0_2) => { env := [(0, .one (.row .e9 x0_0)), (1, .one (.row .e9 x0_1)), (5, .one (.int .i64 x0_2))], objs := [], base := 0 }
noncomputable def r38_0 (n : Nat)   (rec0 : A38_0 → Option (Bool)) : A38_0 → Option (Bool) := fun (x0_0, x0_1, x0_2) =>
 cond (decide (x0_2 < (x0_0.length : Int)))
 (cond (decide (0 ≤ x0_2)) (Option.bind x0_0[x0_2.toNat]? fun e1 => cond (decide (0 ≤ x0_2)) (Option.bind x0_1[x0_2.toNat]? fun e2 => cond (!decide (e1 = e2))
 (some (false))
 (rec0 ((x0_0, x0_1, IntKind.i64.wrap (x0_2 + 1))))) none) none)
 (some (true))
noncomputable def LP38_0 (n : Nat)   (x : A38_0) : Option (Bool) := lpN (r38_0 n  ) n x
noncomputable def MP38_0 (n : Nat)   (x : A38_0) : Option (Bool) := iter (fun rec S => run X38 (F38 n) (codeAt (bodyOf Tryz.f38) [1, 1, 0, 1, 0, 0]) 0 S (lopK rec (blkK 0 (seqK (run X38 (F38 n) (codeAt (bodyOf Tryz.f38) [1, 1, 1]) 0) (kTop X38 Tryz.f38 dec38))))) [0, 1, 5] n (s38_0  x)
theorem m38_0 (n : Nat)   (x : A38_0) : MP38_0 n   x = LP38_0 n   x := by
  refine iter_eq (s38_0 ) (r38_0 n  ) (fun rec0 x => ?_) n x
  obtain ⟨x0_0, x0_1, x0_2⟩ := x
  kernel_rfl
noncomputable def G38n (n : Nat) (a0 : List (C .e9)) (a1 : List (C .e9)) : Option (Bool) :=
 cond ((a0.length : Int) != (a1.length : Int))
 (some (false))
 (LP38_0 n    (a0, a1, 0))
theorem t38 (n : Nat) (a0 : List (C .e9)) (a1 : List (C .e9)) : runFn X38 (F38 n) Tryz.f38 [.one (.row .e9 a0), .one (.row .e9 a1)] dec38 = G38n n a0 a1 := by
  refine Eq.trans (b :=
   cond ((a0.length : Int) != (a1.length : Int))
   (some (false))
   (MP38_0 n    (a0, a1, 0))) (by kernel_rfl) ?_
  simp only [G38n, m38_0]
noncomputable def G38 (a0 : List (C .e9)) (a1 : List (C .e9)) : Option (Bool) := G38n fuel a0 a1
noncomputable def con38 : Con C := mkC KK [.row .e9, .row .e9] [.bool] G38
theorem c38 : ConOk Tryz.prog KK 38 con38 := cO (mkQ trivial trivial trivial : Cons Tryz.prog X38) (fn := Tryz.f38) (by kernel_rfl) (by kernel_rfl) (by kernel_rfl) (by kernel_rfl) (F38 fuel) (by kernel_rfl) (fun a0 a1 => t38 fuel a0 a1)
/-! ### f101 loop.example/wharfdesk/laws.eqGateField -/
noncomputable def X101 : Cx C := mkX [(38, con38)] [] [] [] 6619136
def F101 (n : Nat) : Cf := { N := n, keep := [0, 1, 2, 3, 4, 9, 14, 19, 24, 30, 35, 40, 45, 50, 55, 60], live := lk [] }
noncomputable abbrev dec101 := deR KK [.bool]
noncomputable def G101n (n : Nat) (a0 : VGateField) (a1 : VGateField) : Option (Bool) :=
 cond (!decide (a0.Name = a1.Name))
 (some (false))
 (cond (a0.Kind != a1.Kind)
 (some (false))
 (cond (a0.Least != a1.Least)
 (some (false))
 (cond (a0.Most != a1.Most)
 (some (false))
 (Option.bind (G38 a0.Words a1.Words) fun r1 =>
 cond (!r1)
 (some (false))
 (cond (!decide (a0.To = a1.To))
 (some (false))
 (cond (a0.Role != a1.Role)
 (some (false))
 (cond (!(a0.Must == a1.Must))
 (some (false))
 (cond (!(a0.Fixed == a1.Fixed))
 (some (false))
 (cond (!decide (a0.Default = a1.Default))
 (some (false))
 (cond (!decide (a0.Weighs = a1.Weighs))
 (some (false))
 (some (true))))))))))))
theorem t101 (n : Nat) (a0 : VGateField) (a1 : VGateField) : runFn X101 (F101 n) Tryz.f101 [.agg [.str a0.Name, .int .i64 a0.Kind, .int .i64 a0.Least, .int .i64 a0.Most, .row .e9 a0.Words, .str a0.To, .int .i64 a0.Role, .bool a0.Must, .bool a0.Fixed, .str a0.Default, .str a0.Weighs], .agg [.str a1.Name, .int .i64 a1.Kind, .int .i64 a1.Least, .int .i64 a1.Most, .row .e9 a1.Words, .str a1.To, .int .i64 a1.Role, .bool a1.Must, .bool a1.Fixed, .str a1.Default, .str a1.Weighs]] dec101 = G101n n a0 a1 := by
  kernel_rfl
noncomputable def G101 (a0 : VGateField) (a1 : VGateField) : Option (Bool) := G101n fuel a0 a1
noncomputable def con101 : Con C := mkC KK [.el .e146, .el .e146] [.bool] G101
theorem c101 : ConOk Tryz.prog KK 101 con101 := cO (mkQ ⟨c38, trivial⟩ trivial trivial : Cons Tryz.prog X101) (fn := Tryz.f101) (by kernel_rfl) (by kernel_rfl) (by kernel_rfl) (by kernel_rfl) (F101 fuel) (by kernel_rfl) (fun a0 a1 => t101 fuel a0 a1)
/-! ### f85 loop.example/wharfdesk/laws.eqGateFieldS -/
noncomputable def X85 : Cx C := mkX [(101, con101)] [] [] [] 5570560
def F85 (n : Nat) : Cf := { N := n, keep := [0, 1, 4, 5, 10, 14, 26], live := lk [(0, [0, 1, 5])] }
noncomputable abbrev dec85 := deR KK [.bool]
abbrev A85_0 : Type := List (C .e146) × List (C .e146) × Int
def s85_0  : A85_0 → St C := fun (x0_0, x0_1, x0_2) => { env := [(0, .one (.row .e146 x0_0)), (1, .one (.row .e146 x0_1)), (5, .one (.int .i64 x0_2))], objs := [], base := 0 }
noncomputable def r85_0 (n : Nat)   (rec0 : A85_0 → Option (Bool)) : A85_0 → Option (Bool) := fun (x0_0, x0_1, x0_2) =>
 cond (decide (x0_2 < (x0_0.length : Int)))
 (cond (decide (0 ≤ x0_2)) (Option.bind x0_0[x0_2.toNat]? fun e1 => cond (decide (0 ≤ x0_2)) (Option.bind x0_1[x0_2.toNat]? fun e2 => Option.bind (G101 e1 e2) fun r3 =>
 cond (!r3)
 (some (false))
 (rec0 ((x0_0, x0_1, IntKind.i64.wrap (x0_2 + 1))))) none) none)
 (some (true))
noncomputable def LP85_0 (n : Nat)   (x : A85_0) : Option (Bool) := lpN (r85_0 n  ) n x
noncomputable def MP85_0 (n : Nat)   (x : A85_0) : Option (Bool) := iter (fun rec S => run X85 (F85 n) (codeAt (bodyOf Tryz.f85) [1, 1, 0, 1, 0, 0]) 0 S (lopK rec (blkK 0 (seqK (run X85 (F85 n) (codeAt (bodyOf Tryz.f85) [1, 1, 1]) 0) (kTop X85 Tryz.f85 dec85))))) [0, 1, 5] n (s85_0  x)
theorem m85_0 (n : Nat)   (x : A85_0) : MP85_0 n   x = LP85_0 n   x := by
  refine iter_eq (s85_0 ) (r85_0 n  ) (fun rec0 x => ?_) n x
  obtain ⟨x0_0, x0_1, x0_2⟩ := x
  kernel_rfl
noncomputable def G85n (n : Nat) (a0 : List (C .e146)) (a1 : List (C .e146)) : Option (Bool) :=
 cond ((a0.length : Int) != (a1.length : Int))
 (some (false))
 (LP85_0 n    (a0, a1, 0))
theorem t85 (n : Nat) (a0 : List (C .e146)) (a1 : List (C .e146)) : runFn X85 (F85 n) Tryz.f85 [.one (.row .e146 a0), .one (.row .e146 a1)] dec85 = G85n n a0 a1 := by
  refine Eq.trans (b :=
   cond ((a0.length : Int) != (a1.length : Int))
   (some (false))
   (MP85_0 n    (a0, a1, 0))) (by kernel_rfl) ?_
  simp only [G85n, m85_0]
noncomputable def G85 (a0 : List (C .e146)) (a1 : List (C .e146)) : Option (Bool) := G85n fuel a0 a1
noncomputable def con85 : Con C := mkC KK [.row .e146, .row .e146] [.bool] G85
theorem c85 : ConOk Tryz.prog KK 85 con85 := cO (mkQ ⟨c101, trivial⟩ trivial trivial : Cons Tryz.prog X85) (fn := Tryz.f85) (by kernel_rfl) (by kernel_rfl) (by kernel_rfl) (by kernel_rfl) (F85 fuel) (by kernel_rfl) (fun a0 a1 => t85 fuel a0 a1)
/-! ### f65 loop.example/wharfdesk/laws.eqGateShape -/
noncomputable def X65 : Cx C := mkX [(85, con85)] [] [] [] 4259840
def F65 (n : Nat) : Cf := { N := n, keep := [0, 1, 2, 3, 4, 9, 15], live := lk [] }
noncomputable abbrev dec65 := deR KK [.bool]
noncomputable def G65n (n : Nat) (a0 : VGateShape) (a1 : VGateShape) : Option (Bool) :=
 cond (!decide (a0.Kind = a1.Kind))
 (some (false))
 (Option.bind (G85 a0.Fields a1.Fields) fun r1 =>
 cond (!r1)
 (some (false))
 (some (true)))
theorem t65 (n : Nat) (a0 : VGateShape) (a1 : VGateShape) : runFn X65 (F65 n) Tryz.f65 [.agg [.str a0.Kind, .row .e146 a0.Fields], .agg [.str a1.Kind, .row .e146 a1.Fields]] dec65 = G65n n a0 a1 := by
  kernel_rfl
noncomputable def G65 (a0 : VGateShape) (a1 : VGateShape) : Option (Bool) := G65n fuel a0 a1
noncomputable def con65 : Con C := mkC KK [.el .e105, .el .e105] [.bool] G65
theorem c65 : ConOk Tryz.prog KK 65 con65 := cO (mkQ ⟨c85, trivial⟩ trivial trivial : Cons Tryz.prog X65) (fn := Tryz.f65) (by kernel_rfl) (by kernel_rfl) (by kernel_rfl) (by kernel_rfl) (F65 fuel) (by kernel_rfl) (fun a0 a1 => t65 fuel a0 a1)
/-! ### f35 loop.example/wharfdesk/laws.eqGateShapeS -/
noncomputable def X35 : Cx C := mkX [(65, con65)] [] [] [] 2293760
def F35 (n : Nat) : Cf := { N := n, keep := [0, 1, 4, 5, 10, 14, 26], live := lk [(0, [0, 1, 5])] }
noncomputable abbrev dec35 := deR KK [.bool]
abbrev A35_0 : Type := List (C .e105) × List (C .e105) × Int
def s35_0  : A35_0 → St C := fun (x0_0, x0_1, x0_2) => { env := [(0, .one (.row .e105 x0_0)), (1, .one (.row .e105 x0_1)), (5, .one (.int .i64 x0_2))], objs := [], base := 0 }
noncomputable def r35_0 (n : Nat)   (rec0 : A35_0 → Option (Bool)) : A35_0 → Option (Bool) := fun (x0_0, x0_1, x0_2) =>
 cond (decide (x0_2 < (x0_0.length : Int)))
 (cond (decide (0 ≤ x0_2)) (Option.bind x0_0[x0_2.toNat]? fun e1 => cond (decide (0 ≤ x0_2)) (Option.bind x0_1[x0_2.toNat]? fun e2 => Option.bind (G65 e1 e2) fun r3 =>
 cond (!r3)
 (some (false))
 (rec0 ((x0_0, x0_1, IntKind.i64.wrap (x0_2 + 1))))) none) none)
 (some (true))
noncomputable def LP35_0 (n : Nat)   (x : A35_0) : Option (Bool) := lpN (r35_0 n  ) n x
noncomputable def MP35_0 (n : Nat)   (x : A35_0) : Option (Bool) := iter (fun rec S => run X35 (F35 n) (codeAt (bodyOf Tryz.f35) [1, 1, 0, 1, 0, 0]) 0 S (lopK rec (blkK 0 (seqK (run X35 (F35 n) (codeAt (bodyOf Tryz.f35) [1, 1, 1]) 0) (kTop X35 Tryz.f35 dec35))))) [0, 1, 5] n (s35_0  x)
theorem m35_0 (n : Nat)   (x : A35_0) : MP35_0 n   x = LP35_0 n   x := by
  refine iter_eq (s35_0 ) (r35_0 n  ) (fun rec0 x => ?_) n x
  obtain ⟨x0_0, x0_1, x0_2⟩ := x
  kernel_rfl
noncomputable def G35n (n : Nat) (a0 : List (C .e105)) (a1 : List (C .e105)) : Option (Bool) :=
 cond ((a0.length : Int) != (a1.length : Int))
 (some (false))
 (LP35_0 n    (a0, a1, 0))
theorem t35 (n : Nat) (a0 : List (C .e105)) (a1 : List (C .e105)) : runFn X35 (F35 n) Tryz.f35 [.one (.row .e105 a0), .one (.row .e105 a1)] dec35 = G35n n a0 a1 := by
  refine Eq.trans (b :=
   cond ((a0.length : Int) != (a1.length : Int))
   (some (false))
   (MP35_0 n    (a0, a1, 0))) (by kernel_rfl) ?_
  simp only [G35n, m35_0]
noncomputable def G35 (a0 : List (C .e105)) (a1 : List (C .e105)) : Option (Bool) := G35n fuel a0 a1
noncomputable def con35 : Con C := mkC KK [.row .e105, .row .e105] [.bool] G35
theorem c35 : ConOk Tryz.prog KK 35 con35 := cO (mkQ ⟨c65, trivial⟩ trivial trivial : Cons Tryz.prog X35) (fn := Tryz.f35) (by kernel_rfl) (by kernel_rfl) (by kernel_rfl) (by kernel_rfl) (F35 fuel) (by kernel_rfl) (fun a0 a1 => t35 fuel a0 a1)
/-! ### f66 loop.example/wharfdesk/laws.eqGateMend -/
noncomputable def X66 : Cx C := mkX [] [] [] [] 4325376
def F66 (n : Nat) : Cf := { N := n, keep := [0, 1, 2, 3, 4, 9, 14, 19, 24, 29, 34], live := lk [] }
noncomputable abbrev dec66 := deR KK [.bool]
noncomputable def G66n (n : Nat) (a0 : VGateMend) (a1 : VGateMend) : Option (Bool) :=
 cond (!decide (a0.Kind = a1.Kind))
 (some (false))
 (cond (!decide (a0.Field = a1.Field))
 (some (false))
 (cond (!decide (a0.When = a1.When))
 (some (false))
 (cond (!decide (a0.Is = a1.Is))
 (some (false))
 (cond (!decide (a0.Put = a1.Put))
 (some (false))
 (cond (!decide (a0.From = a1.From))
 (some (false))
 (some (true)))))))
theorem t66 (n : Nat) (a0 : VGateMend) (a1 : VGateMend) : runFn X66 (F66 n) Tryz.f66 [.agg [.str a0.Kind, .str a0.Field, .str a0.When, .str a0.Is, .str a0.Put, .str a0.From], .agg [.str a1.Kind, .str a1.Field, .str a1.When, .str a1.Is, .str a1.Put, .str a1.From]] dec66 = G66n n a0 a1 := by
  kernel_rfl
noncomputable def G66 (a0 : VGateMend) (a1 : VGateMend) : Option (Bool) := G66n fuel a0 a1
noncomputable def con66 : Con C := mkC KK [.el .e110, .el .e110] [.bool] G66
theorem c66 : ConOk Tryz.prog KK 66 con66 := cO (mkQ trivial trivial trivial : Cons Tryz.prog X66) (fn := Tryz.f66) (by kernel_rfl) (by kernel_rfl) (by kernel_rfl) (by kernel_rfl) (F66 fuel) (by kernel_rfl) (fun a0 a1 => t66 fuel a0 a1)
/-! ### f36 loop.example/wharfdesk/laws.eqGateMendS -/
noncomputable def X36 : Cx C := mkX [(66, con66)] [] [] [] 2359296
def F36 (n : Nat) : Cf := { N := n, keep := [0, 1, 4, 5, 10, 14, 26], live := lk [(0, [0, 1, 5])] }
noncomputable abbrev dec36 := deR KK [.bool]
abbrev A36_0 : Type := List (C .e110) × List (C .e110) × Int
def s36_0  : A36_0 → St C := fun (x0_0, x0_1, x0_2) => { env := [(0, .one (.row .e110 x0_0)), (1, .one (.row .e110 x0_1)), (5, .one (.int .i64 x0_2))], objs := [], base := 0 }
noncomputable def r36_0 (n : Nat)   (rec0 : A36_0 → Option (Bool)) : A36_0 → Option (Bool) := fun (x0_0, x0_1, x0_2) =>
 cond (decide (x0_2 < (x0_0.length : Int)))
 (cond (decide (0 ≤ x0_2)) (Option.bind x0_0[x0_2.toNat]? fun e1 => cond (decide (0 ≤ x0_2)) (Option.bind x0_1[x0_2.toNat]? fun e2 => Option.bind (G66 e1 e2) fun r3 =>
 cond (!r3)
 (some (false))
 (rec0 ((x0_0, x0_1, IntKind.i64.wrap (x0_2 + 1))))) none) none)
 (some (true))
noncomputable def LP36_0 (n : Nat)   (x : A36_0) : Option (Bool) := lpN (r36_0 n  ) n x
noncomputable def MP36_0 (n : Nat)   (x : A36_0) : Option (Bool) := iter (fun rec S => run X36 (F36 n) (codeAt (bodyOf Tryz.f36) [1, 1, 0, 1, 0, 0]) 0 S (lopK rec (blkK 0 (seqK (run X36 (F36 n) (codeAt (bodyOf Tryz.f36) [1, 1, 1]) 0) (kTop X36 Tryz.f36 dec36))))) [0, 1, 5] n (s36_0  x)
theorem m36_0 (n : Nat)   (x : A36_0) : MP36_0 n   x = LP36_0 n   x := by
  refine iter_eq (s36_0 ) (r36_0 n  ) (fun rec0 x => ?_) n x
  obtain ⟨x0_0, x0_1, x0_2⟩ := x
  kernel_rfl
noncomputable def G36n (n : Nat) (a0 : List (C .e110)) (a1 : List (C .e110)) : Option (Bool) :=
 cond ((a0.length : Int) != (a1.length : Int))
 (some (false))
 (LP36_0 n    (a0, a1, 0))
theorem t36 (n : Nat) (a0 : List (C .e110)) (a1 : List (C .e110)) : runFn X36 (F36 n) Tryz.f36 [.one (.row .e110 a0), .one (.row .e110 a1)] dec36 = G36n n a0 a1 := by
  refine Eq.trans (b :=
   cond ((a0.length : Int) != (a1.length : Int))
   (some (false))
   (MP36_0 n    (a0, a1, 0))) (by kernel_rfl) ?_
  simp only [G36n, m36_0]
noncomputable def G36 (a0 : List (C .e110)) (a1 : List (C .e110)) : Option (Bool) := G36n fuel a0 a1
noncomputable def con36 : Con C := mkC KK [.row .e110, .row .e110] [.bool] G36
theorem c36 : ConOk Tryz.prog KK 36 con36 := cO (mkQ ⟨c66, trivial⟩ trivial trivial : Cons Tryz.prog X36) (fn := Tryz.f36) (by kernel_rfl) (by kernel_rfl) (by kernel_rfl) (by kernel_rfl) (F36 fuel) (by kernel_rfl) (fun a0 a1 => t36 fuel a0 a1)
/-! ### f67 loop.example/wharfdesk/laws.eqGateTeam -/
noncomputable def X67 : Cx C := mkX [] [] [] [] 4390912
def F67 (n : Nat) : Cf := { N := n, keep := [0, 1, 2, 3, 4, 9, 14], live := lk [] }
noncomputable abbrev dec67 := deR KK [.bool]
noncomputable def G67n (n : Nat) (a0 : VGateTeam) (a1 : VGateTeam) : Option (Bool) :=
 cond (!decide (a0.Name = a1.Name))
 (some (false))
 (cond (!decide (a0.Over = a1.Over))
 (some (false))
 (some (true)))
theorem t67 (n : Nat) (a0 : VGateTeam) (a1 : VGateTeam) : runFn X67 (F67 n) Tryz.f67 [.agg [.str a0.Name, .str a0.Over], .agg [.str a1.Name, .str a1.Over]] dec67 = G67n n a0 a1 := by
  kernel_rfl
noncomputable def G67 (a0 : VGateTeam) (a1 : VGateTeam) : Option (Bool) := G67n fuel a0 a1
noncomputable def con67 : Con C := mkC KK [.el .e112, .el .e112] [.bool] G67
theorem c67 : ConOk Tryz.prog KK 67 con67 := cO (mkQ trivial trivial trivial : Cons Tryz.prog X67) (fn := Tryz.f67) (by kernel_rfl) (by kernel_rfl) (by kernel_rfl) (by kernel_rfl) (F67 fuel) (by kernel_rfl) (fun a0 a1 => t67 fuel a0 a1)
/-! ### f37 loop.example/wharfdesk/laws.eqGateTeamS -/
noncomputable def X37 : Cx C := mkX [(67, con67)] [] [] [] 2424832
def F37 (n : Nat) : Cf := { N := n, keep := [0, 1, 4, 5, 10, 14, 26], live := lk [(0, [0, 1, 5])] }
noncomputable abbrev dec37 := deR KK [.bool]
abbrev A37_0 : Type := List (C .e112) × List (C .e112) × Int
def s37_0  : A37_0 → St C := fun (x0_0, x0_1, x0_2) => { env := [(0, .one (.row .e112 x0_0)), (1, .one (.row .e112 x0_1)), (5, .one (.int .i64 x0_2))], objs := [], base := 0 }
noncomputable def r37_0 (n : Nat)   (rec0 : A37_0 → Option (Bool)) : A37_0 → Option (Bool) := fun (x0_0, x0_1, x0_2) =>
 cond (decide (x0_2 < (x0_0.length : Int)))
 (cond (decide (0 ≤ x0_2)) (Option.bind x0_0[x0_2.toNat]? fun e1 => cond (decide (0 ≤ x0_2)) (Option.bind x0_1[x0_2.toNat]? fun e2 => Option.bind (G67 e1 e2) fun r3 =>
 cond (!r3)
 (some (false))
 (rec0 ((x0_0, x0_1, IntKind.i64.wrap (x0_2 + 1))))) none) none)
 (some (true))
noncomputable def LP37_0 (n : Nat)   (x : A37_0) : Option (Bool) := lpN (r37_0 n  ) n x
noncomputable def MP37_0 (n : Nat)   (x : A37_0) : Option (Bool) := iter (fun rec S => run X37 (F37 n) (codeAt (bodyOf Tryz.f37) [1, 1, 0, 1, 0, 0]) 0 S (lopK rec (blkK 0 (seqK (run X37 (F37 n) (codeAt (bodyOf Tryz.f37) [1, 1, 1]) 0) (kTop X37 Tryz.f37 dec37))))) [0, 1, 5] n (s37_0  x)
theorem m37_0 (n : Nat)   (x : A37_0) : MP37_0 n   x = LP37_0 n   x := by
  refine iter_eq (s37_0 ) (r37_0 n  ) (fun rec0 x => ?_) n x
  obtain ⟨x0_0, x0_1, x0_2⟩ := x
  kernel_rfl
noncomputable def G37n (n : Nat) (a0 : List (C .e112)) (a1 : List (C .e112)) : Option (Bool) :=
 cond ((a0.length : Int) != (a1.length : Int))
 (some (false))
 (LP37_0 n    (a0, a1, 0))
theorem t37 (n : Nat) (a0 : List (C .e112)) (a1 : List (C .e112)) : runFn X37 (F37 n) Tryz.f37 [.one (.row .e112 a0), .one (.row .e112 a1)] dec37 = G37n n a0 a1 := by
  refine Eq.trans (b :=
   cond ((a0.length : Int) != (a1.length : Int))
   (some (false))
   (MP37_0 n    (a0, a1, 0))) (by kernel_rfl) ?_
  simp only [G37n, m37_0]
noncomputable def G37 (a0 : List (C .e112)) (a1 : List (C .e112)) : Option (Bool) := G37n fuel a0 a1
noncomputable def con37 : Con C := mkC KK [.row .e112, .row .e112] [.bool] G37
theorem c37 : ConOk Tryz.prog KK 37 con37 := cO (mkQ ⟨c67, trivial⟩ trivial trivial : Cons Tryz.prog X37) (fn := Tryz.f37) (by kernel_rfl) (by kernel_rfl) (by kernel_rfl) (by kernel_rfl) (F37 fuel) (by kernel_rfl) (fun a0 a1 => t37 fuel a0 a1)
/-! ### f11 loop.example/wharfdesk/laws.eqGateLaw -/
noncomputable def X11 : Cx C := mkX [(35, con35), (36, con36), (37, con37)] [] [] [] 720896
def F11 (n : Nat) : Cf := { N := n, keep := [0, 1, 2, 3, 4, 10, 16, 22], live := lk [] }
noncomputable abbrev dec11 := deR KK [.bool]
noncomputable def G11n (n : Nat) (a0 : VGateLaw) (a1 : VGateLaw) : Option (Bool) :=
 Option.bind (G35 a0.Shapes a1.Shapes) fun r1 =>
 cond (!r1)
 (some (false))
 (Option.bind (G36 a0.Mends a1.Mends) fun r2 =>
 cond (!r2)
 (some (false))
 (Option.bind (G37 a0.Teams a1.Teams) fun r3 =>
 cond (!r3)
 (some (false))
 (some (true))))
theorem t11 (n : Nat) (a0 : VGateLaw) (a1 : VGateLaw) : runFn X11 (F11 n) Tryz.f11 [.agg [.row .e105 a0.Shapes, .row .e110 a0.Mends, .row .e112 a0.Teams], .agg [.row .e105 a1.Shapes, .row .e110 a1.Mends, .row .e112 a1.Teams]] dec11 = G11n n a0 a1 := by
  kernel_rfl
noncomputable def G11 (a0 : VGateLaw) (a1 : VGateLaw) : Option (Bool) := G11n fuel a0 a1
noncomputable def con11 : Con C := mkC KK [.el .e40, .el .e40] [.bool] G11
theorem c11 : ConOk Tryz.prog KK 11 con11 := cO (mkQ ⟨c35, c36, c37, trivial⟩ trivial trivial : Cons Tryz.prog X11) (fn := Tryz.f11) (by kernel_rfl) (by kernel_rfl) (by kernel_rfl) (by kernel_rfl) (F11 fuel) (by kernel_rfl) (fun a0 a1 => t11 fuel a0 a1)
/-! ### f47 loop.example/wharfdesk/laws.szIntS -/
noncomputable def X47 : Cx C := mkX [] [] [] [] 3080192
def F47 (n : Nat) : Cf := { N := n, keep := [0, 1, 4, 10], live := lk [] }
noncomputable abbrev dec47 := deR KK [.int .i64]
noncomputable def G47n (n : Nat) (a0 : List (C .e3)) (a1 : Int) : Option (Int) :=
 cond (decide ((IntKind.i64.wrap (a1 - (a0.length : Int))) < 0))
 (some ((-1)))
 (some (IntKind.i64.wrap (a1 - (a0.length : Int))))
theorem t47 (n : Nat) (a0 : List (C .e3)) (a1 : Int) : runFn X47 (F47 n) Tryz.f47 [.one (.row .e3 a0), .one (.int .i64 a1)] dec47 = G47n n a0 a1 := by
  kernel_rfl
noncomputable def G47 (a0 : List (C .e3)) (a1 : Int) : Option (Int) := G47n fuel a0 a1
noncomputable def con47 : Con C := mkC KK [.row .e3, .int .i64] [.int .i64] G47
theorem c47 : ConOk Tryz.prog KK 47 con47 := cO (mkQ trivial trivial trivial : Cons Tryz.prog X47) (fn := Tryz.f47) (by kernel_rfl) (by kernel_rfl) (by kernel_rfl) (by kernel_rfl) (F47 fuel) (by kernel_rfl) (fun a0 a1 => t47 fuel a0 a1)
/-! ### f22 loop.example/wharfdesk/laws.szGateRule -/
noncomputable def X22 : Cx C := mkX [(47, con47)] [] [] [] 1441792
def F22 (n : Nat) : Cf := { N := n, keep := [0, 1, 2, 4, 10, 17, 24, 31], live := lk [] }
noncomputable abbrev dec22 := deR KK [.int .i64]
noncomputable def G22n (n : Nat) (a0 : VGateRule) (a1 : Int) : Option (Int) :=
 Option.bind (G47 a0.Verbs a1) fun r1 =>
 cond (decide (r1 < 0))
 (some ((-1)))
 (cond (decide ((IntKind.i64.wrap (r1 - (a0.Kind.size : Int))) < 0))
 (some ((-1)))
 (cond (decide ((IntKind.i64.wrap ((IntKind.i64.wrap (r1 - (a0.Kind.size : Int))) - (a0.Team.size : Int))) < 0))
 (some ((-1)))
 (cond (decide ((IntKind.i64.wrap ((IntKind.i64.wrap ((IntKind.i64.wrap (r1 - (a0.Kind.size : Int))) - (a0.Team.size : Int))) - (a0.Prefix.size : Int))) < 0))
 (some ((-1)))
 (some (IntKind.i64.wrap ((IntKind.i64.wrap ((IntKind.i64.wrap (r1 - (a0.Kind.size : Int))) - (a0.Team.size : Int))) - (a0.Prefix.size : Int)))))))
theorem t22 (n : Nat) (a0 : VGateRule) (a1 : Int) : runFn X22 (F22 n) Tryz.f22 [.agg [.row .e3 a0.Verbs, .str a0.Kind, .str a0.Team, .str a0.Prefix], .one (.int .i64 a1)] dec22 = G22n n a0 a1 := by
  kernel_rfl
noncomputable def G22 (a0 : VGateRule) (a1 : Int) : Option (Int) := G22n fuel a0 a1
noncomputable def con22 : Con C := mkC KK [.el .e30, .int .i64] [.int .i64] G22
theorem c22 : ConOk Tryz.prog KK 22 con22 := cO (mkQ ⟨c47, trivial⟩ trivial trivial : Cons Tryz.prog X22) (fn := Tryz.f22) (by kernel_rfl) (by kernel_rfl) (by kernel_rfl) (by kernel_rfl) (F22 fuel) (by kernel_rfl) (fun a0 a1 => t22 fuel a0 a1)
/-! ### f6 loop.example/wharfdesk/laws.szGateAsk -/
noncomputable def X6 : Cx C := mkX [(21, con21), (22, con22)] [] [] [] 393216
def F6 (n : Nat) : Cf := { N := n, keep := [0, 1, 2, 4, 11, 18, 25, 32, 38, 44, 51, 58, 64], live := lk [] }
noncomputable abbrev dec6 := deR KK [.int .i64]
noncomputable def G6n (n : Nat) (a0 : VGateAsk) (a1 : Int) : Option (Int) :=
 cond (decide ((IntKind.i64.wrap (a1 - (a0.Who.size : Int))) < 0))
 (some ((-1)))
 (cond (decide ((IntKind.i64.wrap ((IntKind.i64.wrap (a1 - (a0.Who.size : Int))) - (a0.Kind.size : Int))) < 0))
 (some ((-1)))
 (cond (decide ((IntKind.i64.wrap ((IntKind.i64.wrap ((IntKind.i64.wrap (a1 - (a0.Who.size : Int))) - (a0.Kind.size : Int))) - (a0.Name.size : Int))) < 0))
 (some ((-1)))
 (cond (decide ((IntKind.i64.wrap ((IntKind.i64.wrap ((IntKind.i64.wrap ((IntKind.i64.wrap (a1 - (a0.Who.size : Int))) - (a0.Kind.size : Int))) - (a0.Name.size : Int))) - (a0.Team.size : Int))) < 0))
 (some ((-1)))
 (Option.bind (G21 a0.Values (IntKind.i64.wrap ((IntKind.i64.wrap ((IntKind.i64.wrap ((IntKind.i64.wrap (a1 - (a0.Who.size : Int))) - (a0.Kind.size : Int))) - (a0.Name.size : Int))) - (a0.Team.size : Int)))) fun r1 =>
 cond (decide (r1 < 0))
 (some ((-1)))
 (Option.bind (G21 a0.Holds r1) fun r2 =>
 cond (decide (r2 < 0))
 (some ((-1)))
 (cond (decide ((IntKind.i64.wrap (r2 - (a0.Hold.size : Int))) < 0))
 (some ((-1)))
 (cond (decide ((IntKind.i64.wrap ((IntKind.i64.wrap (r2 - (a0.Hold.size : Int))) - (a0.To.size : Int))) < 0))
 (some ((-1)))
 (Option.bind (G22 (⟨a0.Rule_Verbs, a0.Rule_Kind, a0.Rule_Team, a0.Rule_Prefix⟩ : VGateRule) (IntKind.i64.wrap ((IntKind.i64.wrap (r2 - (a0.Hold.size : Int))) - (a0.To.size : Int)))) fun r3 =>
 cond (decide (r3 < 0))
 (some ((-1)))
 (some (r3))))))))))
theorem t6 (n : Nat) (a0 : VGateAsk) (a1 : Int) : runFn X6 (F6 n) Tryz.f6 [.agg [.str a0.Who, .int .i64 a0.Verb, .str a0.Kind, .str a0.Name, .str a0.Team, .row .e9 a0.Values, .row .e9 a0.Holds, .int .i64 a0.Seen, .str a0.Hold, .str a0.To, .row .e3 a0.Rule_Verbs, .str a0.Rule_Kind, .str a0.Rule_Team, .str a0.Rule_Prefix, .int .i64 a0.Number], .one (.int .i64 a1)] dec6 = G6n n a0 a1 := by
  kernel_rfl
noncomputable def G6 (a0 : VGateAsk) (a1 : Int) : Option (Int) := G6n fuel a0 a1
noncomputable def con6 : Con C := mkC KK [.el .e32, .int .i64] [.int .i64] G6
theorem c6 : ConOk Tryz.prog KK 6 con6 := cO (mkQ ⟨c21, c22, trivial⟩ trivial trivial : Cons Tryz.prog X6) (fn := Tryz.f6) (by kernel_rfl) (by kernel_rfl) (by kernel_rfl) (by kernel_rfl) (F6 fuel) (by kernel_rfl) (fun a0 a1 => t6 fuel a0 a1)
/-! ### f52 loop.example/wharfdesk/spec.l8Nothing -/
noncomputable def X52 : Cx C := mkX [] [] [] [] 3407872
def F52 (n : Nat) : Cf := { N := n, keep := [0, 1, 2], live := lk [] }
noncomputable abbrev dec52 := deR KK [.bool]
noncomputable def G52n (n : Nat) (a0 : VGateAsk) : Option (Bool) :=
 cond (decide (a0.Kind = (⟨#[]⟩ : ByteArray)))
 (cond (decide (a0.Name = (⟨#[]⟩ : ByteArray)))
 (cond (decide (a0.Team = (⟨#[]⟩ : ByteArray)))
 (cond ((a0.Values.length : Int) == 0)
 (cond ((a0.Holds.length : Int) == 0)
 (cond (a0.Seen == 0)
 (cond (decide (a0.Hold = (⟨#[]⟩ : ByteArray)))
 (cond (decide (a0.To = (⟨#[]⟩ : ByteArray)))
 (cond ((a0.Rule_Verbs.length : Int) == 0)
 (cond (decide (a0.Rule_Kind = (⟨#[]⟩ : ByteArray)))
 (cond (decide (a0.Rule_Team = (⟨#[]⟩ : ByteArray)))
 (cond (decide (a0.Rule_Prefix = (⟨#[]⟩ : ByteArray)))
 (some (a0.Number == 0))
 (some (false)))
 (some (false)))
 (some (false)))
 (some (false)))
 (some (false)))
 (some (false)))
 (some (false)))
 (some (false)))
 (some (false)))
 (some (false)))
 (some (false)))
 (some (false))
theorem t52 (n : Nat) (a0 : VGateAsk) : runFn X52 (F52 n) Tryz.f52 [.agg [.str a0.Who, .int .i64 a0.Verb, .str a0.Kind, .str a0.Name, .str a0.Team, .row .e9 a0.Values, .row .e9 a0.Holds, .int .i64 a0.Seen, .str a0.Hold, .str a0.To, .row .e3 a0.Rule_Verbs, .str a0.Rule_Kind, .str a0.Rule_Team, .str a0.Rule_Prefix, .int .i64 a0.Number]] dec52 = G52n n a0 := by
  kernel_rfl
noncomputable def G52 (a0 : VGateAsk) : Option (Bool) := G52n fuel a0
noncomputable def con52 : Con C := mkC KK [.el .e44] [.bool] G52
theorem c52 : ConOk Tryz.prog KK 52 con52 := cO (mkQ trivial trivial trivial : Cons Tryz.prog X52) (fn := Tryz.f52) (by kernel_rfl) (by kernel_rfl) (by kernel_rfl) (by kernel_rfl) (F52 fuel) (by kernel_rfl) (fun a0 => t52 fuel a0)
/-! ### f53 loop.example/wharfdesk/spec.l8Rest, run in place -/
noncomputable def X53 : Cx C := mkX [] [] [] [] 3473408
def F53 (n : Nat) : Cf := { N := n, keep := [0, 1, 2, 5, 6, 13, 19, 24, 29, 34], live := lk [] }
noncomputable def I53 (n : Nat) : Inl C := inlOf X53 (F53 n) Tryz.f53
theorem i53 (n : Nat) : InlOk Tryz.prog KK 53 (I53 n) := iO (mkQ trivial trivial trivial : Cons Tryz.prog X53) (F53 n) (fn := Tryz.f53) (by kernel_rfl) (by kernel_rfl) (by kernel_rfl) (by kernel_rfl)
/-! ### f57 loop.example/wharfdesk/spec.l4RuleOk -/
noncomputable def X57 : Cx C := mkX [(50, con50), (51, con51), (77, con77)] [] [] [] 3735552
def F57 (n : Nat) : Cf := { N := n, keep := [0, 1, 2, 3, 4, 36, 41, 68, 73, 81], live := lk [(0, [1, 3]), (2, [1, 4])] }
noncomputable abbrev dec57 := deR KK [.bool]
abbrev A57_1 : Type := Int
section
variable (x1 : List (C .e3)) (x2 : ByteArray) (x3 : ByteArray) (x4 : ByteArray)
def s57_1 : A57_1 → St C := fun x0 => { env := [(1, .one (.ptr 3735616 0)), (4, .one (.int .i64 x0))], objs := [(3735616, .box .mem [.row .e3 x1, .str x2, .str x3, .str x4])], base := 0 }
end
noncomputable def r57_1 (x4 : ByteArray) (n : Nat)   (rec1 : A57_1 → Option (Bool)) : A57_1 → Option (Bool) := fun x0 =>
 cond (decide (x0 < (x4.size : Int)))
 (cond (decide (0 ≤ x0)) (cond (decide (x0 < (x4.size : Int))) (Option.bind (G77 (sbt x4 x0)) fun r7 =>
 cond (!r7)
 (some (false))
 (rec1 (IntKind.i64.wrap (x0 + 1)))) none) none)
 (some (true))
abbrev A57_0 : Type := Int
section
variable (x1 : List (C .e3)) (x2 : ByteArray) (x3 : ByteArray) (x4 : ByteArray)
def s57_0 : A57_0 → St C := fun x0 => { env := [(1, .one (.ptr 3735616 0)), (3, .one (.int .i64 x0))], objs := [(3735616, .box .mem [.row .e3 x1, .str x2, .str x3, .str x4])], base := 0 }
end
noncomputable def r57_0 (x1 : List (C .e3)) (x4 : ByteArray) (n : Nat)   (rec0 : A57_0 → Option (Bool)) : A57_0 → Option (Bool) := fun x0 =>
 cond (decide (x0 < (x1.length : Int)))
 (cond (decide (0 ≤ x0)) (Option.bind x1[x0.toNat]? fun e3 => Option.bind (G51 e3 1 5) fun r4 =>
 cond (!r4)
 (some (false))
 (cond (decide (x0 > 0))
 (cond (decide (0 ≤ IntKind.i64.wrap (x0 - 1))) (Option.bind x1[(IntKind.i64.wrap (x0 - 1)).toNat]? fun e5 => cond (decide (0 ≤ x0)) (Option.bind x1[x0.toNat]? fun e6 => cond (decide (e5 ≥ e6))
 (some (false))
 (rec0 (IntKind.i64.wrap (x0 + 1)))) none) none)
 (rec0 (IntKind.i64.wrap (x0 + 1))))) none)
 (lpN (r57_1 x4 n ) n 0)
section
variable (x1 : List (C .e3)) (x2 : ByteArray) (x3 : ByteArray) (x4 : ByteArray)
noncomputable def MP57_1 (n : Nat)  (x : A57_1) : Option (Bool) := iter (fun rec S => run X57 (F57 n) (codeAt (bodyOf Tryz.f57) [1, 1, 1, 0, 1, 0, 0]) 2 S (lopK rec (blkK 2 (seqK (run X57 (F57 n) (codeAt (bodyOf Tryz.f57) [1, 1, 1, 1]) 0) (kTop X57 Tryz.f57 dec57))))) [1, 4] n (s57_1 x1 x2 x3 x4 x)
theorem m57_1 (n : Nat)  (x : A57_1) : MP57_1 x1 x2 x3 x4 n  x = lpN (r57_1 x4 n  ) n x := by
  refine iter_eq (s57_1 x1 x2 x3 x4) (r57_1 x4 n  ) (fun rec1 x0 => ?_) n x
  kernel_rfl
end
section
variable (x1 : List (C .e3)) (x2 : ByteArray) (x3 : ByteArray) (x4 : ByteArray)
noncomputable def MP57_0 (n : Nat)  (x : A57_0) : Option (Bool) := iter (fun rec S => run X57 (F57 n) (codeAt (bodyOf Tryz.f57) [1, 1, 0, 1, 0, 0]) 0 S (lopK rec (blkK 0 (seqK (run X57 (F57 n) (codeAt (bodyOf Tryz.f57) [1, 1, 1]) 0) (kTop X57 Tryz.f57 dec57))))) [1, 3] n (s57_0 x1 x2 x3 x4 x)
theorem m57_0 (n : Nat)  (x : A57_0) : MP57_0 x1 x2 x3 x4 n  x = lpN (r57_0 x1 x4 n  ) n x := by
  refine iter_eq (s57_0 x1 x2 x3 x4) (r57_0 x1 x4 n  ) (fun rec0 x0 => ?_) n x
  have h : run X57 (F57 n) (codeAt (bodyOf Tryz.f57) [1, 1, 0, 1, 0, 0]) 0 (s57_0 x1 x2 x3 x4 x0) (lopK (canThen [1, 3] rec0) (blkK 0 (seqK (run X57 (F57 n) (codeAt (bodyOf Tryz.f57) [1, 1, 1]) 0) (kTop X57 Tryz.f57 dec57)))) =
   cond (decide (x0 < (x1.length : Int)))
   (cond (decide (0 ≤ x0)) (Option.bind x1[x0.toNat]? fun e3 => Option.bind (G51 e3 1 5) fun r4 =>
   cond (!r4)
   (some (false))
   (cond (decide (x0 > 0))
   (cond (decide (0 ≤ IntKind.i64.wrap (x0 - 1))) (Option.bind x1[(IntKind.i64.wrap (x0 - 1)).toNat]? fun e5 => cond (decide (0 ≤ x0)) (Option.bind x1[x0.toNat]? fun e6 => cond (decide (e5 ≥ e6))
   (some (false))
   ((fun x => rec0 (s57_0 x1 x2 x3 x4 x)) (IntKind.i64.wrap (x0 + 1)))) none) none)
   ((fun x => rec0 (s57_0 x1 x2 x3 x4 x)) (IntKind.i64.wrap (x0 + 1))))) none)
   (MP57_1 x1 x2 x3 x4 n   0) := by kernel_rfl
  simp only [m57_1] at h
  exact h
end
noncomputable def G57n (n : Nat) (a0 : VGateRule) : Option (Bool) :=
 cond ((a0.Verbs.length : Int) == 0)
 (some (false))
 (cond (decide ((a0.Prefix.size : Int) > 16))
 (some (false))
 (cond (!decide (a0.Kind = (⟨#[]⟩ : ByteArray)))
 (Option.bind (G50 a0.Kind) fun r1 =>
 cond (!r1)
 (some (false))
 (cond (!decide (a0.Team = (⟨#[]⟩ : ByteArray)))
 (Option.bind (G50 a0.Team) fun r2 =>
 cond (!r2)
 (some (false))
 (lpN (r57_0 a0.Verbs a0.Prefix n ) n 0))
 (lpN (r57_0 a0.Verbs a0.Prefix n ) n 0)))
 (cond (!decide (a0.Team = (⟨#[]⟩ : ByteArray)))
 (Option.bind (G50 a0.Team) fun r8 =>
 cond (!r8)
 (some (false))
 (lpN (r57_0 a0.Verbs a0.Prefix n ) n 0))
 (lpN (r57_0 a0.Verbs a0.Prefix n ) n 0))))
theorem t57 (n : Nat) (a0 : VGateRule) : runFn X57 (F57 n) Tryz.f57 [.agg [.row .e3 a0.Verbs, .str a0.Kind, .str a0.Team, .str a0.Prefix]] dec57 = G57n n a0 := by
  refine Eq.trans (b :=
   cond ((a0.Verbs.length : Int) == 0)
   (some (false))
   (cond (decide ((a0.Prefix.size : Int) > 16))
   (some (false))
   (cond (!decide (a0.Kind = (⟨#[]⟩ : ByteArray)))
   (Option.bind (G50 a0.Kind) fun r1 =>
   cond (!r1)
   (some (false))
   (cond (!decide (a0.Team = (⟨#[]⟩ : ByteArray)))
   (Option.bind (G50 a0.Team) fun r2 =>
   cond (!r2)
   (some (false))
   (MP57_0 a0.Verbs a0.Kind a0.Team a0.Prefix n   0))
   (MP57_0 a0.Verbs a0.Kind a0.Team a0.Prefix n   0)))
   (cond (!decide (a0.Team = (⟨#[]⟩ : ByteArray)))
   (Option.bind (G50 a0.Team) fun r8 =>
   cond (!r8)
   (some (false))
   (MP57_0 a0.Verbs a0.Kind a0.Team a0.Prefix n   0))
   (MP57_0 a0.Verbs a0.Kind a0.Team a0.Prefix n   0))))) (by kernel_rfl) ?_
  simp only [G57n, m57_0]
noncomputable def G57 (a0 : VGateRule) : Option (Bool) := G57n fuel a0
noncomputable def con57 : Con C := mkC KK [.el .e42] [.bool] G57
theorem c57 : ConOk Tryz.prog KK 57 con57 := cO (mkQ ⟨c50, c51, c77, trivial⟩ trivial trivial : Cons Tryz.prog X57) (fn := Tryz.f57) (by kernel_rfl) (by kernel_rfl) (by kernel_rfl) (by kernel_rfl) (F57 fuel) (by kernel_rfl) (fun a0 => t57 fuel a0)
/-! ### f24 loop.example/wharfdesk/spec.l8AskOk -/
noncomputable def X24 (n : Nat) : Cx C := mkX [(50, con50), (51, con51), (52, con52), (54, con54), (55, con55), (56, con56), (57, con57)] [] [(53, I53 n)] [2, 3, 16, 18, 19, 20, 21] 1572864
def F24 (n : Nat) : Cf := { N := n, keep := [0, 1, 2, 3, 4, 5, 21, 39, 41, 42, 73, 91, 96, 101], live := lk [] }
noncomputable abbrev dec24 := deR KK [.bool]
noncomputable def G24n (n : Nat) (a0 : VGateLaw) (a1 : VGateAsk) : Option (Bool) :=
 Option.bind (G50 a1.Who) fun r1 =>
 cond (!r1)
 (some (false))
 (Option.bind (G51 a1.Verb 1 6) fun r2 =>
 cond (!r2)
 (some (false))
 (cond (a1.Verb == 1)
 (Option.bind (G52 ((⟨(⟨#[]⟩ : ByteArray), a1.Verb, (⟨#[]⟩ : ByteArray), (⟨#[]⟩ : ByteArray), (⟨#[]⟩ : ByteArray), ([] : List (C .e9)), ([] : List (C .e9)), a1.Seen, a1.Hold, a1.To, a1.Rule_Verbs, a1.Rule_Kind, a1.Rule_Team, a1.Rule_Prefix, a1.Number⟩ : VGateAsk))) fun r3 =>
 cond (!r3)
 (some (false))
 (Option.bind (G54 a0.Shapes a1.Kind) fun r4 =>
 cond (decide (a1.Verb ≤ 4))
 (cond (decide (r4 < 0))
 (some (false))
 (Option.bind (G50 a1.Name) fun r5 =>
 cond (!r5)
 (some (false))
 (cond (a1.Verb == 1)
 (cond (decide (0 ≤ r4)) (Option.bind a0.Shapes[r4.toNat]? fun e6 => cond ((a1.Values.length : Int) == (e6.Fields.length : Int))
 (Option.bind (G55 a0.Teams a1.Team) fun r7 =>
 cond r7
 (cond (decide ((a1.Holds.length : Int) ≤ 3))
 (Option.bind (G56 a1.Holds) fun r8 =>
 some (r8))
 (some (false)))
 (some (false)))
 (some (false))) none)
 (cond (a1.Verb == 2)
 (cond (decide (0 ≤ r4)) (Option.bind a0.Shapes[r4.toNat]? fun e9 => cond ((a1.Values.length : Int) == (e9.Fields.length : Int))
 (some (decide (a1.Seen ≥ 0)))
 (some (false))) none)
 (cond (a1.Verb == 3)
 (some (decide (a1.Seen ≥ 0)))
 (cond (a1.Verb == 4)
 (Option.bind (G50 a1.Hold) fun r10 =>
 some (r10))
 (cond (a1.Verb == 5)
 (Option.bind (G50 a1.To) fun r11 =>
 cond r11
 (Option.bind (G57 (⟨a1.Rule_Verbs, a1.Rule_Kind, a1.Rule_Team, a1.Rule_Prefix⟩ : VGateRule)) fun r12 =>
 some (r12))
 (some (false)))
 (some (decide (a1.Number ≥ 1))))))))))
 (cond (a1.Verb == 1)
 (cond (decide (0 ≤ r4)) (Option.bind a0.Shapes[r4.toNat]? fun e13 => cond ((a1.Values.length : Int) == (e13.Fields.length : Int))
 (Option.bind (G55 a0.Teams a1.Team) fun r14 =>
 cond r14
 (cond (decide ((a1.Holds.length : Int) ≤ 3))
 (Option.bind (G56 a1.Holds) fun r15 =>
 some (r15))
 (some (false)))
 (some (false)))
 (some (false))) none)
 (cond (a1.Verb == 2)
 (cond (decide (0 ≤ r4)) (Option.bind a0.Shapes[r4.toNat]? fun e16 => cond ((a1.Values.length : Int) == (e16.Fields.length : Int))
 (some (decide (a1.Seen ≥ 0)))
 (some (false))) none)
 (cond (a1.Verb == 3)
 (some (decide (a1.Seen ≥ 0)))
 (cond (a1.Verb == 4)
 (Option.bind (G50 a1.Hold) fun r17 =>
 some (r17))
 (cond (a1.Verb == 5)
 (Option.bind (G50 a1.To) fun r18 =>
 cond r18
 (Option.bind (G57 (⟨a1.Rule_Verbs, a1.Rule_Kind, a1.Rule_Team, a1.Rule_Prefix⟩ : VGateRule)) fun r19 =>
 some (r19))
 (some (false)))
 (some (decide (a1.Number ≥ 1))))))))))
 (cond (a1.Verb == 2)
 (Option.bind (G52 ((⟨(⟨#[]⟩ : ByteArray), a1.Verb, (⟨#[]⟩ : ByteArray), (⟨#[]⟩ : ByteArray), a1.Team, ([] : List (C .e9)), a1.Holds, 0, a1.Hold, a1.To, a1.Rule_Verbs, a1.Rule_Kind, a1.Rule_Team, a1.Rule_Prefix, a1.Number⟩ : VGateAsk))) fun r20 =>
 cond (!r20)
 (some (false))
 (Option.bind (G54 a0.Shapes a1.Kind) fun r21 =>
 cond (decide (a1.Verb ≤ 4))
 (cond (decide (r21 < 0))
 (some (false))
 (Option.bind (G50 a1.Name) fun r22 =>
 cond (!r22)
 (some (false))
 (cond (a1.Verb == 1)
 (cond (decide (0 ≤ r21)) (Option.bind a0.Shapes[r21.toNat]? fun e23 => cond ((a1.Values.length : Int) == (e23.Fields.length : Int))
 (Option.bind (G55 a0.Teams a1.Team) fun r24 =>
 cond r24
 (cond (decide ((a1.Holds.length : Int) ≤ 3))
 (Option.bind (G56 a1.Holds) fun r25 =>
 some (r25))
 (some (false)))
 (some (false)))
 (some (false))) none)
 (cond (a1.Verb == 2)
 (cond (decide (0 ≤ r21)) (Option.bind a0.Shapes[r21.toNat]? fun e26 => cond ((a1.Values.length : Int) == (e26.Fields.length : Int))
 (some (decide (a1.Seen ≥ 0)))
 (some (false))) none)
 (cond (a1.Verb == 3)
 (some (decide (a1.Seen ≥ 0)))
 (cond (a1.Verb == 4)
 (Option.bind (G50 a1.Hold) fun r27 =>
 some (r27))
 (cond (a1.Verb == 5)
 (Option.bind (G50 a1.To) fun r28 =>
 cond r28
 (Option.bind (G57 (⟨a1.Rule_Verbs, a1.Rule_Kind, a1.Rule_Team, a1.Rule_Prefix⟩ : VGateRule)) fun r29 =>
 some (r29))
 (some (false)))
 (some (decide (a1.Number ≥ 1))))))))))
 (cond (a1.Verb == 1)
 (cond (decide (0 ≤ r21)) (Option.bind a0.Shapes[r21.toNat]? fun e30 => cond ((a1.Values.length : Int) == (e30.Fields.length : Int))
 (Option.bind (G55 a0.Teams a1.Team) fun r31 =>
 cond r31
 (cond (decide ((a1.Holds.length : Int) ≤ 3))
 (Option.bind (G56 a1.Holds) fun r32 =>
 some (r32))
 (some (false)))
 (some (false)))
 (some (false))) none)
 (cond (a1.Verb == 2)
 (cond (decide (0 ≤ r21)) (Option.bind a0.Shapes[r21.toNat]? fun e33 => cond ((a1.Values.length : Int) == (e33.Fields.length : Int))
 (some (decide (a1.Seen ≥ 0)))
 (some (false))) none)
 (cond (a1.Verb == 3)
 (some (decide (a1.Seen ≥ 0)))
 (cond (a1.Verb == 4)
 (Option.bind (G50 a1.Hold) fun r34 =>
 some (r34))
 (cond (a1.Verb == 5)
 (Option.bind (G50 a1.To) fun r35 =>
 cond r35
 (Option.bind (G57 (⟨a1.Rule_Verbs, a1.Rule_Kind, a1.Rule_Team, a1.Rule_Prefix⟩ : VGateRule)) fun r36 =>
 some (r36))
 (some (false)))
 (some (decide (a1.Number ≥ 1))))))))))
 (cond (a1.Verb == 3)
 (Option.bind (G52 ((⟨(⟨#[]⟩ : ByteArray), a1.Verb, (⟨#[]⟩ : ByteArray), (⟨#[]⟩ : ByteArray), a1.Team, a1.Values, a1.Holds, 0, a1.Hold, a1.To, a1.Rule_Verbs, a1.Rule_Kind, a1.Rule_Team, a1.Rule_Prefix, a1.Number⟩ : VGateAsk))) fun r37 =>
 cond (!r37)
 (some (false))
 (Option.bind (G54 a0.Shapes a1.Kind) fun r38 =>
 cond (decide (a1.Verb ≤ 4))
 (cond (decide (r38 < 0))
 (some (false))
 (Option.bind (G50 a1.Name) fun r39 =>
 cond (!r39)
 (some (false))
 (cond (a1.Verb == 1)
 (cond (decide (0 ≤ r38)) (Option.bind a0.Shapes[r38.toNat]? fun e40 => cond ((a1.Values.length : Int) == (e40.Fields.length : Int))
 (Option.bind (G55 a0.Teams a1.Team) fun r41 =>
 cond r41
 (cond (decide ((a1.Holds.length : Int) ≤ 3))
 (Option.bind (G56 a1.Holds) fun r42 =>
 some (r42))
 (some (false)))
 (some (false)))
 (some (false))) none)
 (cond (a1.Verb == 2)
 (cond (decide (0 ≤ r38)) (Option.bind a0.Shapes[r38.toNat]? fun e43 => cond ((a1.Values.length : Int) == (e43.Fields.length : Int))
 (some (decide (a1.Seen ≥ 0)))
 (some (false))) none)
 (cond (a1.Verb == 3)
 (some (decide (a1.Seen ≥ 0)))
 (cond (a1.Verb == 4)
 (Option.bind (G50 a1.Hold) fun r44 =>
 some (r44))
 (cond (a1.Verb == 5)
 (Option.bind (G50 a1.To) fun r45 =>
 cond r45
 (Option.bind (G57 (⟨a1.Rule_Verbs, a1.Rule_Kind, a1.Rule_Team, a1.Rule_Prefix⟩ : VGateRule)) fun r46 =>
 some (r46))
 (some (false)))
 (some (decide (a1.Number ≥ 1))))))))))
 (cond (a1.Verb == 1)
 (cond (decide (0 ≤ r38)) (Option.bind a0.Shapes[r38.toNat]? fun e47 => cond ((a1.Values.length : Int) == (e47.Fields.length : Int))
 (Option.bind (G55 a0.Teams a1.Team) fun r48 =>
 cond r48
 (cond (decide ((a1.Holds.length : Int) ≤ 3))
 (Option.bind (G56 a1.Holds) fun r49 =>
 some (r49))
 (some (false)))
 (some (false)))
 (some (false))) none)
 (cond (a1.Verb == 2)
 (cond (decide (0 ≤ r38)) (Option.bind a0.Shapes[r38.toNat]? fun e50 => cond ((a1.Values.length : Int) == (e50.Fields.length : Int))
 (some (decide (a1.Seen ≥ 0)))
 (some (false))) none)
 (cond (a1.Verb == 3)
 (some (decide (a1.Seen ≥ 0)))
 (cond (a1.Verb == 4)
 (Option.bind (G50 a1.Hold) fun r51 =>
 some (r51))
 (cond (a1.Verb == 5)
 (Option.bind (G50 a1.To) fun r52 =>
 cond r52
 (Option.bind (G57 (⟨a1.Rule_Verbs, a1.Rule_Kind, a1.Rule_Team, a1.Rule_Prefix⟩ : VGateRule)) fun r53 =>
 some (r53))
 (some (false)))
 (some (decide (a1.Number ≥ 1))))))))))
 (cond (a1.Verb == 4)
 (Option.bind (G52 ((⟨(⟨#[]⟩ : ByteArray), a1.Verb, (⟨#[]⟩ : ByteArray), (⟨#[]⟩ : ByteArray), a1.Team, a1.Values, a1.Holds, a1.Seen, (⟨#[]⟩ : ByteArray), a1.To, a1.Rule_Verbs, a1.Rule_Kind, a1.Rule_Team, a1.Rule_Prefix, a1.Number⟩ : VGateAsk))) fun r54 =>
 cond (!r54)
 (some (false))
 (Option.bind (G54 a0.Shapes a1.Kind) fun r55 =>
 cond (decide (a1.Verb ≤ 4))
 (cond (decide (r55 < 0))
 (some (false))
 (Option.bind (G50 a1.Name) fun r56 =>
 cond (!r56)
 (some (false))
 (cond (a1.Verb == 1)
 (cond (decide (0 ≤ r55)) (Option.bind a0.Shapes[r55.toNat]? fun e57 => cond ((a1.Values.length : Int) == (e57.Fields.length : Int))
 (Option.bind (G55 a0.Teams a1.Team) fun r58 =>
 cond r58
 (cond (decide ((a1.Holds.length : Int) ≤ 3))
 (Option.bind (G56 a1.Holds) fun r59 =>
 some (r59))
 (some (false)))
 (some (false)))
 (some (false))) none)
 (cond (a1.Verb == 2)
 (cond (decide (0 ≤ r55)) (Option.bind a0.Shapes[r55.toNat]? fun e60 => cond ((a1.Values.length : Int) == (e60.Fields.length : Int))
 (some (decide (a1.Seen ≥ 0)))
 (some (false))) none)
 (cond (a1.Verb == 3)
 (some (decide (a1.Seen ≥ 0)))
 (cond (a1.Verb == 4)
 (Option.bind (G50 a1.Hold) fun r61 =>
 some (r61))
 (cond (a1.Verb == 5)
 (Option.bind (G50 a1.To) fun r62 =>
 cond r62
 (Option.bind (G57 (⟨a1.Rule_Verbs, a1.Rule_Kind, a1.Rule_Team, a1.Rule_Prefix⟩ : VGateRule)) fun r63 =>
 some (r63))
 (some (false)))
 (some (decide (a1.Number ≥ 1))))))))))
 (cond (a1.Verb == 1)
 (cond (decide (0 ≤ r55)) (Option.bind a0.Shapes[r55.toNat]? fun e64 => cond ((a1.Values.length : Int) == (e64.Fields.length : Int))
 (Option.bind (G55 a0.Teams a1.Team) fun r65 =>
 cond r65
 (cond (decide ((a1.Holds.length : Int) ≤ 3))
 (Option.bind (G56 a1.Holds) fun r66 =>
 some (r66))
 (some (false)))
 (some (false)))
 (some (false))) none)
 (cond (a1.Verb == 2)
 (cond (decide (0 ≤ r55)) (Option.bind a0.Shapes[r55.toNat]? fun e67 => cond ((a1.Values.length : Int) == (e67.Fields.length : Int))
 (some (decide (a1.Seen ≥ 0)))
 (some (false))) none)
 (cond (a1.Verb == 3)
 (some (decide (a1.Seen ≥ 0)))
 (cond (a1.Verb == 4)
 (Option.bind (G50 a1.Hold) fun r68 =>
 some (r68))
 (cond (a1.Verb == 5)
 (Option.bind (G50 a1.To) fun r69 =>
 cond r69
 (Option.bind (G57 (⟨a1.Rule_Verbs, a1.Rule_Kind, a1.Rule_Team, a1.Rule_Prefix⟩ : VGateRule)) fun r70 =>
 some (r70))
 (some (false)))
 (some (decide (a1.Number ≥ 1))))))))))
 (cond (a1.Verb == 5)
 (Option.bind (G52 ((⟨(⟨#[]⟩ : ByteArray), a1.Verb, a1.Kind, a1.Name, a1.Team, a1.Values, a1.Holds, a1.Seen, a1.Hold, (⟨#[]⟩ : ByteArray), ([] : List (C .e3)), (⟨#[]⟩ : ByteArray), (⟨#[]⟩ : ByteArray), (⟨#[]⟩ : ByteArray), a1.Number⟩ : VGateAsk))) fun r71 =>
 cond (!r71)
 (some (false))
 (Option.bind (G54 a0.Shapes a1.Kind) fun r72 =>
 cond (decide (a1.Verb ≤ 4))
 (cond (decide (r72 < 0))
 (some (false))
 (Option.bind (G50 a1.Name) fun r73 =>
 cond (!r73)
 (some (false))
 (cond (a1.Verb == 1)
 (cond (decide (0 ≤ r72)) (Option.bind a0.Shapes[r72.toNat]? fun e74 => cond ((a1.Values.length : Int) == (e74.Fields.length : Int))
 (Option.bind (G55 a0.Teams a1.Team) fun r75 =>
 cond r75
 (cond (decide ((a1.Holds.length : Int) ≤ 3))
 (Option.bind (G56 a1.Holds) fun r76 =>
 some (r76))
 (some (false)))
 (some (false)))
 (some (false))) none)
 (cond (a1.Verb == 2)
 (cond (decide (0 ≤ r72)) (Option.bind a0.Shapes[r72.toNat]? fun e77 => cond ((a1.Values.length : Int) == (e77.Fields.length : Int))
 (some (decide (a1.Seen ≥ 0)))
 (some (false))) none)
 (cond (a1.Verb == 3)
 (some (decide (a1.Seen ≥ 0)))
 (cond (a1.Verb == 4)
 (Option.bind (G50 a1.Hold) fun r78 =>
 some (r78))
 (cond (a1.Verb == 5)
 (Option.bind (G50 a1.To) fun r79 =>
 cond r79
 (Option.bind (G57 (⟨a1.Rule_Verbs, a1.Rule_Kind, a1.Rule_Team, a1.Rule_Prefix⟩ : VGateRule)) fun r80 =>
 some (r80))
 (some (false)))
 (some (decide (a1.Number ≥ 1))))))))))
 (cond (a1.Verb == 1)
 (cond (decide (0 ≤ r72)) (Option.bind a0.Shapes[r72.toNat]? fun e81 => cond ((a1.Values.length : Int) == (e81.Fields.length : Int))
 (Option.bind (G55 a0.Teams a1.Team) fun r82 =>
 cond r82
 (cond (decide ((a1.Holds.length : Int) ≤ 3))
 (Option.bind (G56 a1.Holds) fun r83 =>
 some (r83))
 (some (false)))
 (some (false)))
 (some (false))) none)
 (cond (a1.Verb == 2)
 (cond (decide (0 ≤ r72)) (Option.bind a0.Shapes[r72.toNat]? fun e84 => cond ((a1.Values.length : Int) == (e84.Fields.length : Int))
 (some (decide (a1.Seen ≥ 0)))
 (some (false))) none)
 (cond (a1.Verb == 3)
 (some (decide (a1.Seen ≥ 0)))
 (cond (a1.Verb == 4)
 (Option.bind (G50 a1.Hold) fun r85 =>
 some (r85))
 (cond (a1.Verb == 5)
 (Option.bind (G50 a1.To) fun r86 =>
 cond r86
 (Option.bind (G57 (⟨a1.Rule_Verbs, a1.Rule_Kind, a1.Rule_Team, a1.Rule_Prefix⟩ : VGateRule)) fun r87 =>
 some (r87))
 (some (false)))
 (some (decide (a1.Number ≥ 1))))))))))
 (cond (a1.Verb == 6)
 (Option.bind (G52 ((⟨(⟨#[]⟩ : ByteArray), a1.Verb, a1.Kind, a1.Name, a1.Team, a1.Values, a1.Holds, a1.Seen, a1.Hold, a1.To, a1.Rule_Verbs, a1.Rule_Kind, a1.Rule_Team, a1.Rule_Prefix, 0⟩ : VGateAsk))) fun r88 =>
 cond (!r88)
 (some (false))
 (Option.bind (G54 a0.Shapes a1.Kind) fun r89 =>
 cond (decide (a1.Verb ≤ 4))
 (cond (decide (r89 < 0))
 (some (false))
 (Option.bind (G50 a1.Name) fun r90 =>
 cond (!r90)
 (some (false))
 (cond (a1.Verb == 1)
 (cond (decide (0 ≤ r89)) (Option.bind a0.Shapes[r89.toNat]? fun e91 => cond ((a1.Values.length : Int) == (e91.Fields.length : Int))
 (Option.bind (G55 a0.Teams a1.Team) fun r92 =>
 cond r92
 (cond (decide ((a1.Holds.length : Int) ≤ 3))
 (Option.bind (G56 a1.Holds) fun r93 =>
 some (r93))
 (some (false)))
 (some (false)))
 (some (false))) none)
 (cond (a1.Verb == 2)
 (cond (decide (0 ≤ r89)) (Option.bind a0.Shapes[r89.toNat]? fun e94 => cond ((a1.Values.length : Int) == (e94.Fields.length : Int))
 (some (decide (a1.Seen ≥ 0)))
 (some (false))) none)
 (cond (a1.Verb == 3)
 (some (decide (a1.Seen ≥ 0)))
 (cond (a1.Verb == 4)
 (Option.bind (G50 a1.Hold) fun r95 =>
 some (r95))
 (cond (a1.Verb == 5)
 (Option.bind (G50 a1.To) fun r96 =>
 cond r96
 (Option.bind (G57 (⟨a1.Rule_Verbs, a1.Rule_Kind, a1.Rule_Team, a1.Rule_Prefix⟩ : VGateRule)) fun r97 =>
 some (r97))
 (some (false)))
 (some (decide (a1.Number ≥ 1))))))))))
 (cond (a1.Verb == 1)
 (cond (decide (0 ≤ r89)) (Option.bind a0.Shapes[r89.toNat]? fun e98 => cond ((a1.Values.length : Int) == (e98.Fields.length : Int))
 (Option.bind (G55 a0.Teams a1.Team) fun r99 =>
 cond r99
 (cond (decide ((a1.Holds.length : Int) ≤ 3))
 (Option.bind (G56 a1.Holds) fun r100 =>
 some (r100))
 (some (false)))
 (some (false)))
 (some (false))) none)
 (cond (a1.Verb == 2)
 (cond (decide (0 ≤ r89)) (Option.bind a0.Shapes[r89.toNat]? fun e101 => cond ((a1.Values.length : Int) == (e101.Fields.length : Int))
 (some (decide (a1.Seen ≥ 0)))
 (some (false))) none)
 (cond (a1.Verb == 3)
 (some (decide (a1.Seen ≥ 0)))
 (cond (a1.Verb == 4)
 (Option.bind (G50 a1.Hold) fun r102 =>
 some (r102))
 (cond (a1.Verb == 5)
 (Option.bind (G50 a1.To) fun r103 =>
 cond r103
 (Option.bind (G57 (⟨a1.Rule_Verbs, a1.Rule_Kind, a1.Rule_Team, a1.Rule_Prefix⟩ : VGateRule)) fun r104 =>
 some (r104))
 (some (false)))
 (some (decide (a1.Number ≥ 1))))))))))
 (Option.bind (G52 ((⟨(⟨#[]⟩ : ByteArray), a1.Verb, a1.Kind, a1.Name, a1.Team, a1.Values, a1.Holds, a1.Seen, a1.Hold, a1.To, a1.Rule_Verbs, a1.Rule_Kind, a1.Rule_Team, a1.Rule_Prefix, a1.Number⟩ : VGateAsk))) fun r105 =>
 cond (!r105)
 (some (false))
 (Option.bind (G54 a0.Shapes a1.Kind) fun r106 =>
 cond (decide (a1.Verb ≤ 4))
 (cond (decide (r106 < 0))
 (some (false))
 (Option.bind (G50 a1.Name) fun r107 =>
 cond (!r107)
 (some (false))
 (cond (a1.Verb == 1)
 (cond (decide (0 ≤ r106)) (Option.bind a0.Shapes[r106.toNat]? fun e108 => cond ((a1.Values.length : Int) == (e108.Fields.length : Int))
 (Option.bind (G55 a0.Teams a1.Team) fun r109 =>
 cond r109
 (cond (decide ((a1.Holds.length : Int) ≤ 3))
 (Option.bind (G56 a1.Holds) fun r110 =>
 some (r110))
 (some (false)))
 (some (false)))
 (some (false))) none)
 (cond (a1.Verb == 2)
 (cond (decide (0 ≤ r106)) (Option.bind a0.Shapes[r106.toNat]? fun e111 => cond ((a1.Values.length : Int) == (e111.Fields.length : Int))
 (some (decide (a1.Seen ≥ 0)))
 (some (false))) none)
 (cond (a1.Verb == 3)
 (some (decide (a1.Seen ≥ 0)))
 (cond (a1.Verb == 4)
 (Option.bind (G50 a1.Hold) fun r112 =>
 some (r112))
 (cond (a1.Verb == 5)
 (Option.bind (G50 a1.To) fun r113 =>
 cond r113
 (Option.bind (G57 (⟨a1.Rule_Verbs, a1.Rule_Kind, a1.Rule_Team, a1.Rule_Prefix⟩ : VGateRule)) fun r114 =>
 some (r114))
 (some (false)))
 (some (decide (a1.Number ≥ 1))))))))))
 (cond (a1.Verb == 1)
 (cond (decide (0 ≤ r106)) (Option.bind a0.Shapes[r106.toNat]? fun e115 => cond ((a1.Values.length : Int) == (e115.Fields.length : Int))
 (Option.bind (G55 a0.Teams a1.Team) fun r116 =>
 cond r116
 (cond (decide ((a1.Holds.length : Int) ≤ 3))
 (Option.bind (G56 a1.Holds) fun r117 =>
 some (r117))
 (some (false)))
 (some (false)))
 (some (false))) none)
 (cond (a1.Verb == 2)
 (cond (decide (0 ≤ r106)) (Option.bind a0.Shapes[r106.toNat]? fun e118 => cond ((a1.Values.length : Int) == (e118.Fields.length : Int))
 (some (decide (a1.Seen ≥ 0)))
 (some (false))) none)
 (cond (a1.Verb == 3)
 (some (decide (a1.Seen ≥ 0)))
 (cond (a1.Verb == 4)
 (Option.bind (G50 a1.Hold) fun r119 =>
 some (r119))
 (cond (a1.Verb == 5)
 (Option.bind (G50 a1.To) fun r120 =>
 cond r120
 (Option.bind (G57 (⟨a1.Rule_Verbs, a1.Rule_Kind, a1.Rule_Team, a1.Rule_Prefix⟩ : VGateRule)) fun r121 =>
 some (r121))
 (some (false)))
 (some (decide (a1.Number ≥ 1)))))))))))))))))
theorem t24 (n : Nat) (a0 : VGateLaw) (a1 : VGateAsk) : runFn (X24 n) (F24 n) Tryz.f24 [.agg [.row .e105 a0.Shapes, .row .e110 a0.Mends, .row .e112 a0.Teams], .agg [.str a1.Who, .int .i64 a1.Verb, .str a1.Kind, .str a1.Name, .str a1.Team, .row .e9 a1.Values, .row .e9 a1.Holds, .int .i64 a1.Seen, .str a1.Hold, .str a1.To, .row .e3 a1.Rule_Verbs, .str a1.Rule_Kind, .str a1.Rule_Team, .str a1.Rule_Prefix, .int .i64 a1.Number]] dec24 = G24n n a0 a1 := by
  kernel_rfl
noncomputable def G24 (a0 : VGateLaw) (a1 : VGateAsk) : Option (Bool) := G24n fuel a0 a1
noncomputable def con24 : Con C := mkC KK [.el .e40, .el .e44] [.bool] G24
theorem c24 : ConOk Tryz.prog KK 24 con24 := cO (mkQ ⟨c50, c51, c52, c54, c55, c56, c57, trivial⟩ trivial ⟨i53 _, trivial⟩ : Cons Tryz.prog (X24 fuel)) (fn := Tryz.f24) (by kernel_rfl) (by kernel_rfl) (by kernel_rfl) (by kernel_rfl) (F24 fuel) (by kernel_rfl) (fun a0 a1 => t24 fuel a0 a1)
/-! ### f7 loop.example/wharfdesk/spec.GateAskOk -/
noncomputable def X7 : Cx C := mkX [(23, con23), (24, con24)] [] [] [] 458752
def F7 (n : Nat) : Cf := { N := n, keep := [0, 1, 2, 3, 4], live := lk [] }
noncomputable abbrev dec7 := deR KK [.bool]
noncomputable def G7n (n : Nat) (a0 : VGateLaw) (a1 : VGateAsk) : Option (Bool) :=
 Option.bind (G23 a0) fun r1 =>
 cond r1
 (Option.bind (G24 a0 a1) fun r2 =>
 some (r2))
 (some (false))
theorem t7 (n : Nat) (a0 : VGateLaw) (a1 : VGateAsk) : runFn X7 (F7 n) Tryz.f7 [.agg [.row .e105 a0.Shapes, .row .e110 a0.Mends, .row .e112 a0.Teams], .agg [.str a1.Who, .int .i64 a1.Verb, .str a1.Kind, .str a1.Name, .str a1.Team, .row .e9 a1.Values, .row .e9 a1.Holds, .int .i64 a1.Seen, .str a1.Hold, .str a1.To, .row .e3 a1.Rule_Verbs, .str a1.Rule_Kind, .str a1.Rule_Team, .str a1.Rule_Prefix, .int .i64 a1.Number]] dec7 = G7n n a0 a1 := by
  kernel_rfl
noncomputable def G7 (a0 : VGateLaw) (a1 : VGateAsk) : Option (Bool) := G7n fuel a0 a1
noncomputable def con7 : Con C := mkC KK [.el .e40, .el .e44] [.bool] G7
theorem c7 : ConOk Tryz.prog KK 7 con7 := cO (mkQ ⟨c23, c24, trivial⟩ trivial trivial : Cons Tryz.prog X7) (fn := Tryz.f7) (by kernel_rfl) (by kernel_rfl) (by kernel_rfl) (by kernel_rfl) (F7 fuel) (by kernel_rfl) (fun a0 a1 => t7 fuel a0 a1)
/-! ### f61 loop.example/wharfdesk/laws.toIntS -/
noncomputable def X61 : Cx C := mkX [] [] [] [] 3997696
def F61 (n : Nat) : Cf := { N := n, keep := [0, 2, 3, 4, 11], live := lk [(0, [0, 3, 4])] }
noncomputable abbrev dec61 := deR KK [.row .e3]
abbrev A61_0 : Type := List (C .e3) × List (C .e3) × Int
def s61_0  : A61_0 → St C := fun (x0_0, x0_1, x0_2) => { env := [(0, .one (.row .e3 x0_0)), (3, .one (.ref 100003 [])), (4, .one (.int .i64 x0_2))], objs := [(100003, .row .e3 x0_1 false)], base := 0 }
noncomputable def r61_0 (n : Nat)   (rec0 : A61_0 → Option (List (C .e3))) : A61_0 → Option (List (C .e3)) := fun (x0_0, x0_1, x0_2) =>
 cond (decide (x0_2 < (x0_0.length : Int)))
 (cond (decide (0 ≤ x0_2)) (Option.bind x0_0[x0_2.toNat]? fun e1 => cond (decide (0 ≤ x0_2)) (cond (decide (x0_2 < (x0_1.length : Int))) (Option.bind x0_1[x0_2.toNat]? fun e2 => rec0 ((x0_0, x0_1.set x0_2.toNat e1, IntKind.i64.wrap (x0_2 + 1)))) none) none) none)
 (some (x0_1))
noncomputable def LP61_0 (n : Nat)   (x : A61_0) : Option (List (C .e3)) := lpN (r61_0 n  ) n x
noncomputable def MP61_0 (n : Nat)   (x : A61_0) : Option (List (C .e3)) := iter (fun rec S => run X61 (F61 n) (codeAt (bodyOf Tryz.f61) [1, 1, 0, 1, 0, 0]) 0 S (lopK rec (blkK 0 (seqK (run X61 (F61 n) (codeAt (bodyOf Tryz.f61) [1, 1, 1]) 0) (kTop X61 Tryz.f61 dec61))))) [0, 3, 4] n (s61_0  x)
theorem m61_0 (n : Nat)   (x : A61_0) : MP61_0 n   x = LP61_0 n   x := by
  refine iter_eq (s61_0 ) (r61_0 n  ) (fun rec0 x => ?_) n x
  obtain ⟨x0_0, x0_1, x0_2⟩ := x
  kernel_rfl
noncomputable def G61n (n : Nat) (a0 : List (C .e3)) : Option (List (C .e3)) :=
 cond (decide ((a0.length : Int) = (a0.length : Int))) (cond (decide (0 ≤ (a0.length : Int))) (cond (decide ((a0.length : Int) * 8 ≤ 140737488355328)) (LP61_0 n    ((a0, List.replicate (a0.length : Int).toNat (0 : C .e3), 0))) none) none) none
theorem t61 (n : Nat) (a0 : List (C .e3)) : runFn X61 (F61 n) Tryz.f61 [.one (.row .e3 a0)] dec61 = G61n n a0 := by
  refine Eq.trans (b :=
   cond (decide ((a0.length : Int) = (a0.length : Int))) (cond (decide (0 ≤ (a0.length : Int))) (cond (decide ((a0.length : Int) * 8 ≤ 140737488355328)) (MP61_0 n    ((a0, List.replicate (a0.length : Int).toNat (0 : C .e3), 0))) none) none) none) (by kernel_rfl) ?_
  simp only [G61n, m61_0]
noncomputable def G61 (a0 : List (C .e3)) : Option (List (C .e3)) := G61n fuel a0
noncomputable def con61 : Con C := mkC KK [.row .e3] [.row .e3] G61
theorem c61 : ConOk Tryz.prog KK 61 con61 := cO (mkQ trivial trivial trivial : Cons Tryz.prog X61) (fn := Tryz.f61) (by kernel_rfl) (by kernel_rfl) (by kernel_rfl) (by kernel_rfl) (F61 fuel) (by kernel_rfl) (fun a0 => t61 fuel a0)
/-! ### f29 loop.example/wharfdesk/laws.toGateRule -/
noncomputable def X29 : Cx C := mkX [(61, con61)] [] [] [] 1900544
def F29 (n : Nat) : Cf := { N := n, keep := [0, 1, 2, 3], live := lk [] }
noncomputable abbrev dec29 := deR KK [.el .e42]
noncomputable def G29n (n : Nat) (a0 : VGateRule) : Option (VGateRule) :=
 Option.bind (G61 a0.Verbs) fun r1 =>
 some ((⟨r1, a0.Kind, a0.Team, a0.Prefix⟩ : VGateRule))
theorem t29 (n : Nat) (a0 : VGateRule) : runFn X29 (F29 n) Tryz.f29 [.agg [.row .e3 a0.Verbs, .str a0.Kind, .str a0.Team, .str a0.Prefix]] dec29 = G29n n a0 := by
  kernel_rfl
noncomputable def G29 (a0 : VGateRule) : Option (VGateRule) := G29n fuel a0
noncomputable def con29 : Con C := mkC KK [.el .e30] [.el .e42] G29
theorem c29 : ConOk Tryz.prog KK 29 con29 := cO (mkQ ⟨c61, trivial⟩ trivial trivial : Cons Tryz.prog X29) (fn := Tryz.f29) (by kernel_rfl) (by kernel_rfl) (by kernel_rfl) (by kernel_rfl) (F29 fuel) (by kernel_rfl) (fun a0 => t29 fuel a0)
/-! ### f9 loop.example/wharfdesk/laws.toGateAsk -/
noncomputable def X9 : Cx C := mkX [(28, con28), (29, con29)] [] [] [] 589824
def F9 (n : Nat) : Cf := { N := n, keep := [0, 1, 2, 3], live := lk [] }
noncomputable abbrev dec9 := deR KK [.el .e44]
noncomputable def G9n (n : Nat) (a0 : VGateAsk) : Option (VGateAsk) :=
 Option.bind (G28 a0.Values) fun r1 =>
 Option.bind (G28 a0.Holds) fun r2 =>
 Option.bind (G29 (⟨a0.Rule_Verbs, a0.Rule_Kind, a0.Rule_Team, a0.Rule_Prefix⟩ : VGateRule)) fun r3 =>
 some ((⟨a0.Who, a0.Verb, a0.Kind, a0.Name, a0.Team, r1, r2, a0.Seen, a0.Hold, a0.To, r3.Verbs, r3.Kind, r3.Team, r3.Prefix, a0.Number⟩ : VGateAsk))
theorem t9 (n : Nat) (a0 : VGateAsk) : runFn X9 (F9 n) Tryz.f9 [.agg [.str a0.Who, .int .i64 a0.Verb, .str a0.Kind, .str a0.Name, .str a0.Team, .row .e9 a0.Values, .row .e9 a0.Holds, .int .i64 a0.Seen, .str a0.Hold, .str a0.To, .row .e3 a0.Rule_Verbs, .str a0.Rule_Kind, .str a0.Rule_Team, .str a0.Rule_Prefix, .int .i64 a0.Number]] dec9 = G9n n a0 := by
  kernel_rfl
noncomputable def G9 (a0 : VGateAsk) : Option (VGateAsk) := G9n fuel a0
noncomputable def con9 : Con C := mkC KK [.el .e32] [.el .e44] G9
theorem c9 : ConOk Tryz.prog KK 9 con9 := cO (mkQ ⟨c28, c29, trivial⟩ trivial trivial : Cons Tryz.prog X9) (fn := Tryz.f9) (by kernel_rfl) (by kernel_rfl) (by kernel_rfl) (by kernel_rfl) (F9 fuel) (by kernel_rfl) (fun a0 => t9 fuel a0)
/-! ### f125 (loop.example/wharfdesk/impl.GateRule).ok -/
noncomputable def X125 : Cx C := mkX [(31, con31), (64, con64)] [] [] [] 8192000
def F125 (n : Nat) : Cf := { N := n, keep := [0, 1, 2, 3, 4, 42, 44, 45, 46, 47, 70], live := lk [(0, [1, 44, 45, 46])] }
noncomputable abbrev dec125 := deR KK [.bool]
abbrev A125_0 : Type := Int
section
variable (x0 : List (C .e3)) (x1 : Int) (x3 : List (C .e3)) (x4 : ByteArray) (x5 : ByteArray) (x6 : ByteArray)
def s125_0 : A125_0 → St C := fun x2 => { env := [(1, .one (.ptr 8192064 0)), (44, .one (.row .e3 x0)), (45, .one (.int .i64 x1)), (46, .one (.int .i64 x2))], objs := [(8192064, .box .mem [.row .e3 x3, .str x4, .str x5, .str x6])], base := 0 }
end
noncomputable def r125_0 (x0 : List (C .e3)) (x1 : Int) (x3 : List (C .e3)) (n : Nat)   (rec0 : A125_0 → Option (Bool)) : A125_0 → Option (Bool) := fun x2 =>
 cond (decide (x2 < x1))
 (cond (decide (0 ≤ x2)) (Option.bind x0[x2.toNat]? fun e4 => cond (decide (e4 < 1))
 (some (false))
 (cond (decide (e4 > 5))
 (some (false))
 (cond (decide (x2 > 0))
 (cond (decide (0 ≤ IntKind.i64.wrap (x2 - 1))) (Option.bind x3[(IntKind.i64.wrap (x2 - 1)).toNat]? fun e5 => cond (decide (e5 ≥ e4))
 (some (false))
 (rec0 (IntKind.i64.wrap (x2 + 1)))) none)
 (rec0 (IntKind.i64.wrap (x2 + 1)))))) none)
 (some (true))
section
variable (x0 : List (C .e3)) (x1 : Int) (x3 : List (C .e3)) (x4 : ByteArray) (x5 : ByteArray) (x6 : ByteArray)
noncomputable def MP125_0 (n : Nat)  (x : A125_0) : Option (Bool) := iter (fun rec S => run X125 (F125 n) (codeAt (bodyOf Tryz.f125) [1, 1, 0, 1, 0, 0]) 0 S (lopK rec (blkK 0 (seqK (run X125 (F125 n) (codeAt (bodyOf Tryz.f125) [1, 1, 1]) 0) (kTop X125 Tryz.f125 dec125))))) [1, 44, 45, 46] n (s125_0 x0 x1 x3 x4 x5 x6 x)
theorem m125_0 (n : Nat)  (x : A125_0) : MP125_0 x0 x1 x3 x4 x5 x6 n  x = lpN (r125_0 x0 x1 x3 n  ) n x := by
  refine iter_eq (s125_0 x0 x1 x3 x4 x5 x6) (r125_0 x0 x1 x3 n  ) (fun rec0 x2 => ?_) n x
  kernel_rfl
end
noncomputable def G125n (n : Nat) (a0 : VGateRule) : Option (Bool) :=
 cond ((a0.Verbs.length : Int) == 0)
 (some (false))
 (cond (!decide (a0.Kind = (⟨#[]⟩ : ByteArray)))
 (Option.bind (G31 a0.Kind) fun r1 =>
 cond (!r1)
 (some (false))
 (cond (!decide (a0.Team = (⟨#[]⟩ : ByteArray)))
 (Option.bind (G31 a0.Team) fun r2 =>
 cond (!r2)
 (some (false))
 (cond (decide ((a0.Prefix.size : Int) > 16))
 (some (false))
 (Option.bind (G64 a0.Prefix) fun r3 =>
 cond (!r3)
 (some (false))
 (lpN (r125_0 a0.Verbs (a0.Verbs.length : Int) a0.Verbs n ) n 0))))
 (cond (decide ((a0.Prefix.size : Int) > 16))
 (some (false))
 (Option.bind (G64 a0.Prefix) fun r6 =>
 cond (!r6)
 (some (false))
 (lpN (r125_0 a0.Verbs (a0.Verbs.length : Int) a0.Verbs n ) n 0)))))
 (cond (!decide (a0.Team = (⟨#[]⟩ : ByteArray)))
 (Option.bind (G31 a0.Team) fun r7 =>
 cond (!r7)
 (some (false))
 (cond (decide ((a0.Prefix.size : Int) > 16))
 (some (false))
 (Option.bind (G64 a0.Prefix) fun r8 =>
 cond (!r8)
 (some (false))
 (lpN (r125_0 a0.Verbs (a0.Verbs.length : Int) a0.Verbs n ) n 0))))
 (cond (decide ((a0.Prefix.size : Int) > 16))
 (some (false))
 (Option.bind (G64 a0.Prefix) fun r9 =>
 cond (!r9)
 (some (false))
 (lpN (r125_0 a0.Verbs (a0.Verbs.length : Int) a0.Verbs n ) n 0)))))
theorem t125 (n : Nat) (a0 : VGateRule) : runFn X125 (F125 n) Tryz.f125 [.agg [.row .e3 a0.Verbs, .str a0.Kind, .str a0.Team, .str a0.Prefix]] dec125 = G125n n a0 := by
  refine Eq.trans (b :=
   cond ((a0.Verbs.length : Int) == 0)
   (some (false))
   (cond (!decide (a0.Kind = (⟨#[]⟩ : ByteArray)))
   (Option.bind (G31 a0.Kind) fun r1 =>
   cond (!r1)
   (some (false))
   (cond (!decide (a0.Team = (⟨#[]⟩ : ByteArray)))
   (Option.bind (G31 a0.Team) fun r2 =>
   cond (!r2)
   (some (false))
   (cond (decide ((a0.Prefix.size : Int) > 16))
   (some (false))
   (Option.bind (G64 a0.Prefix) fun r3 =>
   cond (!r3)
   (some (false))
   (MP125_0 a0.Verbs (a0.Verbs.length : Int) a0.Verbs a0.Kind a0.Team a0.Prefix n   0))))
   (cond (decide ((a0.Prefix.size : Int) > 16))
   (some (false))
   (Option.bind (G64 a0.Prefix) fun r6 =>
   cond (!r6)
   (some (false))
   (MP125_0 a0.Verbs (a0.Verbs.length : Int) a0.Verbs a0.Kind a0.Team a0.Prefix n   0)))))
   (cond (!decide (a0.Team = (⟨#[]⟩ : ByteArray)))
   (Option.bind (G31 a0.Team) fun r7 =>
   cond (!r7)
   (some (false))
   (cond (decide ((a0.Prefix.size : Int) > 16))
   (some (false))
   (Option.bind (G64 a0.Prefix) fun r8 =>
   cond (!r8)
   (some (false))
   (MP125_0 a0.Verbs (a0.Verbs.length : Int) a0.Verbs a0.Kind a0.Team a0.Prefix n   0))))
   (cond (decide ((a0.Prefix.size : Int) > 16))
   (some (false))
   (Option.bind (G64 a0.Prefix) fun r9 =>
   cond (!r9)
   (some (false))
   (MP125_0 a0.Verbs (a0.Verbs.length : Int) a0.Verbs a0.Kind a0.Team a0.Prefix n   0)))))) (by kernel_rfl) ?_
  simp only [G125n, m125_0]
noncomputable def G125 (a0 : VGateRule) : Option (Bool) := G125n fuel a0
noncomputable def con125 : Con C := mkC KK [.el .e42] [.bool] G125
theorem c125 : ConOk Tryz.prog KK 125 con125 := cO (mkQ ⟨c31, c64, trivial⟩ trivial trivial : Cons Tryz.prog X125) (fn := Tryz.f125) (by kernel_rfl) (by kernel_rfl) (by kernel_rfl) (by kernel_rfl) (F125 fuel) (by kernel_rfl) (fun a0 => t125 fuel a0)
/-! ### f131 loop.example/wharfdesk/impl.kindOk -/
noncomputable def X131 : Cx C := mkX [(31, con31), (80, con80)] [] [] [] 8585216
def F131 (n : Nat) : Cf := { N := n, keep := [0, 1, 2, 3, 4], live := lk [] }
noncomputable abbrev dec131 := deR KK [.bool]
noncomputable def G131n (n : Nat) (a0 : VGateLaw) (a1 : VGateAsk) : Option (Bool) :=
 Option.bind (G80 a0.Shapes a1.Kind) fun r1 =>
 cond (decide (r1 ≥ 0))
 (Option.bind (G31 a1.Name) fun r2 =>
 some (r2))
 (some (false))
theorem t131 (n : Nat) (a0 : VGateLaw) (a1 : VGateAsk) : runFn X131 (F131 n) Tryz.f131 [.agg [.row .e105 a0.Shapes, .row .e110 a0.Mends, .row .e112 a0.Teams], .agg [.str a1.Who, .int .i64 a1.Verb, .str a1.Kind, .str a1.Name, .str a1.Team, .row .e9 a1.Values, .row .e9 a1.Holds, .int .i64 a1.Seen, .str a1.Hold, .str a1.To, .row .e3 a1.Rule_Verbs, .str a1.Rule_Kind, .str a1.Rule_Team, .str a1.Rule_Prefix, .int .i64 a1.Number]] dec131 = G131n n a0 a1 := by
  kernel_rfl
noncomputable def G131 (a0 : VGateLaw) (a1 : VGateAsk) : Option (Bool) := G131n fuel a0 a1
noncomputable def con131 : Con C := mkC KK [.el .e40, .el .e44] [.bool] G131
theorem c131 : ConOk Tryz.prog KK 131 con131 := cO (mkQ ⟨c31, c80, trivial⟩ trivial trivial : Cons Tryz.prog X131) (fn := Tryz.f131) (by kernel_rfl) (by kernel_rfl) (by kernel_rfl) (by kernel_rfl) (F131 fuel) (by kernel_rfl) (fun a0 a1 => t131 fuel a0 a1)
/-! ### f132 loop.example/wharfdesk/impl.valuesOk -/
noncomputable def X132 : Cx C := mkX [(80, con80)] [] [] [] 8650752
def F132 (n : Nat) : Cf := { N := n, keep := [0, 1, 2, 3, 4, 5], live := lk [] }
noncomputable abbrev dec132 := deR KK [.bool]
noncomputable def G132n (n : Nat) (a0 : VGateLaw) (a1 : VGateAsk) : Option (Bool) :=
 Option.bind (G80 a0.Shapes a1.Kind) fun r1 =>
 cond (decide (r1 ≥ 0))
 (cond (decide (0 ≤ r1)) (Option.bind a0.Shapes[r1.toNat]? fun e2 => some ((a1.Values.length : Int) == (e2.Fields.length : Int))) none)
 (some (false))
theorem t132 (n : Nat) (a0 : VGateLaw) (a1 : VGateAsk) : runFn X132 (F132 n) Tryz.f132 [.agg [.row .e105 a0.Shapes, .row .e110 a0.Mends, .row .e112 a0.Teams], .agg [.str a1.Who, .int .i64 a1.Verb, .str a1.Kind, .str a1.Name, .str a1.Team, .row .e9 a1.Values, .row .e9 a1.Holds, .int .i64 a1.Seen, .str a1.Hold, .str a1.To, .row .e3 a1.Rule_Verbs, .str a1.Rule_Kind, .str a1.Rule_Team, .str a1.Rule_Prefix, .int .i64 a1.Number]] dec132 = G132n n a0 a1 := by
  kernel_rfl
noncomputable def G132 (a0 : VGateLaw) (a1 : VGateAsk) : Option (Bool) := G132n fuel a0 a1
noncomputable def con132 : Con C := mkC KK [.el .e40, .el .e44] [.bool] G132
theorem c132 : ConOk Tryz.prog KK 132 con132 := cO (mkQ ⟨c80, trivial⟩ trivial trivial : Cons Tryz.prog X132) (fn := Tryz.f132) (by kernel_rfl) (by kernel_rfl) (by kernel_rfl) (by kernel_rfl) (F132 fuel) (by kernel_rfl) (fun a0 a1 => t132 fuel a0 a1)
/-! ### f32 loop.example/wharfdesk/impl.verbs -/
noncomputable def X32 : Cx C := mkX [] [] [] [] 2097152
def F32 (n : Nat) : Cf := { N := n, keep := [0], live := lk [] }
noncomputable abbrev dec32 := deR KK [.imm true [1099511627776, 1099511627893, 1099511627894, 1099511627895, 1099511627896, 1099511627897, 1099511627898]]
noncomputable def G32n (n : Nat)  : Option (Unit) :=
 some (())
theorem t32 (n : Nat)  : runFn X32 (F32 n) Tryz.f32 [] dec32 = G32n n  := by
  kernel_rfl
noncomputable def G32  : Option (Unit) := G32n fuel 
noncomputable def con32 : Con C := mkC KK [] [.imm true [1099511627776, 1099511627893, 1099511627894, 1099511627895, 1099511627896, 1099511627897, 1099511627898]] G32
theorem c32 : ConOk Tryz.prog KK 32 con32 := cO (mkQ trivial trivial trivial : Cons Tryz.prog X32) (fn := Tryz.f32) (by kernel_rfl) (by kernel_rfl) (by kernel_rfl) (by kernel_rfl) (F32 fuel) (by kernel_rfl) (t32 fuel )
/-! ### f33 loop.example/wharfdesk/impl.equalTexts -/
noncomputable def X33 : Cx C := mkX [] [] [] [] 2162688
def F33 (n : Nat) : Cf := { N := n, keep := [0, 1, 4, 5, 10, 12, 13, 14, 24], live := lk [(0, [0, 1, 12, 13])] }
noncomputable abbrev dec33 := deR KK [.bool]
abbrev A33_0 : Type := Int
section
variable (x0 : List (C .e9)) (x1 : List (C .e9)) (x2 : Int)
def s33_0 : A33_0 → St C := fun x3 => { env := [(0, .one (.row .e9 x0)), (1, .one (.row .e9 x1)), (12, .one (.int .i64 x2)), (13, .one (.int .i64 x3))], objs := [], base := 0 }
end
noncomputable def r33_0 (x0 : List (C .e9)) (x1 : List (C .e9)) (x2 : Int) (n : Nat)   (rec0 : A33_0 → Option (Bool)) : A33_0 → Option (Bool) := fun x3 =>
 cond (decide (x3 < x2))
 (cond (decide (0 ≤ x3)) (Option.bind x0[x3.toNat]? fun e1 => cond (decide (0 ≤ x3)) (Option.bind x1[x3.toNat]? fun e2 => cond (!decide (e1 = e2))
 (some (false))
 (rec0 (IntKind.i64.wrap (x3 + 1)))) none) none)
 (some (true))
section
variable (x0 : List (C .e9)) (x1 : List (C .e9)) (x2 : Int)
noncomputable def MP33_0 (n : Nat)  (x : A33_0) : Option (Bool) := iter (fun rec S => run X33 (F33 n) (codeAt (bodyOf Tryz.f33) [1, 1, 0, 1, 0, 0]) 0 S (lopK rec (blkK 0 (seqK (run X33 (F33 n) (codeAt (bodyOf Tryz.f33) [1, 1, 1]) 0) (kTop X33 Tryz.f33 dec33))))) [0, 1, 12, 13] n (s33_0 x0 x1 x2 x)
theorem m33_0 (n : Nat)  (x : A33_0) : MP33_0 x0 x1 x2 n  x = lpN (r33_0 x0 x1 x2 n  ) n x := by
  refine iter_eq (s33_0 x0 x1 x2) (r33_0 x0 x1 x2 n  ) (fun rec0 x3 => ?_) n x
  kernel_rfl
end
noncomputable def G33n (n : Nat) (a0 : List (C .e9)) (a1 : List (C .e9)) : Option (Bool) :=
 cond ((a0.length : Int) != (a1.length : Int))
 (some (false))
 (lpN (r33_0 a0 a1 (a0.length : Int) n ) n 0)
theorem t33 (n : Nat) (a0 : List (C .e9)) (a1 : List (C .e9)) : runFn X33 (F33 n) Tryz.f33 [.one (.row .e9 a0), .one (.row .e9 a1)] dec33 = G33n n a0 a1 := by
  refine Eq.trans (b :=
   cond ((a0.length : Int) != (a1.length : Int))
   (some (false))
   (MP33_0 a0 a1 (a0.length : Int) n   0)) (by kernel_rfl) ?_
  simp only [G33n, m33_0]
noncomputable def G33 (a0 : List (C .e9)) (a1 : List (C .e9)) : Option (Bool) := G33n fuel a0 a1
noncomputable def con33 : Con C := mkC KK [.row .e9, .row .e9] [.bool] G33
theorem c33 : ConOk Tryz.prog KK 33 con33 := cO (mkQ trivial trivial trivial : Cons Tryz.prog X33) (fn := Tryz.f33) (by kernel_rfl) (by kernel_rfl) (by kernel_rfl) (by kernel_rfl) (F33 fuel) (by kernel_rfl) (fun a0 a1 => t33 fuel a0 a1)
/-! ### f34 loop.example/wharfdesk/impl.sameRule -/
noncomputable def X34 : Cx C := mkX [] [] [] [] 2228224
def F34 (n : Nat) : Cf := { N := n, keep := [0, 1, 2, 3, 4, 5, 33, 36, 37, 38, 50], live := lk [(0, [2, 3, 36, 37])] }
noncomputable abbrev dec34 := deR KK [.bool]
abbrev A34_0 : Type := Int
section
variable (x0 : Int) (x2 : List (C .e3)) (x3 : ByteArray) (x4 : ByteArray) (x5 : ByteArray) (x6 : List (C .e3)) (x7 : ByteArray) (x8 : ByteArray) (x9 : ByteArray)
def s34_0 : A34_0 → St C := fun x1 => { env := [(2, .one (.ptr 2228352 0)), (3, .one (.ptr 2228416 0)), (36, .one (.int .i64 x0)), (37, .one (.int .i64 x1))], objs := [(2228352, .box .mem [.row .e3 x2, .str x3, .str x4, .str x5]), (2228416, .box .mem [.row .e3 x6, .str x7, .str x8, .str x9])], base := 0 }
end
noncomputable def r34_0 (x0 : Int) (x2 : List (C .e3)) (x6 : List (C .e3)) (n : Nat)   (rec0 : A34_0 → Option (Bool)) : A34_0 → Option (Bool) := fun x1 =>
 cond (decide (x1 < x0))
 (cond (decide (0 ≤ x1)) (Option.bind x2[x1.toNat]? fun e1 => cond (decide (0 ≤ x1)) (Option.bind x6[x1.toNat]? fun e2 => cond (e1 != e2)
 (some (false))
 (rec0 (IntKind.i64.wrap (x1 + 1)))) none) none)
 (some (true))
section
variable (x0 : Int) (x2 : List (C .e3)) (x3 : ByteArray) (x4 : ByteArray) (x5 : ByteArray) (x6 : List (C .e3)) (x7 : ByteArray) (x8 : ByteArray) (x9 : ByteArray)
noncomputable def MP34_0 (n : Nat)  (x : A34_0) : Option (Bool) := iter (fun rec S => run X34 (F34 n) (codeAt (bodyOf Tryz.f34) [1, 1, 0, 1, 0, 0]) 0 S (lopK rec (blkK 0 (seqK (run X34 (F34 n) (codeAt (bodyOf Tryz.f34) [1, 1, 1]) 0) (kTop X34 Tryz.f34 dec34))))) [2, 3, 36, 37] n (s34_0 x0 x2 x3 x4 x5 x6 x7 x8 x9 x)
theorem m34_0 (n : Nat)  (x : A34_0) : MP34_0 x0 x2 x3 x4 x5 x6 x7 x8 x9 n  x = lpN (r34_0 x0 x2 x6 n  ) n x := by
  refine iter_eq (s34_0 x0 x2 x3 x4 x5 x6 x7 x8 x9) (r34_0 x0 x2 x6 n  ) (fun rec0 x1 => ?_) n x
  kernel_rfl
end
noncomputable def G34n (n : Nat) (a0 : VGateRule) (a1 : VGateRule) : Option (Bool) :=
 cond ((a0.Verbs.length : Int) != (a1.Verbs.length : Int))
 (some (false))
 (cond (!decide (a0.Kind = a1.Kind))
 (some (false))
 (cond (!decide (a0.Team = a1.Team))
 (some (false))
 (cond (!decide (a0.Prefix = a1.Prefix))
 (some (false))
 (lpN (r34_0 (a0.Verbs.length : Int) a0.Verbs a1.Verbs n ) n 0))))
theorem t34 (n : Nat) (a0 : VGateRule) (a1 : VGateRule) : runFn X34 (F34 n) Tryz.f34 [.agg [.row .e3 a0.Verbs, .str a0.Kind, .str a0.Team, .str a0.Prefix], .agg [.row .e3 a1.Verbs, .str a1.Kind, .str a1.Team, .str a1.Prefix]] dec34 = G34n n a0 a1 := by
  refine Eq.trans (b :=
   cond ((a0.Verbs.length : Int) != (a1.Verbs.length : Int))
   (some (false))
   (cond (!decide (a0.Kind = a1.Kind))
   (some (false))
   (cond (!decide (a0.Team = a1.Team))
   (some (false))
   (cond (!decide (a0.Prefix = a1.Prefix))
   (some (false))
   (MP34_0 (a0.Verbs.length : Int) a0.Verbs a0.Kind a0.Team a0.Prefix a1.Verbs a1.Kind a1.Team a1.Prefix n   0))))) (by kernel_rfl) ?_
  simp only [G34n, m34_0]
noncomputable def G34 (a0 : VGateRule) (a1 : VGateRule) : Option (Bool) := G34n fuel a0 a1
noncomputable def con34 : Con C := mkC KK [.el .e42, .el .e42] [.bool] G34
theorem c34 : ConOk Tryz.prog KK 34 con34 := cO (mkQ trivial trivial trivial : Cons Tryz.prog X34) (fn := Tryz.f34) (by kernel_rfl) (by kernel_rfl) (by kernel_rfl) (by kernel_rfl) (F34 fuel) (by kernel_rfl) (fun a0 a1 => t34 fuel a0 a1)
/-! ### f129 (loop.example/wharfdesk/impl.makeVerb).form, run in place -/
noncomputable def X129 : Cx C := mkX [(83, con83), (94, con94), (131, con131), (132, con132)] [] [] [] 8454144
def F129 (n : Nat) : Cf := { N := n, keep := [0, 1, 2, 4, 5, 6], live := lk [] }
noncomputable def I129 (n : Nat) : Inl C := inlOf X129 (F129 n) Tryz.f129
theorem i129 (n : Nat) : InlOk Tryz.prog KK 129 (I129 n) := iO (mkQ ⟨c83, c94, c131, c132, trivial⟩ trivial trivial : Cons Tryz.prog X129) (F129 n) (fn := Tryz.f129) (by kernel_rfl) (by kernel_rfl) (by kernel_rfl) (by kernel_rfl)
/-! ### f130 (loop.example/wharfdesk/impl.makeVerb).only, run in place -/
noncomputable def X130 : Cx C := mkX [] [] [] [] 8519680
def F130 (n : Nat) : Cf := { N := n, keep := [0, 1, 3, 4], live := lk [] }
noncomputable def I130 (n : Nat) : Inl C := inlOf X130 (F130 n) Tryz.f130
theorem i130 (n : Nat) : InlOk Tryz.prog KK 130 (I130 n) := iO (mkQ trivial trivial trivial : Cons Tryz.prog X130) (F130 n) (fn := Tryz.f130) (by kernel_rfl) (by kernel_rfl) (by kernel_rfl) (by kernel_rfl)
/-! ### f134 (loop.example/wharfdesk/impl.changeVerb).form, run in place -/
noncomputable def X134 : Cx C := mkX [(131, con131), (132, con132)] [] [] [] 8781824
def F134 (n : Nat) : Cf := { N := n, keep := [0, 1, 2, 4, 5, 6], live := lk [] }
noncomputable def I134 (n : Nat) : Inl C := inlOf X134 (F134 n) Tryz.f134
theorem i134 (n : Nat) : InlOk Tryz.prog KK 134 (I134 n) := iO (mkQ ⟨c131, c132, trivial⟩ trivial trivial : Cons Tryz.prog X134) (F134 n) (fn := Tryz.f134) (by kernel_rfl) (by kernel_rfl) (by kernel_rfl) (by kernel_rfl)
/-! ### f135 (loop.example/wharfdesk/impl.changeVerb).only, run in place -/
noncomputable def X135 : Cx C := mkX [] [] [] [] 8847360
def F135 (n : Nat) : Cf := { N := n, keep := [0, 1, 3, 4], live := lk [] }
noncomputable def I135 (n : Nat) : Inl C := inlOf X135 (F135 n) Tryz.f135
theorem i135 (n : Nat) : InlOk Tryz.prog KK 135 (I135 n) := iO (mkQ trivial trivial trivial : Cons Tryz.prog X135) (F135 n) (fn := Tryz.f135) (by kernel_rfl) (by kernel_rfl) (by kernel_rfl) (by kernel_rfl)
/-! ### f137 (loop.example/wharfdesk/impl.endVerb).form, run in place -/
noncomputable def X137 : Cx C := mkX [(131, con131)] [] [] [] 8978432
def F137 (n : Nat) : Cf := { N := n, keep := [0, 1, 2, 4, 5, 6], live := lk [] }
noncomputable def I137 (n : Nat) : Inl C := inlOf X137 (F137 n) Tryz.f137
theorem i137 (n : Nat) : InlOk Tryz.prog KK 137 (I137 n) := iO (mkQ ⟨c131, trivial⟩ trivial trivial : Cons Tryz.prog X137) (F137 n) (fn := Tryz.f137) (by kernel_rfl) (by kernel_rfl) (by kernel_rfl) (by kernel_rfl)
/-! ### f138 (loop.example/wharfdesk/impl.endVerb).only, run in place -/
noncomputable def X138 : Cx C := mkX [] [] [] [] 9043968
def F138 (n : Nat) : Cf := { N := n, keep := [0, 1, 3, 4], live := lk [] }
noncomputable def I138 (n : Nat) : Inl C := inlOf X138 (F138 n) Tryz.f138
theorem i138 (n : Nat) : InlOk Tryz.prog KK 138 (I138 n) := iO (mkQ trivial trivial trivial : Cons Tryz.prog X138) (F138 n) (fn := Tryz.f138) (by kernel_rfl) (by kernel_rfl) (by kernel_rfl) (by kernel_rfl)
/-! ### f140 (loop.example/wharfdesk/impl.letGoVerb).form, run in place -/
noncomputable def X140 : Cx C := mkX [(31, con31), (131, con131)] [] [] [] 9175040
def F140 (n : Nat) : Cf := { N := n, keep := [0, 1, 2, 4, 5, 6], live := lk [] }
noncomputable def I140 (n : Nat) : Inl C := inlOf X140 (F140 n) Tryz.f140
theorem i140 (n : Nat) : InlOk Tryz.prog KK 140 (I140 n) := iO (mkQ ⟨c31, c131, trivial⟩ trivial trivial : Cons Tryz.prog X140) (F140 n) (fn := Tryz.f140) (by kernel_rfl) (by kernel_rfl) (by kernel_rfl) (by kernel_rfl)
/-! ### f141 (loop.example/wharfdesk/impl.letGoVerb).only, run in place -/
noncomputable def X141 : Cx C := mkX [] [] [] [] 9240576
def F141 (n : Nat) : Cf := { N := n, keep := [0, 1, 3, 4], live := lk [] }
noncomputable def I141 (n : Nat) : Inl C := inlOf X141 (F141 n) Tryz.f141
theorem i141 (n : Nat) : InlOk Tryz.prog KK 141 (I141 n) := iO (mkQ trivial trivial trivial : Cons Tryz.prog X141) (F141 n) (fn := Tryz.f141) (by kernel_rfl) (by kernel_rfl) (by kernel_rfl) (by kernel_rfl)
/-! ### f143 (loop.example/wharfdesk/impl.giveVerb).form, run in place -/
noncomputable def X143 : Cx C := mkX [(31, con31), (125, con125)] [] [] [] 9371648
def F143 (n : Nat) : Cf := { N := n, keep := [0, 1, 2, 5, 6], live := lk [] }
noncomputable def I143 (n : Nat) : Inl C := inlOf X143 (F143 n) Tryz.f143
theorem i143 (n : Nat) : InlOk Tryz.prog KK 143 (I143 n) := iO (mkQ ⟨c31, c125, trivial⟩ trivial trivial : Cons Tryz.prog X143) (F143 n) (fn := Tryz.f143) (by kernel_rfl) (by kernel_rfl) (by kernel_rfl) (by kernel_rfl)
/-! ### f144 (loop.example/wharfdesk/impl.giveVerb).only, run in place -/
noncomputable def X144 : Cx C := mkX [] [] [] [] 9437184
def F144 (n : Nat) : Cf := { N := n, keep := [0, 1, 3, 4], live := lk [] }
noncomputable def I144 (n : Nat) : Inl C := inlOf X144 (F144 n) Tryz.f144
theorem i144 (n : Nat) : InlOk Tryz.prog KK 144 (I144 n) := iO (mkQ trivial trivial trivial : Cons Tryz.prog X144) (F144 n) (fn := Tryz.f144) (by kernel_rfl) (by kernel_rfl) (by kernel_rfl) (by kernel_rfl)
/-! ### f146 (loop.example/wharfdesk/impl.takeVerb).form, run in place -/
noncomputable def X146 : Cx C := mkX [] [] [] [] 9568256
def F146 (n : Nat) : Cf := { N := n, keep := [0, 1, 2, 5, 6], live := lk [] }
noncomputable def I146 (n : Nat) : Inl C := inlOf X146 (F146 n) Tryz.f146
theorem i146 (n : Nat) : InlOk Tryz.prog KK 146 (I146 n) := iO (mkQ trivial trivial trivial : Cons Tryz.prog X146) (F146 n) (fn := Tryz.f146) (by kernel_rfl) (by kernel_rfl) (by kernel_rfl) (by kernel_rfl)
/-! ### f147 (loop.example/wharfdesk/impl.takeVerb).only, run in place -/
noncomputable def X147 : Cx C := mkX [] [] [] [] 9633792
def F147 (n : Nat) : Cf := { N := n, keep := [0, 1, 3, 4], live := lk [] }
noncomputable def I147 (n : Nat) : Inl C := inlOf X147 (F147 n) Tryz.f147
theorem i147 (n : Nat) : InlOk Tryz.prog KK 147 (I147 n) := iO (mkQ trivial trivial trivial : Cons Tryz.prog X147) (F147 n) (fn := Tryz.f147) (by kernel_rfl) (by kernel_rfl) (by kernel_rfl) (by kernel_rfl)
/-! ### f10 loop.example/wharfdesk/impl.GateAskOk -/
noncomputable def X10 (n : Nat) : Cx C := mkX [(30, con30), (31, con31), (32, con32), (33, con33), (34, con34)] [] [(129, I129 n), (130, I130 n), (134, I134 n), (135, I135 n), (137, I137 n), (138, I138 n), (140, I140 n), (141, I141 n), (143, I143 n), (144, I144 n), (146, I146 n), (147, I147 n)] [2, 3, 4, 5, 6, 33, 103, 107, 108] 655360
def F10 (n : Nat) : Cf := { N := n, keep := [0, 1, 2, 3, 4, 5, 6, 7, 26], live := lk [] }
noncomputable abbrev dec10 := deR KK [.bool]
noncomputable def G10n (n : Nat) (a0 : VGateLaw) (a1 : VGateAsk) : Option (Bool) :=
 Option.bind (G30 a0) fun r1 =>
 cond (!r1)
 (some (false))
 (Option.bind (G31 a1.Who) fun r2 =>
 cond (!r2)
 (some (false))
 (cond (decide (a1.Verb < 1))
 (some (false))
 (cond (decide (a1.Verb > 6))
 (some (false))
 (Option.bind (G32 ) fun r3 =>
 cond (decide (a1.Verb = 0))
 (none)
 (cond (decide (a1.Verb = 1))
 (cond (decide (a1.Kind = a1.Kind))
 (cond (decide (a1.Name = a1.Name))
 (cond (decide (a1.Team = a1.Team))
 (Option.bind (G33 a1.Values a1.Values) fun r4 =>
 cond r4
 (Option.bind (G33 a1.Holds a1.Holds) fun r5 =>
 cond r5
 (cond (0 == a1.Seen)
 (cond (decide ((⟨#[]⟩ : ByteArray) = a1.Hold))
 (cond (decide ((⟨#[]⟩ : ByteArray) = a1.To))
 (Option.bind (G34 ((⟨([] : List (C .e3)), (⟨#[]⟩ : ByteArray), (⟨#[]⟩ : ByteArray), (⟨#[]⟩ : ByteArray)⟩ : VGateRule)) (⟨a1.Rule_Verbs, a1.Rule_Kind, a1.Rule_Team, a1.Rule_Prefix⟩ : VGateRule)) fun r6 =>
 cond r6
 (cond (0 == a1.Number)
 (Option.bind (G131 a0 a1) fun r7 =>
 cond r7
 (Option.bind (G83 a0.Teams a1.Team) fun r8 =>
 cond (decide (r8 ≥ 0))
 (Option.bind (G132 a0 a1) fun r9 =>
 cond r9
 (cond (decide ((a1.Holds.length : Int) ≤ 3))
 (Option.bind (G94 a1.Holds) fun r10 =>
 some (r10))
 (some (false)))
 (some (false)))
 (some (false)))
 (some (false)))
 (some (false)))
 (some (false)))
 (some (false)))
 (some (false)))
 (some (false)))
 (some (false)))
 (some (false)))
 (some (false)))
 (some (false)))
 (some (false)))
 (cond (decide (a1.Verb = 2))
 (cond (decide (a1.Kind = a1.Kind))
 (cond (decide (a1.Name = a1.Name))
 (cond (decide ((⟨#[]⟩ : ByteArray) = a1.Team))
 (Option.bind (G33 a1.Values a1.Values) fun r11 =>
 cond r11
 (Option.bind (G33 (([] : List (C .e9))) a1.Holds) fun r12 =>
 cond r12
 (cond (a1.Seen == a1.Seen)
 (cond (decide ((⟨#[]⟩ : ByteArray) = a1.Hold))
 (cond (decide ((⟨#[]⟩ : ByteArray) = a1.To))
 (Option.bind (G34 ((⟨([] : List (C .e3)), (⟨#[]⟩ : ByteArray), (⟨#[]⟩ : ByteArray), (⟨#[]⟩ : ByteArray)⟩ : VGateRule)) (⟨a1.Rule_Verbs, a1.Rule_Kind, a1.Rule_Team, a1.Rule_Prefix⟩ : VGateRule)) fun r13 =>
 cond r13
 (cond (0 == a1.Number)
 (Option.bind (G131 a0 a1) fun r14 =>
 cond r14
 (Option.bind (G132 a0 a1) fun r15 =>
 cond r15
 (some (decide (a1.Seen ≥ 0)))
 (some (false)))
 (some (false)))
 (some (false)))
 (some (false)))
 (some (false)))
 (some (false)))
 (some (false)))
 (some (false)))
 (some (false)))
 (some (false)))
 (some (false)))
 (some (false)))
 (cond (decide (a1.Verb = 3))
 (cond (decide (a1.Kind = a1.Kind))
 (cond (decide (a1.Name = a1.Name))
 (cond (decide ((⟨#[]⟩ : ByteArray) = a1.Team))
 (Option.bind (G33 (([] : List (C .e9))) a1.Values) fun r16 =>
 cond r16
 (Option.bind (G33 (([] : List (C .e9))) a1.Holds) fun r17 =>
 cond r17
 (cond (a1.Seen == a1.Seen)
 (cond (decide ((⟨#[]⟩ : ByteArray) = a1.Hold))
 (cond (decide ((⟨#[]⟩ : ByteArray) = a1.To))
 (Option.bind (G34 ((⟨([] : List (C .e3)), (⟨#[]⟩ : ByteArray), (⟨#[]⟩ : ByteArray), (⟨#[]⟩ : ByteArray)⟩ : VGateRule)) (⟨a1.Rule_Verbs, a1.Rule_Kind, a1.Rule_Team, a1.Rule_Prefix⟩ : VGateRule)) fun r18 =>
 cond r18
 (cond (0 == a1.Number)
 (Option.bind (G131 a0 a1) fun r19 =>
 cond r19
 (some (decide (a1.Seen ≥ 0)))
 (some (false)))
 (some (false)))
 (some (false)))
 (some (false)))
 (some (false)))
 (some (false)))
 (some (false)))
 (some (false)))
 (some (false)))
 (some (false)))
 (some (false)))
 (cond (decide (a1.Verb = 4))
 (cond (decide (a1.Kind = a1.Kind))
 (cond (decide (a1.Name = a1.Name))
 (cond (decide ((⟨#[]⟩ : ByteArray) = a1.Team))
 (Option.bind (G33 (([] : List (C .e9))) a1.Values) fun r20 =>
 cond r20
 (Option.bind (G33 (([] : List (C .e9))) a1.Holds) fun r21 =>
 cond r21
 (cond (0 == a1.Seen)
 (cond (decide (a1.Hold = a1.Hold))
 (cond (decide ((⟨#[]⟩ : ByteArray) = a1.To))
 (Option.bind (G34 ((⟨([] : List (C .e3)), (⟨#[]⟩ : ByteArray), (⟨#[]⟩ : ByteArray), (⟨#[]⟩ : ByteArray)⟩ : VGateRule)) (⟨a1.Rule_Verbs, a1.Rule_Kind, a1.Rule_Team, a1.Rule_Prefix⟩ : VGateRule)) fun r22 =>
 cond r22
 (cond (0 == a1.Number)
 (Option.bind (G131 a0 a1) fun r23 =>
 cond r23
 (Option.bind (G31 a1.Hold) fun r24 =>
 some (r24))
 (some (false)))
 (some (false)))
 (some (false)))
 (some (false)))
 (some (false)))
 (some (false)))
 (some (false)))
 (some (false)))
 (some (false)))
 (some (false)))
 (some (false)))
 (cond (decide (a1.Verb = 5))
 (cond (decide ((⟨#[]⟩ : ByteArray) = a1.Kind))
 (cond (decide ((⟨#[]⟩ : ByteArray) = a1.Name))
 (cond (decide ((⟨#[]⟩ : ByteArray) = a1.Team))
 (Option.bind (G33 (([] : List (C .e9))) a1.Values) fun r25 =>
 cond r25
 (Option.bind (G33 (([] : List (C .e9))) a1.Holds) fun r26 =>
 cond r26
 (cond (0 == a1.Seen)
 (cond (decide ((⟨#[]⟩ : ByteArray) = a1.Hold))
 (cond (decide (a1.To = a1.To))
 (Option.bind (G34 (⟨a1.Rule_Verbs, a1.Rule_Kind, a1.Rule_Team, a1.Rule_Prefix⟩ : VGateRule) (⟨a1.Rule_Verbs, a1.Rule_Kind, a1.Rule_Team, a1.Rule_Prefix⟩ : VGateRule)) fun r27 =>
 cond r27
 (cond (0 == a1.Number)
 (Option.bind (G31 a1.To) fun r28 =>
 cond r28
 (Option.bind (G125 (⟨a1.Rule_Verbs, a1.Rule_Kind, a1.Rule_Team, a1.Rule_Prefix⟩ : VGateRule)) fun r29 =>
 some (r29))
 (some (false)))
 (some (false)))
 (some (false)))
 (some (false)))
 (some (false)))
 (some (false)))
 (some (false)))
 (some (false)))
 (some (false)))
 (some (false)))
 (some (false)))
 (cond (decide (a1.Verb = 6))
 (cond (decide ((⟨#[]⟩ : ByteArray) = a1.Kind))
 (cond (decide ((⟨#[]⟩ : ByteArray) = a1.Name))
 (cond (decide ((⟨#[]⟩ : ByteArray) = a1.Team))
 (Option.bind (G33 (([] : List (C .e9))) a1.Values) fun r30 =>
 cond r30
 (Option.bind (G33 (([] : List (C .e9))) a1.Holds) fun r31 =>
 cond r31
 (cond (0 == a1.Seen)
 (cond (decide ((⟨#[]⟩ : ByteArray) = a1.Hold))
 (cond (decide ((⟨#[]⟩ : ByteArray) = a1.To))
 (Option.bind (G34 ((⟨([] : List (C .e3)), (⟨#[]⟩ : ByteArray), (⟨#[]⟩ : ByteArray), (⟨#[]⟩ : ByteArray)⟩ : VGateRule)) (⟨a1.Rule_Verbs, a1.Rule_Kind, a1.Rule_Team, a1.Rule_Prefix⟩ : VGateRule)) fun r32 =>
 cond r32
 (cond (a1.Number == a1.Number)
 (some (decide (a1.Number ≥ 1)))
 (some (false)))
 (some (false)))
 (some (false)))
 (some (false)))
 (some (false)))
 (some (false)))
 (some (false)))
 (some (false)))
 (some (false)))
 (some (false)))
 (none)))))))))))
theorem t10 (n : Nat) (a0 : VGateLaw) (a1 : VGateAsk) : runFn (X10 n) (F10 n) Tryz.f10 [.agg [.row .e105 a0.Shapes, .row .e110 a0.Mends, .row .e112 a0.Teams], .agg [.str a1.Who, .int .i64 a1.Verb, .str a1.Kind, .str a1.Name, .str a1.Team, .row .e9 a1.Values, .row .e9 a1.Holds, .int .i64 a1.Seen, .str a1.Hold, .str a1.To, .row .e3 a1.Rule_Verbs, .str a1.Rule_Kind, .str a1.Rule_Team, .str a1.Rule_Prefix, .int .i64 a1.Number]] dec10 = G10n n a0 a1 := by
  kernel_rfl
noncomputable def G10 (a0 : VGateLaw) (a1 : VGateAsk) : Option (Bool) := G10n fuel a0 a1
noncomputable def con10 : Con C := mkC KK [.el .e40, .el .e44] [.bool] G10
theorem c10 : ConOk Tryz.prog KK 10 con10 := cO (mkQ ⟨c30, c31, c32, c33, c34, trivial⟩ trivial ⟨i129 _, i130 _, i134 _, i135 _, i137 _, i138 _, i140 _, i141 _, i143 _, i144 _, i146 _, i147 _, trivial⟩ : Cons Tryz.prog (X10 fuel)) (fn := Tryz.f10) (by kernel_rfl) (by kernel_rfl) (by kernel_rfl) (by kernel_rfl) (F10 fuel) (by kernel_rfl) (fun a0 a1 => t10 fuel a0 a1)
/-! ### f68 loop.example/wharfdesk/laws.eqIntS -/
noncomputable def X68 : Cx C := mkX [] [] [] [] 4456448
def F68 (n : Nat) : Cf := { N := n, keep := [0, 1, 4, 5, 10, 14, 25], live := lk [(0, [0, 1, 5])] }
noncomputable abbrev dec68 := deR KK [.bool]
abbrev A68_0 : Type := List (C .e3) × List (C .e3) × Int
def s68_0  : A68_0 → St C := fun (x0_0, x0_1, x0_2) => { env := [(0, .one (.row .e3 x0_0)), (1, .one (.row .e3 x0_1)), (5, .one (.int .i64 x0_2))], objs := [], base := 0 }
noncomputable def r68_0 (n : Nat)   (rec0 : A68_0 → Option (Bool)) : A68_0 → Option (Bool) := fun (x0_0, x0_1, x0_2) =>
 cond (decide (x0_2 < (x0_0.length : Int)))
 (cond (decide (0 ≤ x0_2)) (Option.bind x0_0[x0_2.toNat]? fun e1 => cond (decide (0 ≤ x0_2)) (Option.bind x0_1[x0_2.toNat]? fun e2 => cond (e1 != e2)
 (some (false))
 (rec0 ((x0_0, x0_1, IntKind.i64.wrap (x0_2 + 1))))) none) none)
 (some (true))
noncomputable def LP68_0 (n : Nat)   (x : A68_0) : Option (Bool) := lpN (r68_0 n  ) n x
noncomputable def MP68_0 (n : Nat)   (x : A68_0) : Option (Bool) := iter (fun rec S => run X68 (F68 n) (codeAt (bodyOf Tryz.f68) [1, 1, 0, 1, 0, 0]) 0 S (lopK rec (blkK 0 (seqK (run X68 (F68 n) (codeAt (bodyOf Tryz.f68) [1, 1, 1]) 0) (kTop X68 Tryz.f68 dec68))))) [0, 1, 5] n (s68_0  x)
theorem m68_0 (n : Nat)   (x : A68_0) : MP68_0 n   x = LP68_0 n   x := by
  refine iter_eq (s68_0 ) (r68_0 n  ) (fun rec0 x => ?_) n x
  obtain ⟨x0_0, x0_1, x0_2⟩ := x
  kernel_rfl
noncomputable def G68n (n : Nat) (a0 : List (C .e3)) (a1 : List (C .e3)) : Option (Bool) :=
 cond ((a0.length : Int) != (a1.length : Int))
 (some (false))
 (LP68_0 n    (a0, a1, 0))
theorem t68 (n : Nat) (a0 : List (C .e3)) (a1 : List (C .e3)) : runFn X68 (F68 n) Tryz.f68 [.one (.row .e3 a0), .one (.row .e3 a1)] dec68 = G68n n a0 a1 := by
  refine Eq.trans (b :=
   cond ((a0.length : Int) != (a1.length : Int))
   (some (false))
   (MP68_0 n    (a0, a1, 0))) (by kernel_rfl) ?_
  simp only [G68n, m68_0]
noncomputable def G68 (a0 : List (C .e3)) (a1 : List (C .e3)) : Option (Bool) := G68n fuel a0 a1
noncomputable def con68 : Con C := mkC KK [.row .e3, .row .e3] [.bool] G68
theorem c68 : ConOk Tryz.prog KK 68 con68 := cO (mkQ trivial trivial trivial : Cons Tryz.prog X68) (fn := Tryz.f68) (by kernel_rfl) (by kernel_rfl) (by kernel_rfl) (by kernel_rfl) (F68 fuel) (by kernel_rfl) (fun a0 a1 => t68 fuel a0 a1)
/-! ### f39 loop.example/wharfdesk/laws.eqGateRule -/
noncomputable def X39 : Cx C := mkX [(68, con68)] [] [] [] 2555904
def F39 (n : Nat) : Cf := { N := n, keep := [0, 1, 2, 3, 4, 10, 15, 20, 25], live := lk [] }
noncomputable abbrev dec39 := deR KK [.bool]
noncomputable def G39n (n : Nat) (a0 : VGateRule) (a1 : VGateRule) : Option (Bool) :=
 Option.bind (G68 a0.Verbs a1.Verbs) fun r1 =>
 cond (!r1)
 (some (false))
 (cond (!decide (a0.Kind = a1.Kind))
 (some (false))
 (cond (!decide (a0.Team = a1.Team))
 (some (false))
 (cond (!decide (a0.Prefix = a1.Prefix))
 (some (false))
 (some (true)))))
theorem t39 (n : Nat) (a0 : VGateRule) (a1 : VGateRule) : runFn X39 (F39 n) Tryz.f39 [.agg [.row .e3 a0.Verbs, .str a0.Kind, .str a0.Team, .str a0.Prefix], .agg [.row .e3 a1.Verbs, .str a1.Kind, .str a1.Team, .str a1.Prefix]] dec39 = G39n n a0 a1 := by
  kernel_rfl
noncomputable def G39 (a0 : VGateRule) (a1 : VGateRule) : Option (Bool) := G39n fuel a0 a1
noncomputable def con39 : Con C := mkC KK [.el .e42, .el .e42] [.bool] G39
theorem c39 : ConOk Tryz.prog KK 39 con39 := cO (mkQ ⟨c68, trivial⟩ trivial trivial : Cons Tryz.prog X39) (fn := Tryz.f39) (by kernel_rfl) (by kernel_rfl) (by kernel_rfl) (by kernel_rfl) (F39 fuel) (by kernel_rfl) (fun a0 a1 => t39 fuel a0 a1)

end Go.Proofs.YtjodpeldfebhfaaGreat.Ab

/- The functions that the law calls, written plainly, and their contracts: each call answers what its plain function answers. No conditions. -/
set_option linter.unusedVariables false
set_option linter.unusedSimpArgs false
set_option maxRecDepth 100000
namespace Go.Proofs.YtjodpeldfebhfaaGreat.Ab
open Go Go.RowKit
/-! ### f12 loop.example/wharfdesk/laws.eqGateAsk -/
noncomputable def X12 : Cx C := mkX [(38, con38), (39, con39)] [] [] [] 786432
def F12 (n : Nat) : Cf := { N := n, keep := [0, 1, 2, 3, 4, 9, 14, 19, 24, 29, 35, 41, 46, 51, 56, 62, 67], live := lk [] }
noncomputable abbrev dec12 := deR KK [.bool]
noncomputable def G12n (n : Nat) (a0 : VGateAsk) (a1 : VGateAsk) : Option (Bool) :=
 cond (!decide (a0.Who = a1.Who))
 (some (false))
 (cond (a0.Verb != a1.Verb)
 (some (false))
 (cond (!decide (a0.Kind = a1.Kind))
 (some (false))
 (cond (!decide (a0.Name = a1.Name))
 (some (false))
 (cond (!decide (a0.Team = a1.Team))
 (some (false))
 (Option.bind (G38 a0.Values a1.Values) fun r1 =>
 cond (!r1)
 (some (false))
 (Option.bind (G38 a0.Holds a1.Holds) fun r2 =>
 cond (!r2)
 (some (false))
 (cond (a0.Seen != a1.Seen)
 (some (false))
 (cond (!decide (a0.Hold = a1.Hold))
 (some (false))
 (cond (!decide (a0.To = a1.To))
 (some (false))
 (Option.bind (G39 (⟨a0.Rule_Verbs, a0.Rule_Kind, a0.Rule_Team, a0.Rule_Prefix⟩ : VGateRule) (⟨a1.Rule_Verbs, a1.Rule_Kind, a1.Rule_Team, a1.Rule_Prefix⟩ : VGateRule)) fun r3 =>
 cond (!r3)
 (some (false))
 (cond (a0.Number != a1.Number)
 (some (false))
 (some (true)))))))))))))
theorem t12 (n : Nat) (a0 : VGateAsk) (a1 : VGateAsk) : runFn X12 (F12 n) Tryz.f12 [.agg [.str a0.Who, .int .i64 a0.Verb, .str a0.Kind, .str a0.Name, .str a0.Team, .row .e9 a0.Values, .row .e9 a0.Holds, .int .i64 a0.Seen, .str a0.Hold, .str a0.To, .row .e3 a0.Rule_Verbs, .str a0.Rule_Kind, .str a0.Rule_Team, .str a0.Rule_Prefix, .int .i64 a0.Number], .agg [.str a1.Who, .int .i64 a1.Verb, .str a1.Kind, .str a1.Name, .str a1.Team, .row .e9 a1.Values, .row .e9 a1.Holds, .int .i64 a1.Seen, .str a1.Hold, .str a1.To, .row .e3 a1.Rule_Verbs, .str a1.Rule_Kind, .str a1.Rule_Team, .str a1.Rule_Prefix, .int .i64 a1.Number]] dec12 = G12n n a0 a1 := by
  kernel_rfl
noncomputable def G12 (a0 : VGateAsk) (a1 : VGateAsk) : Option (Bool) := G12n fuel a0 a1
noncomputable def con12 : Con C := mkC KK [.el .e44, .el .e44] [.bool] G12
theorem c12 : ConOk Tryz.prog KK 12 con12 := cO (mkQ ⟨c38, c39, trivial⟩ trivial trivial : Cons Tryz.prog X12) (fn := Tryz.f12) (by kernel_rfl) (by kernel_rfl) (by kernel_rfl) (by kernel_rfl) (F12 fuel) (by kernel_rfl) (fun a0 a1 => t12 fuel a0 a1)
/-! ### f3 loop.example/wharfdesk/laws.FnExactGateAskOk -/
noncomputable def X3 : Cx C := mkX [(5, con5), (6, con6), (7, con7), (8, con8), (9, con9), (10, con10), (11, con11), (12, con12)] [] [] [] 196608
def F3 (n : Nat) : Cf := { N := n, keep := [0, 1, 2, 3, 4, 5, 6, 7, 8, 9, 14, 19, 34, 39, 44], live := lk [] }
noncomputable abbrev dec3 := deR KK [.bool]
noncomputable def G3n (n : Nat) (a0 : VGateLaw) (a1 : VGateAsk) : Option (Bool) :=
 Option.bind (G5 a0 1048576) fun r1 =>
 cond (decide (r1 < 0))
 (some (true))
 (Option.bind (G6 a1 r1) fun r2 =>
 cond (decide (r2 < 0))
 (some (true))
 (Option.bind (G8 a0) fun r3 =>
 Option.bind (G9 a1) fun r4 =>
 Option.bind (G7 r3 r4) fun r5 =>
 Option.bind (G8 a0) fun r6 =>
 Option.bind (G9 a1) fun r7 =>
 Option.bind (G10 r6 r7) fun r8 =>
 cond (!(r8 == r5))
 (some (false))
 (Option.bind (G8 a0) fun r9 =>
 Option.bind (G11 r6 r9) fun r10 =>
 cond (!r10)
 (some (false))
 (Option.bind (G9 a1) fun r11 =>
 Option.bind (G12 r7 r11) fun r12 =>
 cond (!r12)
 (some (false))
 (some (true))))))
theorem t3 (n : Nat) (a0 : VGateLaw) (a1 : VGateAsk) : runFn X3 (F3 n) Tryz.f3 [.agg [.row .e90 a0.Shapes, .row .e93 a0.Mends, .row .e96 a0.Teams], .agg [.str a1.Who, .int .i64 a1.Verb, .str a1.Kind, .str a1.Name, .str a1.Team, .row .e9 a1.Values, .row .e9 a1.Holds, .int .i64 a1.Seen, .str a1.Hold, .str a1.To, .row .e3 a1.Rule_Verbs, .str a1.Rule_Kind, .str a1.Rule_Team, .str a1.Rule_Prefix, .int .i64 a1.Number]] dec3 = G3n n a0 a1 := by
  kernel_rfl
noncomputable def G3 (a0 : VGateLaw) (a1 : VGateAsk) : Option (Bool) := G3n fuel a0 a1
noncomputable def con3 : Con C := mkC KK [.el .e26, .el .e32] [.bool] G3
theorem c3 : ConOk Tryz.prog KK 3 con3 := cO (mkQ ⟨c5, c6, c7, c8, c9, c10, c11, c12, trivial⟩ trivial trivial : Cons Tryz.prog X3) (fn := Tryz.f3) (by kernel_rfl) (by kernel_rfl) (by kernel_rfl) (by kernel_rfl) (F3 fuel) (by kernel_rfl) (fun a0 a1 => t3 fuel a0 a1)
/-! ### f69 loop.example/wharfdesk/laws.szGateWant -/
noncomputable def X69 : Cx C := mkX [] [] [] [] 4521984
def F69 (n : Nat) : Cf := { N := n, keep := [0, 1, 2, 4, 11, 18], live := lk [] }
noncomputable abbrev dec69 := deR KK [.int .i64]
noncomputable def G69n (n : Nat) (a0 : VGateWant) (a1 : Int) : Option (Int) :=
 cond (decide ((IntKind.i64.wrap (a1 - (a0.Kind.size : Int))) < 0))
 (some ((-1)))
 (cond (decide ((IntKind.i64.wrap ((IntKind.i64.wrap (a1 - (a0.Kind.size : Int))) - (a0.Name.size : Int))) < 0))
 (some ((-1)))
 (some (IntKind.i64.wrap ((IntKind.i64.wrap (a1 - (a0.Kind.size : Int))) - (a0.Name.size : Int)))))
theorem t69 (n : Nat) (a0 : VGateWant) (a1 : Int) : runFn X69 (F69 n) Tryz.f69 [.agg [.str a0.Kind, .str a0.Name, .int .i64 a0.Version], .one (.int .i64 a1)] dec69 = G69n n a0 a1 := by
  kernel_rfl
noncomputable def G69 (a0 : VGateWant) (a1 : Int) : Option (Int) := G69n fuel a0 a1
noncomputable def con69 : Con C := mkC KK [.el .e127, .int .i64] [.int .i64] G69
theorem c69 : ConOk Tryz.prog KK 69 con69 := cO (mkQ trivial trivial trivial : Cons Tryz.prog X69) (fn := Tryz.f69) (by kernel_rfl) (by kernel_rfl) (by kernel_rfl) (by kernel_rfl) (F69 fuel) (by kernel_rfl) (fun a0 a1 => t69 fuel a0 a1)
/-! ### f40 loop.example/wharfdesk/laws.szGateWantS -/
noncomputable def X40 : Cx C := mkX [(69, con69)] [] [] [] 2621440
def F40 (n : Nat) : Cf := { N := n, keep := [0, 1, 4, 5, 11, 15, 25], live := lk [(0, [0, 1, 5])] }
noncomputable abbrev dec40 := deR KK [.int .i64]
abbrev A40_0 : Type := List (C .e127) × Int × Int
def s40_0  : A40_0 → St C := fun (x0_0, x0_1, x0_2) => { env := [(0, .one (.row .e127 x0_0)), (1, .one (.int .i64 x0_1)), (5, .one (.int .i64 x0_2))], objs := [], base := 0 }
noncomputable def r40_0 (n : Nat)   (rec0 : A40_0 → Option (Int)) : A40_0 → Option (Int) := fun (x0_0, x0_1, x0_2) =>
 cond (decide (x0_2 < (x0_0.length : Int)))
 (cond (decide (0 ≤ x0_2)) (Option.bind x0_0[x0_2.toNat]? fun e1 => Option.bind (G69 e1 x0_1) fun r2 =>
 cond (decide (r2 < 0))
 (some ((-1)))
 (rec0 ((x0_0, r2, IntKind.i64.wrap (x0_2 + 1))))) none)
 (some (x0_1))
noncomputable def LP40_0 (n : Nat)   (x : A40_0) : Option (Int) := lpN (r40_0 n  ) n x
noncomputable def MP40_0 (n : Nat)   (x : A40_0) : Option (Int) := iter (fun rec S => run X40 (F40 n) (codeAt (bodyOf Tryz.f40) [1, 1, 1, 0, 1, 0, 0]) 0 S (lopK rec (blkK 0 (seqK (run X40 (F40 n) (codeAt (bodyOf Tryz.f40) [1, 1, 1, 1]) 0) (kTop X40 Tryz.f40 dec40))))) [0, 1, 5] n (s40_0  x)
theorem m40_0 (n : Nat)   (x : A40_0) : MP40_0 n   x = LP40_0 n   x := by
  refine iter_eq (s40_0 ) (r40_0 n  ) (fun rec0 x => ?_) n x
  obtain ⟨x0_0, x0_1, x0_2⟩ := x
  kernel_rfl
noncomputable def G40n (n : Nat) (a0 : List (C .e127)) (a1 : Int) : Option (Int) :=
 cond (decide ((IntKind.i64.wrap (a1 - (a0.length : Int))) < 0))
 (some ((-1)))
 (LP40_0 n    ((a0, IntKind.i64.wrap (a1 - (a0.length : Int)), 0)))
theorem t40 (n : Nat) (a0 : List (C .e127)) (a1 : Int) : runFn X40 (F40 n) Tryz.f40 [.one (.row .e127 a0), .one (.int .i64 a1)] dec40 = G40n n a0 a1 := by
  refine Eq.trans (b :=
   cond (decide ((IntKind.i64.wrap (a1 - (a0.length : Int))) < 0))
   (some ((-1)))
   (MP40_0 n    ((a0, IntKind.i64.wrap (a1 - (a0.length : Int)), 0)))) (by kernel_rfl) ?_
  simp only [G40n, m40_0]
noncomputable def G40 (a0 : List (C .e127)) (a1 : Int) : Option (Int) := G40n fuel a0 a1
noncomputable def con40 : Con C := mkC KK [.row .e127, .int .i64] [.int .i64] G40
theorem c40 : ConOk Tryz.prog KK 40 con40 := cO (mkQ ⟨c69, trivial⟩ trivial trivial : Cons Tryz.prog X40) (fn := Tryz.f40) (by kernel_rfl) (by kernel_rfl) (by kernel_rfl) (by kernel_rfl) (F40 fuel) (by kernel_rfl) (fun a0 a1 => t40 fuel a0 a1)
/-! ### f13 loop.example/wharfdesk/laws.szGateSlip -/
noncomputable def X13 : Cx C := mkX [(6, con6), (40, con40)] [] [] [] 851968
def F13 (n : Nat) : Cf := { N := n, keep := [0, 1, 2, 4, 11, 17, 23], live := lk [] }
noncomputable abbrev dec13 := deR KK [.int .i64]
noncomputable def G13n (n : Nat) (a0 : VGateSlip) (a1 : Int) : Option (Int) :=
 cond (decide ((IntKind.i64.wrap (a1 - (a0.Door.size : Int))) < 0))
 (some ((-1)))
 (Option.bind (G6 (⟨a0.Ask_Who, a0.Ask_Verb, a0.Ask_Kind, a0.Ask_Name, a0.Ask_Team, a0.Ask_Values, a0.Ask_Holds, a0.Ask_Seen, a0.Ask_Hold, a0.Ask_To, a0.Ask_Rule_Verbs, a0.Ask_Rule_Kind, a0.Ask_Rule_Team, a0.Ask_Rule_Prefix, a0.Ask_Number⟩ : VGateAsk) (IntKind.i64.wrap (a1 - (a0.Door.size : Int)))) fun r1 =>
 cond (decide (r1 < 0))
 (some ((-1)))
 (Option.bind (G40 a0.Wants r1) fun r2 =>
 cond (decide (r2 < 0))
 (some ((-1)))
 (some (r2))))
theorem t13 (n : Nat) (a0 : VGateSlip) (a1 : Int) : runFn X13 (F13 n) Tryz.f13 [.agg [.str a0.Door, .str a0.Ask_Who, .int .i64 a0.Ask_Verb, .str a0.Ask_Kind, .str a0.Ask_Name, .str a0.Ask_Team, .row .e9 a0.Ask_Values, .row .e9 a0.Ask_Holds, .int .i64 a0.Ask_Seen, .str a0.Ask_Hold, .str a0.Ask_To, .row .e3 a0.Ask_Rule_Verbs, .str a0.Ask_Rule_Kind, .str a0.Ask_Rule_Team, .str a0.Ask_Rule_Prefix, .int .i64 a0.Ask_Number, .int .i64 a0.Given, .row .e127 a0.Wants], .one (.int .i64 a1)] dec13 = G13n n a0 a1 := by
  kernel_rfl
noncomputable def G13 (a0 : VGateSlip) (a1 : Int) : Option (Int) := G13n fuel a0 a1
noncomputable def con13 : Con C := mkC KK [.el .e51, .int .i64] [.int .i64] G13
theorem c13 : ConOk Tryz.prog KK 13 con13 := cO (mkQ ⟨c6, c40, trivial⟩ trivial trivial : Cons Tryz.prog X13) (fn := Tryz.f13) (by kernel_rfl) (by kernel_rfl) (by kernel_rfl) (by kernel_rfl) (F13 fuel) (by kernel_rfl) (fun a0 a1 => t13 fuel a0 a1)
/-! ### f41 loop.example/wharfdesk/spec.l9SlipOk -/
noncomputable def X41 : Cx C := mkX [(24, con24), (50, con50)] [] [] [] 2686976
def F41 (n : Nat) : Cf := { N := n, keep := [0, 1, 2, 3, 4, 5, 27, 32, 61], live := lk [(0, [3, 5])] }
noncomputable abbrev dec41 := deR KK [.bool]
abbrev A41_0 : Type := Int
section
variable (x1 : ByteArray) (x2 : ByteArray) (x3 : Int) (x4 : ByteArray) (x5 : ByteArray) (x6 : ByteArray) (x7 : List (C .e9)) (x8 : List (C .e9)) (x9 : Int) (x10 : ByteArray) (x11 : ByteArray) (x12 : List (C .e3)) (x13 : ByteArray) (x14 : ByteArray) (x15 : ByteArray) (x16 : Int) (x17 : Int) (x18 : List (C .e85))
def s41_0 : A41_0 → St C := fun x0 => { env := [(3, .one (.ptr 2687168 0)), (5, .one (.int .i64 x0))], objs := [(2687168, .box .mem [.str x1, .str x2, .int .i64 x3, .str x4, .str x5, .str x6, .row .e9 x7, .row .e9 x8, .int .i64 x9, .str x10, .str x11, .row .e3 x12, .str x13, .str x14, .str x15, .int .i64 x16, .int .i64 x17, .row .e85 x18])], base := 0 }
end
noncomputable def r41_0 (x18 : List (C .e85)) (n : Nat)   (rec0 : A41_0 → Option (Bool)) : A41_0 → Option (Bool) := fun x0 =>
 cond (decide (x0 < (x18.length : Int)))
 (cond (decide (0 ≤ x0)) (Option.bind x18[x0.toNat]? fun e3 => Option.bind (G50 e3.Kind) fun r4 =>
 cond (!r4)
 (some (false))
 (cond (decide (0 ≤ x0)) (Option.bind x18[x0.toNat]? fun e5 => Option.bind (G50 e5.Name) fun r6 =>
 cond (!r6)
 (some (false))
 (cond (decide (0 ≤ x0)) (Option.bind x18[x0.toNat]? fun e7 => cond (decide (e7.Version < 0))
 (some (false))
 (rec0 (IntKind.i64.wrap (x0 + 1)))) none)) none)) none)
 (some (true))
section
variable (x1 : ByteArray) (x2 : ByteArray) (x3 : Int) (x4 : ByteArray) (x5 : ByteArray) (x6 : ByteArray) (x7 : List (C .e9)) (x8 : List (C .e9)) (x9 : Int) (x10 : ByteArray) (x11 : ByteArray) (x12 : List (C .e3)) (x13 : ByteArray) (x14 : ByteArray) (x15 : ByteArray) (x16 : Int) (x17 : Int) (x18 : List (C .e85))
noncomputable def MP41_0 (n : Nat)  (x : A41_0) : Option (Bool) := iter (fun rec S => run X41 (F41 n) (codeAt (bodyOf Tryz.f41) [1, 1, 0, 1, 0, 0]) 0 S (lopK rec (blkK 0 (seqK (run X41 (F41 n) (codeAt (bodyOf Tryz.f41) [1, 1, 1]) 0) (kTop X41 Tryz.f41 dec41))))) [3, 5] n (s41_0 x1 x2 x3 x4 x5 x6 x7 x8 x9 x10 x11 x12 x13 x14 x15 x16 x17 x18 x)
theorem m41_0 (n : Nat)  (x : A41_0) : MP41_0 x1 x2 x3 x4 x5 x6 x7 x8 x9 x10 x11 x12 x13 x14 x15 x16 x17 x18 n  x = lpN (r41_0 x18 n  ) n x := by
  refine iter_eq (s41_0 x1 x2 x3 x4 x5 x6 x7 x8 x9 x10 x11 x12 x13 x14 x15 x16 x17 x18) (r41_0 x18 n  ) (fun rec0 x0 => ?_) n x
  kernel_rfl
end
noncomputable def G41n (n : Nat) (a0 : VGateLaw) (a1 : VGateSlip) : Option (Bool) :=
 Option.bind (G50 a1.Door) fun r1 =>
 cond (!r1)
 (some (false))
 (Option.bind (G24 a0 (⟨a1.Ask_Who, a1.Ask_Verb, a1.Ask_Kind, a1.Ask_Name, a1.Ask_Team, a1.Ask_Values, a1.Ask_Holds, a1.Ask_Seen, a1.Ask_Hold, a1.Ask_To, a1.Ask_Rule_Verbs, a1.Ask_Rule_Kind, a1.Ask_Rule_Team, a1.Ask_Rule_Prefix, a1.Ask_Number⟩ : VGateAsk)) fun r2 =>
 cond (!r2)
 (some (false))
 (cond (decide (a1.Given < 0))
 (some (false))
 (cond (decide ((a1.Wants.length : Int) > 8))
 (some (false))
 (lpN (r41_0 a1.Wants n ) n 0))))
theorem t41 (n : Nat) (a0 : VGateLaw) (a1 : VGateSlip) : runFn X41 (F41 n) Tryz.f41 [.agg [.row .e105 a0.Shapes, .row .e110 a0.Mends, .row .e112 a0.Teams], .agg [.str a1.Door, .str a1.Ask_Who, .int .i64 a1.Ask_Verb, .str a1.Ask_Kind, .str a1.Ask_Name, .str a1.Ask_Team, .row .e9 a1.Ask_Values, .row .e9 a1.Ask_Holds, .int .i64 a1.Ask_Seen, .str a1.Ask_Hold, .str a1.Ask_To, .row .e3 a1.Ask_Rule_Verbs, .str a1.Ask_Rule_Kind, .str a1.Ask_Rule_Team, .str a1.Ask_Rule_Prefix, .int .i64 a1.Ask_Number, .int .i64 a1.Given, .row .e85 a1.Wants]] dec41 = G41n n a0 a1 := by
  refine Eq.trans (b :=
   Option.bind (G50 a1.Door) fun r1 =>
   cond (!r1)
   (some (false))
   (Option.bind (G24 a0 (⟨a1.Ask_Who, a1.Ask_Verb, a1.Ask_Kind, a1.Ask_Name, a1.Ask_Team, a1.Ask_Values, a1.Ask_Holds, a1.Ask_Seen, a1.Ask_Hold, a1.Ask_To, a1.Ask_Rule_Verbs, a1.Ask_Rule_Kind, a1.Ask_Rule_Team, a1.Ask_Rule_Prefix, a1.Ask_Number⟩ : VGateAsk)) fun r2 =>
   cond (!r2)
   (some (false))
   (cond (decide (a1.Given < 0))
   (some (false))
   (cond (decide ((a1.Wants.length : Int) > 8))
   (some (false))
   (MP41_0 a1.Door a1.Ask_Who a1.Ask_Verb a1.Ask_Kind a1.Ask_Name a1.Ask_Team a1.Ask_Values a1.Ask_Holds a1.Ask_Seen a1.Ask_Hold a1.Ask_To a1.Ask_Rule_Verbs a1.Ask_Rule_Kind a1.Ask_Rule_Team a1.Ask_Rule_Prefix a1.Ask_Number a1.Given a1.Wants n   0))))) (by kernel_rfl) ?_
  simp only [G41n, m41_0]
noncomputable def G41 (a0 : VGateLaw) (a1 : VGateSlip) : Option (Bool) := G41n fuel a0 a1
noncomputable def con41 : Con C := mkC KK [.el .e40, .el .e56] [.bool] G41
theorem c41 : ConOk Tryz.prog KK 41 con41 := cO (mkQ ⟨c24, c50, trivial⟩ trivial trivial : Cons Tryz.prog X41) (fn := Tryz.f41) (by kernel_rfl) (by kernel_rfl) (by kernel_rfl) (by kernel_rfl) (F41 fuel) (by kernel_rfl) (fun a0 a1 => t41 fuel a0 a1)
/-! ### f14 loop.example/wharfdesk/spec.GateSlipOk -/
noncomputable def X14 : Cx C := mkX [(23, con23), (41, con41)] [] [] [] 917504
def F14 (n : Nat) : Cf := { N := n, keep := [0, 1, 2, 3, 4], live := lk [] }
noncomputable abbrev dec14 := deR KK [.bool]
noncomputable def G14n (n : Nat) (a0 : VGateLaw) (a1 : VGateSlip) : Option (Bool) :=
 Option.bind (G23 a0) fun r1 =>
 cond r1
 (Option.bind (G41 a0 a1) fun r2 =>
 some (r2))
 (some (false))
theorem t14 (n : Nat) (a0 : VGateLaw) (a1 : VGateSlip) : runFn X14 (F14 n) Tryz.f14 [.agg [.row .e105 a0.Shapes, .row .e110 a0.Mends, .row .e112 a0.Teams], .agg [.str a1.Door, .str a1.Ask_Who, .int .i64 a1.Ask_Verb, .str a1.Ask_Kind, .str a1.Ask_Name, .str a1.Ask_Team, .row .e9 a1.Ask_Values, .row .e9 a1.Ask_Holds, .int .i64 a1.Ask_Seen, .str a1.Ask_Hold, .str a1.Ask_To, .row .e3 a1.Ask_Rule_Verbs, .str a1.Ask_Rule_Kind, .str a1.Ask_Rule_Team, .str a1.Ask_Rule_Prefix, .int .i64 a1.Ask_Number, .int .i64 a1.Given, .row .e85 a1.Wants]] dec14 = G14n n a0 a1 := by
  kernel_rfl
noncomputable def G14 (a0 : VGateLaw) (a1 : VGateSlip) : Option (Bool) := G14n fuel a0 a1
noncomputable def con14 : Con C := mkC KK [.el .e40, .el .e56] [.bool] G14
theorem c14 : ConOk Tryz.prog KK 14 con14 := cO (mkQ ⟨c23, c41, trivial⟩ trivial trivial : Cons Tryz.prog X14) (fn := Tryz.f14) (by kernel_rfl) (by kernel_rfl) (by kernel_rfl) (by kernel_rfl) (F14 fuel) (by kernel_rfl) (fun a0 a1 => t14 fuel a0 a1)
/-! ### f70 loop.example/wharfdesk/laws.toGateWant -/
noncomputable def X70 : Cx C := mkX [] [] [] [] 4587520
def F70 (n : Nat) : Cf := { N := n, keep := [0, 1, 2, 3], live := lk [] }
noncomputable abbrev dec70 := deR KK [.el .e85]
noncomputable def G70n (n : Nat) (a0 : VGateWant) : Option (VGateWant) :=
 some (a0)
theorem t70 (n : Nat) (a0 : VGateWant) : runFn X70 (F70 n) Tryz.f70 [.agg [.str a0.Kind, .str a0.Name, .int .i64 a0.Version]] dec70 = G70n n a0 := by
  kernel_rfl
noncomputable def G70 (a0 : VGateWant) : Option (VGateWant) := G70n fuel a0
noncomputable def con70 : Con C := mkC KK [.el .e127] [.el .e85] G70
theorem c70 : ConOk Tryz.prog KK 70 con70 := cO (mkQ trivial trivial trivial : Cons Tryz.prog X70) (fn := Tryz.f70) (by kernel_rfl) (by kernel_rfl) (by kernel_rfl) (by kernel_rfl) (F70 fuel) (by kernel_rfl) (fun a0 => t70 fuel a0)
/-! ### f42 loop.example/wharfdesk/laws.toGateWantS -/
noncomputable def X42 : Cx C := mkX [(70, con70)] [] [] [] 2752512
def F42 (n : Nat) : Cf := { N := n, keep := [0, 2, 3, 4, 11], live := lk [(0, [0, 3, 4])] }
noncomputable abbrev dec42 := deR KK [.row .e85]
abbrev A42_0 : Type := List (C .e127) × List (C .e85) × Int
def s42_0  : A42_0 → St C := fun (x0_0, x0_1, x0_2) => { env := [(0, .one (.row .e127 x0_0)), (3, .one (.ref 100003 [])), (4, .one (.int .i64 x0_2))], objs := [(100003, .row .e85 x0_1 false)], base := 0 }
noncomputable def r42_0 (n : Nat)   (rec0 : A42_0 → Option (List (C .e85))) : A42_0 → Option (List (C .e85)) := fun (x0_0, x0_1, x0_2) =>
 cond (decide (x0_2 < (x0_0.length : Int)))
 (cond (decide (0 ≤ x0_2)) (Option.bind x0_0[x0_2.toNat]? fun e1 => Option.bind (G70 e1) fun r2 =>
 cond (decide (0 ≤ x0_2)) (cond (decide (x0_2 < (x0_1.length : Int))) (Option.bind x0_1[x0_2.toNat]? fun e3 => rec0 ((x0_0, x0_1.set x0_2.toNat r2, IntKind.i64.wrap (x0_2 + 1)))) none) none) none)
 (some (x0_1))
noncomputable def LP42_0 (n : Nat)   (x : A42_0) : Option (List (C .e85)) := lpN (r42_0 n  ) n x
noncomputable def MP42_0 (n : Nat)   (x : A42_0) : Option (List (C .e85)) := iter (fun rec S => run X42 (F42 n) (codeAt (bodyOf Tryz.f42) [1, 1, 0, 1, 0, 0]) 0 S (lopK rec (blkK 0 (seqK (run X42 (F42 n) (codeAt (bodyOf Tryz.f42) [1, 1, 1]) 0) (kTop X42 Tryz.f42 dec42))))) [0, 3, 4] n (s42_0  x)
theorem m42_0 (n : Nat)   (x : A42_0) : MP42_0 n   x = LP42_0 n   x := by
  refine iter_eq (s42_0 ) (r42_0 n  ) (fun rec0 x => ?_) n x
  obtain ⟨x0_0, x0_1, x0_2⟩ := x
  kernel_rfl
noncomputable def G42n (n : Nat) (a0 : List (C .e127)) : Option (List (C .e85)) :=
 cond (decide ((a0.length : Int) = (a0.length : Int))) (cond (decide (0 ≤ (a0.length : Int))) (cond (decide ((a0.length : Int) * 40 ≤ 140737488355328)) (LP42_0 n    ((a0, List.replicate (a0.length : Int).toNat (⟨⟨#[]⟩, ⟨#[]⟩, 0⟩ : C .e85), 0))) none) none) none
theorem t42 (n : Nat) (a0 : List (C .e127)) : runFn X42 (F42 n) Tryz.f42 [.one (.row .e127 a0)] dec42 = G42n n a0 := by
  refine Eq.trans (b :=
   cond (decide ((a0.length : Int) = (a0.length : Int))) (cond (decide (0 ≤ (a0.length : Int))) (cond (decide ((a0.length : Int) * 40 ≤ 140737488355328)) (MP42_0 n    ((a0, List.replicate (a0.length : Int).toNat (⟨⟨#[]⟩, ⟨#[]⟩, 0⟩ : C .e85), 0))) none) none) none) (by kernel_rfl) ?_
  simp only [G42n, m42_0]
noncomputable def G42 (a0 : List (C .e127)) : Option (List (C .e85)) := G42n fuel a0
noncomputable def con42 : Con C := mkC KK [.row .e127] [.row .e85] G42
theorem c42 : ConOk Tryz.prog KK 42 con42 := cO (mkQ ⟨c70, trivial⟩ trivial trivial : Cons Tryz.prog X42) (fn := Tryz.f42) (by kernel_rfl) (by kernel_rfl) (by kernel_rfl) (by kernel_rfl) (F42 fuel) (by kernel_rfl) (fun a0 => t42 fuel a0)
/-! ### f15 loop.example/wharfdesk/laws.toGateSlip -/
noncomputable def X15 : Cx C := mkX [(9, con9), (42, con42)] [] [] [] 983040
def F15 (n : Nat) : Cf := { N := n, keep := [0, 1, 2, 3], live := lk [] }
noncomputable abbrev dec15 := deR KK [.el .e56]
noncomputable def G15n (n : Nat) (a0 : VGateSlip) : Option (VGateSlip) :=
 Option.bind (G9 (⟨a0.Ask_Who, a0.Ask_Verb, a0.Ask_Kind, a0.Ask_Name, a0.Ask_Team, a0.Ask_Values, a0.Ask_Holds, a0.Ask_Seen, a0.Ask_Hold, a0.Ask_To, a0.Ask_Rule_Verbs, a0.Ask_Rule_Kind, a0.Ask_Rule_Team, a0.Ask_Rule_Prefix, a0.Ask_Number⟩ : VGateAsk)) fun r1 =>
 Option.bind (G42 a0.Wants) fun r2 =>
 some ((⟨a0.Door, r1.Who, r1.Verb, r1.Kind, r1.Name, r1.Team, r1.Values, r1.Holds, r1.Seen, r1.Hold, r1.To, r1.Rule_Verbs, r1.Rule_Kind, r1.Rule_Team, r1.Rule_Prefix, r1.Number, a0.Given, r2⟩ : VGateSlip))
theorem t15 (n : Nat) (a0 : VGateSlip) : runFn X15 (F15 n) Tryz.f15 [.agg [.str a0.Door, .str a0.Ask_Who, .int .i64 a0.Ask_Verb, .str a0.Ask_Kind, .str a0.Ask_Name, .str a0.Ask_Team, .row .e9 a0.Ask_Values, .row .e9 a0.Ask_Holds, .int .i64 a0.Ask_Seen, .str a0.Ask_Hold, .str a0.Ask_To, .row .e3 a0.Ask_Rule_Verbs, .str a0.Ask_Rule_Kind, .str a0.Ask_Rule_Team, .str a0.Ask_Rule_Prefix, .int .i64 a0.Ask_Number, .int .i64 a0.Given, .row .e127 a0.Wants]] dec15 = G15n n a0 := by
  kernel_rfl
noncomputable def G15 (a0 : VGateSlip) : Option (VGateSlip) := G15n fuel a0
noncomputable def con15 : Con C := mkC KK [.el .e51] [.el .e56] G15
theorem c15 : ConOk Tryz.prog KK 15 con15 := cO (mkQ ⟨c9, c42, trivial⟩ trivial trivial : Cons Tryz.prog X15) (fn := Tryz.f15) (by kernel_rfl) (by kernel_rfl) (by kernel_rfl) (by kernel_rfl) (F15 fuel) (by kernel_rfl) (fun a0 => t15 fuel a0)
/-! ### f16 loop.example/wharfdesk/impl.GateSlipOk -/
noncomputable def X16 : Cx C := mkX [(10, con10), (31, con31)] [] [] [] 1048576
def F16 (n : Nat) : Cf := { N := n, keep := [0, 1, 2, 3, 4, 6, 28, 30, 31, 32, 33, 50], live := lk [(0, [30, 31, 32])] }
noncomputable abbrev dec16 := deR KK [.bool]
abbrev A16_0 : Type := Int
section
variable (x0 : List (C .e85)) (x1 : Int)
def s16_0 : A16_0 → St C := fun x2 => { env := [(30, .one (.row .e85 x0)), (31, .one (.int .i64 x1)), (32, .one (.int .i64 x2))], objs := [], base := 0 }
end
noncomputable def r16_0 (x0 : List (C .e85)) (x1 : Int) (n : Nat)   (rec0 : A16_0 → Option (Bool)) : A16_0 → Option (Bool) := fun x2 =>
 cond (decide (x2 < x1))
 (cond (decide (0 ≤ x2)) (Option.bind x0[x2.toNat]? fun e3 => Option.bind (G31 e3.Kind) fun r4 =>
 cond (!r4)
 (some (false))
 (Option.bind (G31 e3.Name) fun r5 =>
 cond (!r5)
 (some (false))
 (cond (decide (e3.Version < 0))
 (some (false))
 (rec0 (IntKind.i64.wrap (x2 + 1)))))) none)
 (some (true))
section
variable (x0 : List (C .e85)) (x1 : Int)
noncomputable def MP16_0 (n : Nat)  (x : A16_0) : Option (Bool) := iter (fun rec S => run X16 (F16 n) (codeAt (bodyOf Tryz.f16) [1, 1, 0, 1, 0, 0]) 0 S (lopK rec (blkK 0 (seqK (run X16 (F16 n) (codeAt (bodyOf Tryz.f16) [1, 1, 1]) 0) (kTop X16 Tryz.f16 dec16))))) [30, 31, 32] n (s16_0 x0 x1 x)
theorem m16_0 (n : Nat)  (x : A16_0) : MP16_0 x0 x1 n  x = lpN (r16_0 x0 x1 n  ) n x := by
  refine iter_eq (s16_0 x0 x1) (r16_0 x0 x1 n  ) (fun rec0 x2 => ?_) n x
  kernel_rfl
end
noncomputable def G16n (n : Nat) (a0 : VGateLaw) (a1 : VGateSlip) : Option (Bool) :=
 Option.bind (G31 a1.Door) fun r1 =>
 cond (!r1)
 (some (false))
 (Option.bind (G10 a0 (⟨a1.Ask_Who, a1.Ask_Verb, a1.Ask_Kind, a1.Ask_Name, a1.Ask_Team, a1.Ask_Values, a1.Ask_Holds, a1.Ask_Seen, a1.Ask_Hold, a1.Ask_To, a1.Ask_Rule_Verbs, a1.Ask_Rule_Kind, a1.Ask_Rule_Team, a1.Ask_Rule_Prefix, a1.Ask_Number⟩ : VGateAsk)) fun r2 =>
 cond (!r2)
 (some (false))
 (cond (decide (a1.Given < 0))
 (some (false))
 (cond (decide ((a1.Wants.length : Int) > 8))
 (some (false))
 (lpN (r16_0 a1.Wants (a1.Wants.length : Int) n ) n 0))))
theorem t16 (n : Nat) (a0 : VGateLaw) (a1 : VGateSlip) : runFn X16 (F16 n) Tryz.f16 [.agg [.row .e105 a0.Shapes, .row .e110 a0.Mends, .row .e112 a0.Teams], .agg [.str a1.Door, .str a1.Ask_Who, .int .i64 a1.Ask_Verb, .str a1.Ask_Kind, .str a1.Ask_Name, .str a1.Ask_Team, .row .e9 a1.Ask_Values, .row .e9 a1.Ask_Holds, .int .i64 a1.Ask_Seen, .str a1.Ask_Hold, .str a1.Ask_To, .row .e3 a1.Ask_Rule_Verbs, .str a1.Ask_Rule_Kind, .str a1.Ask_Rule_Team, .str a1.Ask_Rule_Prefix, .int .i64 a1.Ask_Number, .int .i64 a1.Given, .row .e85 a1.Wants]] dec16 = G16n n a0 a1 := by
  refine Eq.trans (b :=
   Option.bind (G31 a1.Door) fun r1 =>
   cond (!r1)
   (some (false))
   (Option.bind (G10 a0 (⟨a1.Ask_Who, a1.Ask_Verb, a1.Ask_Kind, a1.Ask_Name, a1.Ask_Team, a1.Ask_Values, a1.Ask_Holds, a1.Ask_Seen, a1.Ask_Hold, a1.Ask_To, a1.Ask_Rule_Verbs, a1.Ask_Rule_Kind, a1.Ask_Rule_Team, a1.Ask_Rule_Prefix, a1.Ask_Number⟩ : VGateAsk)) fun r2 =>
   cond (!r2)
   (some (false))
   (cond (decide (a1.Given < 0))
   (some (false))
   (cond (decide ((a1.Wants.length : Int) > 8))
   (some (false))
   (MP16_0 a1.Wants (a1.Wants.length : Int) n   0))))) (by kernel_rfl) ?_
  simp only [G16n, m16_0]
noncomputable def G16 (a0 : VGateLaw) (a1 : VGateSlip) : Option (Bool) := G16n fuel a0 a1
noncomputable def con16 : Con C := mkC KK [.el .e40, .el .e56] [.bool] G16
theorem c16 : ConOk Tryz.prog KK 16 con16 := cO (mkQ ⟨c10, c31, trivial⟩ trivial trivial : Cons Tryz.prog X16) (fn := Tryz.f16) (by kernel_rfl) (by kernel_rfl) (by kernel_rfl) (by kernel_rfl) (F16 fuel) (by kernel_rfl) (fun a0 a1 => t16 fuel a0 a1)
/-! ### f71 loop.example/wharfdesk/laws.eqGateWant -/
noncomputable def X71 : Cx C := mkX [] [] [] [] 4653056
def F71 (n : Nat) : Cf := { N := n, keep := [0, 1, 2, 3, 4, 9, 14, 19], live := lk [] }
noncomputable abbrev dec71 := deR KK [.bool]
noncomputable def G71n (n : Nat) (a0 : VGateWant) (a1 : VGateWant) : Option (Bool) :=
 cond (!decide (a0.Kind = a1.Kind))
 (some (false))
 (cond (!decide (a0.Name = a1.Name))
 (some (false))
 (cond (a0.Version != a1.Version)
 (some (false))
 (some (true))))
theorem t71 (n : Nat) (a0 : VGateWant) (a1 : VGateWant) : runFn X71 (F71 n) Tryz.f71 [.agg [.str a0.Kind, .str a0.Name, .int .i64 a0.Version], .agg [.str a1.Kind, .str a1.Name, .int .i64 a1.Version]] dec71 = G71n n a0 a1 := by
  kernel_rfl
noncomputable def G71 (a0 : VGateWant) (a1 : VGateWant) : Option (Bool) := G71n fuel a0 a1
noncomputable def con71 : Con C := mkC KK [.el .e85, .el .e85] [.bool] G71
theorem c71 : ConOk Tryz.prog KK 71 con71 := cO (mkQ trivial trivial trivial : Cons Tryz.prog X71) (fn := Tryz.f71) (by kernel_rfl) (by kernel_rfl) (by kernel_rfl) (by kernel_rfl) (F71 fuel) (by kernel_rfl) (fun a0 a1 => t71 fuel a0 a1)
/-! ### f43 loop.example/wharfdesk/laws.eqGateWantS -/
noncomputable def X43 : Cx C := mkX [(71, con71)] [] [] [] 2818048
def F43 (n : Nat) : Cf := { N := n, keep := [0, 1, 4, 5, 10, 14, 26], live := lk [(0, [0, 1, 5])] }
noncomputable abbrev dec43 := deR KK [.bool]
abbrev A43_0 : Type := List (C .e85) × List (C .e85) × Int
def s43_0  : A43_0 → St C := fun (x0_0, x0_1, x0_2) => { env := [(0, .one (.row .e85 x0_0)), (1, .one (.row .e85 x0_1)), (5, .one (.int .i64 x0_2))], objs := [], base := 0 }
noncomputable def r43_0 (n : Nat)   (rec0 : A43_0 → Option (Bool)) : A43_0 → Option (Bool) := fun (x0_0, x0_1, x0_2) =>
 cond (decide (x0_2 < (x0_0.length : Int)))
 (cond (decide (0 ≤ x0_2)) (Option.bind x0_0[x0_2.toNat]? fun e1 => cond (decide (0 ≤ x0_2)) (Option.bind x0_1[x0_2.toNat]? fun e2 => Option.bind (G71 e1 e2) fun r3 =>
 cond (!r3)
 (some (false))
 (rec0 ((x0_0, x0_1, IntKind.i64.wrap (x0_2 + 1))))) none) none)
 (some (true))
noncomputable def LP43_0 (n : Nat)   (x : A43_0) : Option (Bool) := lpN (r43_0 n  ) n x
noncomputable def MP43_0 (n : Nat)   (x : A43_0) : Option (Bool) := iter (fun rec S => run X43 (F43 n) (codeAt (bodyOf Tryz.f43) [1, 1, 0, 1, 0, 0]) 0 S (lopK rec (blkK 0 (seqK (run X43 (F43 n) (codeAt (bodyOf Tryz.f43) [1, 1, 1]) 0) (kTop X43 Tryz.f43 dec43))))) [0, 1, 5] n (s43_0  x)
theorem m43_0 (n : Nat)   (x : A43_0) : MP43_0 n   x = LP43_0 n   x := by
  refine iter_eq (s43_0 ) (r43_0 n  ) (fun rec0 x => ?_) n x
  obtain ⟨x0_0, x0_1, x0_2⟩ := x
  kernel_rfl
noncomputable def G43n (n : Nat) (a0 : List (C .e85)) (a1 : List (C .e85)) : Option (Bool) :=
 cond ((a0.length : Int) != (a1.length : Int))
 (some (false))
 (LP43_0 n    (a0, a1, 0))
theorem t43 (n : Nat) (a0 : List (C .e85)) (a1 : List (C .e85)) : runFn X43 (F43 n) Tryz.f43 [.one (.row .e85 a0), .one (.row .e85 a1)] dec43 = G43n n a0 a1 := by
  refine Eq.trans (b :=
   cond ((a0.length : Int) != (a1.length : Int))
   (some (false))
   (MP43_0 n    (a0, a1, 0))) (by kernel_rfl) ?_
  simp only [G43n, m43_0]
noncomputable def G43 (a0 : List (C .e85)) (a1 : List (C .e85)) : Option (Bool) := G43n fuel a0 a1
noncomputable def con43 : Con C := mkC KK [.row .e85, .row .e85] [.bool] G43
theorem c43 : ConOk Tryz.prog KK 43 con43 := cO (mkQ ⟨c71, trivial⟩ trivial trivial : Cons Tryz.prog X43) (fn := Tryz.f43) (by kernel_rfl) (by kernel_rfl) (by kernel_rfl) (by kernel_rfl) (F43 fuel) (by kernel_rfl) (fun a0 a1 => t43 fuel a0 a1)
/-! ### f17 loop.example/wharfdesk/laws.eqGateSlip -/
noncomputable def X17 : Cx C := mkX [(12, con12), (43, con43)] [] [] [] 1114112
def F17 (n : Nat) : Cf := { N := n, keep := [0, 1, 2, 3, 4, 9, 15, 20, 26], live := lk [] }
noncomputable abbrev dec17 := deR KK [.bool]
noncomputable def G17n (n : Nat) (a0 : VGateSlip) (a1 : VGateSlip) : Option (Bool) :=
 cond (!decide (a0.Door = a1.Door))
 (some (false))
 (Option.bind (G12 (⟨a0.Ask_Who, a0.Ask_Verb, a0.Ask_Kind, a0.Ask_Name, a0.Ask_Team, a0.Ask_Values, a0.Ask_Holds, a0.Ask_Seen, a0.Ask_Hold, a0.Ask_To, a0.Ask_Rule_Verbs, a0.Ask_Rule_Kind, a0.Ask_Rule_Team, a0.Ask_Rule_Prefix, a0.Ask_Number⟩ : VGateAsk) (⟨a1.Ask_Who, a1.Ask_Verb, a1.Ask_Kind, a1.Ask_Name, a1.Ask_Team, a1.Ask_Values, a1.Ask_Holds, a1.Ask_Seen, a1.Ask_Hold, a1.Ask_To, a1.Ask_Rule_Verbs, a1.Ask_Rule_Kind, a1.Ask_Rule_Team, a1.Ask_Rule_Prefix, a1.Ask_Number⟩ : VGateAsk)) fun r1 =>
 cond (!r1)
 (some (false))
 (cond (a0.Given != a1.Given)
 (some (false))
 (Option.bind (G43 a0.Wants a1.Wants) fun r2 =>
 cond (!r2)
 (some (false))
 (some (true)))))
theorem t17 (n : Nat) (a0 : VGateSlip) (a1 : VGateSlip) : runFn X17 (F17 n) Tryz.f17 [.agg [.str a0.Door, .str a0.Ask_Who, .int .i64 a0.Ask_Verb, .str a0.Ask_Kind, .str a0.Ask_Name, .str a0.Ask_Team, .row .e9 a0.Ask_Values, .row .e9 a0.Ask_Holds, .int .i64 a0.Ask_Seen, .str a0.Ask_Hold, .str a0.Ask_To, .row .e3 a0.Ask_Rule_Verbs, .str a0.Ask_Rule_Kind, .str a0.Ask_Rule_Team, .str a0.Ask_Rule_Prefix, .int .i64 a0.Ask_Number, .int .i64 a0.Given, .row .e85 a0.Wants], .agg [.str a1.Door, .str a1.Ask_Who, .int .i64 a1.Ask_Verb, .str a1.Ask_Kind, .str a1.Ask_Name, .str a1.Ask_Team, .row .e9 a1.Ask_Values, .row .e9 a1.Ask_Holds, .int .i64 a1.Ask_Seen, .str a1.Ask_Hold, .str a1.Ask_To, .row .e3 a1.Ask_Rule_Verbs, .str a1.Ask_Rule_Kind, .str a1.Ask_Rule_Team, .str a1.Ask_Rule_Prefix, .int .i64 a1.Ask_Number, .int .i64 a1.Given, .row .e85 a1.Wants]] dec17 = G17n n a0 a1 := by
  kernel_rfl
noncomputable def G17 (a0 : VGateSlip) (a1 : VGateSlip) : Option (Bool) := G17n fuel a0 a1
noncomputable def con17 : Con C := mkC KK [.el .e56, .el .e56] [.bool] G17
theorem c17 : ConOk Tryz.prog KK 17 con17 := cO (mkQ ⟨c12, c43, trivial⟩ trivial trivial : Cons Tryz.prog X17) (fn := Tryz.f17) (by kernel_rfl) (by kernel_rfl) (by kernel_rfl) (by kernel_rfl) (F17 fuel) (by kernel_rfl) (fun a0 a1 => t17 fuel a0 a1)
/-! ### f4 loop.example/wharfdesk/laws.FnExactGateSlipOk -/
noncomputable def X4 : Cx C := mkX [(5, con5), (8, con8), (11, con11), (13, con13), (14, con14), (15, con15), (16, con16), (17, con17)] [] [] [] 262144
def F4 (n : Nat) : Cf := { N := n, keep := [0, 1, 2, 3, 4, 5, 6, 7, 8, 9, 14, 19, 34, 39, 44], live := lk [] }
noncomputable abbrev dec4 := deR KK [.bool]
noncomputable def G4n (n : Nat) (a0 : VGateLaw) (a1 : VGateSlip) : Option (Bool) :=
 Option.bind (G5 a0 1048576) fun r1 =>
 cond (decide (r1 < 0))
 (some (true))
 (Option.bind (G13 a1 r1) fun r2 =>
 cond (decide (r2 < 0))
 (some (true))
 (Option.bind (G8 a0) fun r3 =>
 Option.bind (G15 a1) fun r4 =>
 Option.bind (G14 r3 r4) fun r5 =>
 Option.bind (G8 a0) fun r6 =>
 Option.bind (G15 a1) fun r7 =>
 Option.bind (G16 r6 r7) fun r8 =>
 cond (!(r8 == r5))
 (some (false))
 (Option.bind (G8 a0) fun r9 =>
 Option.bind (G11 r6 r9) fun r10 =>
 cond (!r10)
 (some (false))
 (Option.bind (G15 a1) fun r11 =>
 Option.bind (G17 r7 r11) fun r12 =>
 cond (!r12)
 (some (false))
 (some (true))))))
theorem t4 (n : Nat) (a0 : VGateLaw) (a1 : VGateSlip) : runFn X4 (F4 n) Tryz.f4 [.agg [.row .e90 a0.Shapes, .row .e93 a0.Mends, .row .e96 a0.Teams], .agg [.str a1.Door, .str a1.Ask_Who, .int .i64 a1.Ask_Verb, .str a1.Ask_Kind, .str a1.Ask_Name, .str a1.Ask_Team, .row .e9 a1.Ask_Values, .row .e9 a1.Ask_Holds, .int .i64 a1.Ask_Seen, .str a1.Ask_Hold, .str a1.Ask_To, .row .e3 a1.Ask_Rule_Verbs, .str a1.Ask_Rule_Kind, .str a1.Ask_Rule_Team, .str a1.Ask_Rule_Prefix, .int .i64 a1.Ask_Number, .int .i64 a1.Given, .row .e127 a1.Wants]] dec4 = G4n n a0 a1 := by
  kernel_rfl
noncomputable def G4 (a0 : VGateLaw) (a1 : VGateSlip) : Option (Bool) := G4n fuel a0 a1
noncomputable def con4 : Con C := mkC KK [.el .e26, .el .e51] [.bool] G4
theorem c4 : ConOk Tryz.prog KK 4 con4 := cO (mkQ ⟨c5, c8, c11, c13, c14, c15, c16, c17, trivial⟩ trivial trivial : Cons Tryz.prog X4) (fn := Tryz.f4) (by kernel_rfl) (by kernel_rfl) (by kernel_rfl) (by kernel_rfl) (F4 fuel) (by kernel_rfl) (fun a0 a1 => t4 fuel a0 a1)

end Go.Proofs.YtjodpeldfebhfaaGreat.Ab

/- Loops told place by place; numbers that do not overflow. -/
set_option linter.unusedVariables false
set_option linter.unusedSimpArgs false
namespace Go.Proofs.YtjodpeldfebhfaaGreat.Ab
open Go Go.RowKit

theorem wrap_id {n : Int} (h0 : -9223372036854775808 ≤ n) (h1 : n < 9223372036854775808) : IntKind.i64.wrap n = n := by
  simp [IntKind.wrap, IntKind.bits, IntKind.signed]
  omega

theorem lp_open {A R : Type} {rnd : (A → Option R) → A → Option R} {n : Nat} {x : A} (h : 0 < n) : lpN rnd n x = rnd (lpN rnd (n - 1)) x := by
  obtain ⟨m, rfl⟩ : ∃ k, n = k + 1 := ⟨n - 1, by omega⟩
  rfl
def allN (p : Nat → Bool) (len i : Nat) : Bool := (List.range' i (len - i)).all p
theorem allN_step {p : Nat → Bool} {len i : Nat} (h : i < len) : allN p len i = (p i && allN p len (i + 1)) := by
  unfold allN
  rw [show len - i = (len - (i + 1)) + 1 by omega, List.range'_succ]
  rfl
theorem allN_end (p : Nat → Bool) (len : Nat) : allN p len len = true := by simp [allN]
theorem wrap_pred {i : Nat} (h : 0 < i) (h2 : i < 4611686018427387904) : IntKind.i64.wrap ((i : Int) - 1) = ((i - 1 : Nat) : Int) := by
  rw [wrap_id (by omega) (by omega)]; omega

theorem fuel_big : 1152921504606846976 ≤ fuel := by unfold fuel; omega
theorem alt_self {R : Type} (a : Option R) : alt a a = a := by
  unfold alt
  cases a <;> simp
theorem wrap_nat {i : Nat} (h : i < 4611686018427387904) : IntKind.i64.wrap ((i : Int) + 1) = ((i + 1 : Nat) : Int) := by
  rw [wrap_id (by omega) (by omega)]; rfl
theorem lp_succ {A R : Type} (rnd : (A → Option R) → A → Option R) (n : Nat) (x : A) : lpN rnd (n + 1) x = rnd (lpN rnd n) x := rfl
/-- A loop over places, its state told place by place. -/
theorem lp_idx {A R : Type} {rnd : (A → Option R) → A → Option R} (st : Nat → A) (val : Nat → Option R) (len : Nat) (hend : ∀ rec, rnd rec (st len) = val len) (hstep : ∀ rec i, i < len → rec (st (i + 1)) = val (i + 1) → rnd rec (st i) = val i) :
    ∀ n i, i ≤ len → len - i < n → lpN rnd n (st i) = val i := by
  intro n
  induction n with
  | zero => intro i _ h; omega
  | succ n ih =>
    intro i hi hn
    rw [lp_succ]
    rcases Nat.lt_or_ge i len with h | h
    · exact hstep _ i h (ih (i + 1) (by omega) (by omega))
    · have e : i = len := by omega
      subst e
      exact hend _
theorem get_cast {α : Type} {xs : List α} {i : Nat} (h : i < xs.length) : xs[((i : Int)).toNat]? = some xs[i] := by simp [h]


end Go.Proofs.YtjodpeldfebhfaaGreat.Ab

/- The plain law: what is marked is held; what is compared with itself is alike. Printed out of the types. -/
set_option linter.unusedVariables false
set_option linter.unusedSimpArgs false
set_option maxRecDepth 10000
namespace Go.Proofs.YtjodpeldfebhfaaGreat.Ab
open Go Go.RowKit

theorem fuel_big2 : 2305843009213693952 ≤ fuel := by unfold fuel; omega
theorem len_sum {α : Type} {w : α → Nat} (h : ∀ x, 1 ≤ w x) : ∀ xs : List α, xs.length ≤ (xs.map w).sum
  | [] => Nat.le_refl _
  | x :: t => by have := len_sum h t; have := h x; simp only [List.length_cons, List.map_cons, List.sum_cons]; omega
theorem sum_get {α : Type} {w : α → Nat} : ∀ {xs : List α} {i : Nat} (hi : i < xs.length), w xs[i] ≤ (xs.map w).sum
  | [], _, h => by simp at h
  | x :: t, 0, _ => by simp
  | x :: t, i + 1, h => by
    have := sum_get (w := w) (xs := t) (i := i) (by simpa using h)
    simp only [List.getElem_cons_succ, List.map_cons, List.sum_cons]; omega
theorem sum_drop {α : Type} {w : α → Nat} {xs : List α} {i : Nat} (hi : i < xs.length) : ((xs.drop i).map w).sum = w xs[i] + ((xs.drop (i + 1)).map w).sum := by
  rw [List.drop_eq_getElem_cons hi, List.map_cons, List.sum_cons]
inductive HC {α : Type} (gm : α → Int → Int → Prop) (ys : List α) : Nat → Int → Int → Prop
  | done (k) : HC gm ys ys.length k k
  | step {i k k1 k'} (hi : i < ys.length) (h : gm ys[i] k k1) (h0 : 0 ≤ k) (r : HC gm ys (i + 1) k1 k') : HC gm ys i k k'
theorem held_lp {α : Type} {gm : α → Int → Int → Prop} {ys : List α} {rnd : (List α × Int × Int → Option Int) → List α × Int × Int → Option Int}
    (hend : ∀ rec k, rnd rec (ys, k, (ys.length : Int)) = some k)
    (hstep : ∀ rec i (hi : i < ys.length) k k1, gm ys[i] k k1 → 0 ≤ k → rnd rec (ys, k, (i : Int)) = rec (ys, k1, ((i + 1 : Nat) : Int)))
    {i : Nat} {k k' : Int} (h : HC gm ys i k k') : ∀ n, ys.length - i < n → lpN rnd n (ys, k, (i : Int)) = some k' := by
  induction h with
  | done k => intro n hn; rw [lp_open (by omega)]; exact hend _ _
  | @step i k k1 k' hi hm h0 _ ih =>
    intro n hn
    rw [lp_open (by omega), hstep _ i hi k k1 hm h0]
    exact ih _ (by omega)
theorem mark_lp {α : Type} {w : α → Nat} {gm : α → Int → Int → Prop} {rnd : (List α × Int × Int → Option (List α × Int)) → List α × Int × Int → Option (List α × Int)}
    (hend : ∀ rec (zs : List α) k, rnd rec (zs, k, (zs.length : Int)) = some (zs, k))
    (hstep : ∀ (zs : List α) i (hi : i < zs.length) k, zs.length ≤ 1152921504606846976 → 0 ≤ k → k + (w zs[i] : Int) ≤ 1152921504606846976 → ∃ y, (∀ rec, rnd rec (zs, k, (i : Int)) = rec (zs.set i y, k + (w zs[i] : Int), ((i + 1 : Nat) : Int))) ∧ gm y k (k + (w zs[i] : Int))) :
    ∀ n i (zs : List α) k, zs.length ≤ 1152921504606846976 → i ≤ zs.length → zs.length - i < n → 0 ≤ k → k + ((((zs.drop i).map w).sum : Nat) : Int) ≤ 1152921504606846976 → ∃ ys, lpN rnd n (zs, k, (i : Int)) = some (ys, k + ((((zs.drop i).map w).sum : Nat) : Int)) ∧ ys.length = zs.length ∧ (∀ j, j < i → ys[j]? = zs[j]?) ∧ HC gm ys i k (k + ((((zs.drop i).map w).sum : Nat) : Int)) := by
  intro n
  induction n with
  | zero => intro i zs k _ _ h; omega
  | succ n ih =>
    intro i zs k hl hi hn h0 hk
    rw [lp_succ]
    rcases Nat.lt_or_ge i zs.length with h | h
    · rw [sum_drop h] at hk ⊢
      obtain ⟨y, e, g⟩ := hstep zs i h k hl h0 (by omega)
      rw [e]
      have hd : (zs.set i y).drop (i + 1) = zs.drop (i + 1) := by rw [List.drop_set_of_lt (by omega)]
      obtain ⟨ys, e, e1, e2, e3⟩ := ih (i + 1) (zs.set i y) (k + (w zs[i] : Int)) (by rw [List.length_set]; omega) (by rw [List.length_set]; omega) (by rw [List.length_set]; omega) (by omega) (by rw [hd]; omega)
      rw [hd] at e e3
      rw [List.length_set] at e1
      have ek : k + (w zs[i] : Int) + ((((zs.drop (i + 1)).map w).sum : Nat) : Int) = k + ((w zs[i] + ((zs.drop (i + 1)).map w).sum : Nat) : Int) := by omega
      rw [ek] at e e3
      refine ⟨ys, e, e1, fun j hj => ?_, ?_⟩
      · rw [e2 j (by omega), List.getElem?_set_ne (by omega)]
      · have hy := e2 i (by omega)
        rw [List.getElem?_set_self h] at hy
        have hi' : i < ys.length := by omega
        rw [List.getElem?_eq_getElem hi'] at hy
        refine HC.step hi' ?_ h0 e3
        rw [Option.some.inj hy]
        exact g
    · obtain rfl : i = zs.length := by omega
      rw [hend]
      have e0 : k + ((((zs.drop zs.length).map w).sum : Nat) : Int) = k := by simp
      rw [e0]
      exact ⟨zs, rfl, rfl, fun _ _ => rfl, HC.done _⟩
theorem mark_both {α : Type} {w : α → Nat} {gm : α → Int → Int → Prop} {rm : (List α × Int × Int → Option (List α × Int)) → List α × Int × Int → Option (List α × Int)} {rh : (List α × Int × Int → Option Int) → List α × Int × Int → Option Int}
    (hw : ∀ x, 1 ≤ w x)
    (hend : ∀ rec (zs : List α) k, rm rec (zs, k, (zs.length : Int)) = some (zs, k))
    (hstep : ∀ (zs : List α) i (hi : i < zs.length) k, zs.length ≤ 1152921504606846976 → 0 ≤ k → k + (w zs[i] : Int) ≤ 1152921504606846976 → ∃ y, (∀ rec, rm rec (zs, k, (i : Int)) = rec (zs.set i y, k + (w zs[i] : Int), ((i + 1 : Nat) : Int))) ∧ gm y k (k + (w zs[i] : Int)))
    (hend2 : ∀ rec (ys : List α) k, rh rec (ys, k, (ys.length : Int)) = some k)
    (hstep2 : ∀ rec (ys : List α) i (hi : i < ys.length) k k1, ys.length ≤ 1152921504606846976 → gm ys[i] k k1 → 0 ≤ k → rh rec (ys, k, (i : Int)) = rec (ys, k1, ((i + 1 : Nat) : Int)))
    {xs : List α} {k : Int} (h0 : 0 ≤ k) (hk : k + (((xs.map w).sum : Nat) : Int) ≤ 1152921504606846976) :
    ∃ ys, lpN rm fuel (xs, k, 0) = some (ys, k + (((xs.map w).sum : Nat) : Int)) ∧ lpN rh fuel (ys, k, 0) = some (k + (((xs.map w).sum : Nat) : Int)) := by
  have hl := len_sum hw xs
  obtain ⟨ys, e, e1, _, e3⟩ := mark_lp hend hstep fuel 0 xs k (by omega) (Nat.zero_le _) (by have := fuel_big2; omega) h0 (by simpa using hk)
  refine ⟨ys, e, ?_⟩
  exact held_lp (fun rec k => hend2 rec ys k) (fun rec i hi k k1 g h0 => hstep2 rec ys i hi k k1 (by omega) g h0) e3 fuel (by have := fuel_big2; omega)
theorem eq_lp {α : Type} {xs : List α} {rnd : (List α × List α × Int → Option Bool) → List α × List α × Int → Option Bool}
    (hl : xs.length ≤ 1152921504606846976)
    (hend : ∀ rec, rnd rec (xs, xs, (xs.length : Int)) = some true)
    (hstep : ∀ rec i (hi : i < xs.length), rnd rec (xs, xs, (i : Int)) = rec (xs, xs, ((i + 1 : Nat) : Int))) : lpN rnd fuel (xs, xs, 0) = some true :=
  lp_idx (st := fun i => (xs, xs, (i : Int))) (val := fun _ => some true) xs.length hend (fun rec i hi hr => by rw [hstep rec i hi]; exact hr) fuel 0 (Nat.zero_le _) (by have := fuel_big2; omega)

def w_String (_ : ByteArray) : Nat := 1
def w_StringS (xs : List ByteArray) : Nat := (xs.map w_String).sum
theorem w_String_pos (x : ByteArray) : 1 ≤ w_String x := by unfold w_String; omega
theorem w_StringS_len (xs : List ByteArray) : xs.length ≤ w_StringS xs := len_sum w_String_pos xs
theorem eq_StringS {xs : List ByteArray} (h : w_StringS xs ≤ 1152921504606846976) : G38 xs xs = some true := by
  have hl := w_StringS_len xs
  unfold G38 G38n
  simp only [bne_self_eq_false, cond_false]
  refine eq_lp (rnd := r38_0 fuel) (by omega) (fun rec => by simp [r38_0]) (fun rec i hi => ?_)
  have hw := wrap_nat (i := i) (by omega)
  have h1 : (i : Int) < (xs.length : Int) := by omega
  simp only [r38_0]
  rw [get_cast hi, hw]
  simp only [h1, decide_true, cond_true, Int.natCast_nonneg, Option.bind_some, bne_self_eq_false, Bool.not_true, cond_false]
def w_GateField (x : VGateField) : Nat := 10 + w_StringS x.Words
def w_GateFieldS (xs : List VGateField) : Nat := (xs.map w_GateField).sum
theorem w_GateField_pos (x : VGateField) : 1 ≤ w_GateField x := by unfold w_GateField; omega
theorem w_GateFieldS_len (xs : List VGateField) : xs.length ≤ w_GateFieldS xs := len_sum w_GateField_pos xs
theorem eq_GateField {x : VGateField} (h : w_GateField x ≤ 1152921504606846976) : G101 x x = some true := by
  unfold w_GateField at h
  simp only [G11, G11n, G12, G12n, G17, G17n, G39, G39n, G65, G65n, G66, G66n, G67, G67n, G71, G71n, G101, G101n, eq_StringS (xs := x.Words) (by omega), bne_self_eq_false, cond_false, decide_true, Bool.not_true, Option.bind_some, beq_self_eq_true]
theorem eq_GateFieldS {xs : List VGateField} (h : w_GateFieldS xs ≤ 1152921504606846976) : G85 xs xs = some true := by
  have hl := w_GateFieldS_len xs
  unfold G85 G85n
  simp only [bne_self_eq_false, cond_false]
  refine eq_lp (rnd := r85_0 fuel) (by omega) (fun rec => by simp [r85_0]) (fun rec i hi => ?_)
  have hw := wrap_nat (i := i) (by omega)
  have h1 : (i : Int) < (xs.length : Int) := by omega
  have he := eq_GateField (x := xs[i]) (by have := sum_get (w := w_GateField) hi; unfold w_GateFieldS at h; omega)
  simp only [r85_0]
  rw [get_cast hi, hw]
  simp only [h1, decide_true, cond_true, Int.natCast_nonneg, Option.bind_some, bne_self_eq_false, Bool.not_true, cond_false, he]
def w_GateShape (x : VGateShape) : Nat := 1 + w_GateFieldS x.Fields
def w_GateShapeS (xs : List VGateShape) : Nat := (xs.map w_GateShape).sum
theorem w_GateShape_pos (x : VGateShape) : 1 ≤ w_GateShape x := by unfold w_GateShape; omega
theorem w_GateShapeS_len (xs : List VGateShape) : xs.length ≤ w_GateShapeS xs := len_sum w_GateShape_pos xs
theorem eq_GateShape {x : VGateShape} (h : w_GateShape x ≤ 1152921504606846976) : G65 x x = some true := by
  unfold w_GateShape at h
  simp only [G11, G11n, G12, G12n, G17, G17n, G39, G39n, G65, G65n, G66, G66n, G67, G67n, G71, G71n, G101, G101n, eq_GateFieldS (xs := x.Fields) (by omega), bne_self_eq_false, cond_false, decide_true, Bool.not_true, Option.bind_some, beq_self_eq_true]
theorem eq_GateShapeS {xs : List VGateShape} (h : w_GateShapeS xs ≤ 1152921504606846976) : G35 xs xs = some true := by
  have hl := w_GateShapeS_len xs
  unfold G35 G35n
  simp only [bne_self_eq_false, cond_false]
  refine eq_lp (rnd := r35_0 fuel) (by omega) (fun rec => by simp [r35_0]) (fun rec i hi => ?_)
  have hw := wrap_nat (i := i) (by omega)
  have h1 : (i : Int) < (xs.length : Int) := by omega
  have he := eq_GateShape (x := xs[i]) (by have := sum_get (w := w_GateShape) hi; unfold w_GateShapeS at h; omega)
  simp only [r35_0]
  rw [get_cast hi, hw]
  simp only [h1, decide_true, cond_true, Int.natCast_nonneg, Option.bind_some, bne_self_eq_false, Bool.not_true, cond_false, he]
def w_GateMend (x : VGateMend) : Nat := 6
def w_GateMendS (xs : List VGateMend) : Nat := (xs.map w_GateMend).sum
theorem w_GateMend_pos (x : VGateMend) : 1 ≤ w_GateMend x := by unfold w_GateMend; omega
theorem w_GateMendS_len (xs : List VGateMend) : xs.length ≤ w_GateMendS xs := len_sum w_GateMend_pos xs
theorem eq_GateMend {x : VGateMend} (h : w_GateMend x ≤ 1152921504606846976) : G66 x x = some true := by
  unfold w_GateMend at h
  simp only [G11, G11n, G12, G12n, G17, G17n, G39, G39n, G65, G65n, G66, G66n, G67, G67n, G71, G71n, G101, G101n, bne_self_eq_false, cond_false, decide_true, Bool.not_true, Option.bind_some, beq_self_eq_true]
theorem eq_GateMendS {xs : List VGateMend} (h : w_GateMendS xs ≤ 1152921504606846976) : G36 xs xs = some true := by
  have hl := w_GateMendS_len xs
  unfold G36 G36n
  simp only [bne_self_eq_false, cond_false]
  refine eq_lp (rnd := r36_0 fuel) (by omega) (fun rec => by simp [r36_0]) (fun rec i hi => ?_)
  have hw := wrap_nat (i := i) (by omega)
  have h1 : (i : Int) < (xs.length : Int) := by omega
  have he := eq_GateMend (x := xs[i]) (by have := sum_get (w := w_GateMend) hi; unfold w_GateMendS at h; omega)
  simp only [r36_0]
  rw [get_cast hi, hw]
  simp only [h1, decide_true, cond_true, Int.natCast_nonneg, Option.bind_some, bne_self_eq_false, Bool.not_true, cond_false, he]
def w_GateTeam (x : VGateTeam) : Nat := 2
def w_GateTeamS (xs : List VGateTeam) : Nat := (xs.map w_GateTeam).sum
theorem w_GateTeam_pos (x : VGateTeam) : 1 ≤ w_GateTeam x := by unfold w_GateTeam; omega
theorem w_GateTeamS_len (xs : List VGateTeam) : xs.length ≤ w_GateTeamS xs := len_sum w_GateTeam_pos xs
theorem eq_GateTeam {x : VGateTeam} (h : w_GateTeam x ≤ 1152921504606846976) : G67 x x = some true := by
  unfold w_GateTeam at h
  simp only [G11, G11n, G12, G12n, G17, G17n, G39, G39n, G65, G65n, G66, G66n, G67, G67n, G71, G71n, G101, G101n, bne_self_eq_false, cond_false, decide_true, Bool.not_true, Option.bind_some, beq_self_eq_true]
theorem eq_GateTeamS {xs : List VGateTeam} (h : w_GateTeamS xs ≤ 1152921504606846976) : G37 xs xs = some true := by
  have hl := w_GateTeamS_len xs
  unfold G37 G37n
  simp only [bne_self_eq_false, cond_false]
  refine eq_lp (rnd := r37_0 fuel) (by omega) (fun rec => by simp [r37_0]) (fun rec i hi => ?_)
  have hw := wrap_nat (i := i) (by omega)
  have h1 : (i : Int) < (xs.length : Int) := by omega
  have he := eq_GateTeam (x := xs[i]) (by have := sum_get (w := w_GateTeam) hi; unfold w_GateTeamS at h; omega)
  simp only [r37_0]
  rw [get_cast hi, hw]
  simp only [h1, decide_true, cond_true, Int.natCast_nonneg, Option.bind_some, bne_self_eq_false, Bool.not_true, cond_false, he]
def w_GateWant (x : VGateWant) : Nat := 3
def w_GateWantS (xs : List VGateWant) : Nat := (xs.map w_GateWant).sum
theorem w_GateWant_pos (x : VGateWant) : 1 ≤ w_GateWant x := by unfold w_GateWant; omega
theorem w_GateWantS_len (xs : List VGateWant) : xs.length ≤ w_GateWantS xs := len_sum w_GateWant_pos xs
theorem eq_GateWant {x : VGateWant} (h : w_GateWant x ≤ 1152921504606846976) : G71 x x = some true := by
  unfold w_GateWant at h
  simp only [G11, G11n, G12, G12n, G17, G17n, G39, G39n, G65, G65n, G66, G66n, G67, G67n, G71, G71n, G101, G101n, bne_self_eq_false, cond_false, decide_true, Bool.not_true, Option.bind_some, beq_self_eq_true]
theorem eq_GateWantS {xs : List VGateWant} (h : w_GateWantS xs ≤ 1152921504606846976) : G43 xs xs = some true := by
  have hl := w_GateWantS_len xs
  unfold G43 G43n
  simp only [bne_self_eq_false, cond_false]
  refine eq_lp (rnd := r43_0 fuel) (by omega) (fun rec => by simp [r43_0]) (fun rec i hi => ?_)
  have hw := wrap_nat (i := i) (by omega)
  have h1 : (i : Int) < (xs.length : Int) := by omega
  have he := eq_GateWant (x := xs[i]) (by have := sum_get (w := w_GateWant) hi; unfold w_GateWantS at h; omega)
  simp only [r43_0]
  rw [get_cast hi, hw]
  simp only [h1, decide_true, cond_true, Int.natCast_nonneg, Option.bind_some, bne_self_eq_false, Bool.not_true, cond_false, he]
def w_Int (_ : Int) : Nat := 1
def w_IntS (xs : List Int) : Nat := (xs.map w_Int).sum
theorem w_Int_pos (x : Int) : 1 ≤ w_Int x := by unfold w_Int; omega
theorem w_IntS_len (xs : List Int) : xs.length ≤ w_IntS xs := len_sum w_Int_pos xs
theorem eq_IntS {xs : List Int} (h : w_IntS xs ≤ 1152921504606846976) : G68 xs xs = some true := by
  have hl := w_IntS_len xs
  unfold G68 G68n
  simp only [bne_self_eq_false, cond_false]
  refine eq_lp (rnd := r68_0 fuel) (by omega) (fun rec => by simp [r68_0]) (fun rec i hi => ?_)
  have hw := wrap_nat (i := i) (by omega)
  have h1 : (i : Int) < (xs.length : Int) := by omega
  simp only [r68_0]
  rw [get_cast hi, hw]
  simp only [h1, decide_true, cond_true, Int.natCast_nonneg, Option.bind_some, bne_self_eq_false, Bool.not_true, cond_false]
end Go.Proofs.YtjodpeldfebhfaaGreat.Ab

/- A codec, printed by codec.py: what a kind tells. -/
set_option linter.unusedVariables false
namespace Go.Proofs.YtjodpeldfebhfaaGreat.Ab
open Go Go.RowKit
theorem ek3 : ∀ ls : List (Lf C), kindsB [.int .i64] ls = true → ∃ x, d3 ls = some x := by
  intro ls0 g0
  obtain ⟨l0, ls1, rfl, h0, g1⟩ := kinds_cons g0
  obtain ⟨x0, rfl⟩ := kind_int h0
  obtain rfl := kinds_nil g1
  exact ⟨_, rfl⟩
theorem ek9 : ∀ ls : List (Lf C), kindsB [.str] ls = true → ∃ x, d9 ls = some x := by
  intro ls0 g0
  obtain ⟨l0, ls1, rfl, h0, g1⟩ := kinds_cons g0
  obtain ⟨x0, rfl⟩ := kind_str h0
  obtain rfl := kinds_nil g1
  exact ⟨_, rfl⟩
theorem ek26 : ∀ ls : List (Lf C), kindsB [.sli .e90, .sli .e93, .sli .e96] ls = true → ∃ x, d26 ls = some x := by
  intro ls0 g0
  obtain ⟨l0, ls1, rfl, h0, g1⟩ := kinds_cons g0
  obtain ⟨x0, rfl⟩ := kind_sli h0
  obtain ⟨l1, ls2, rfl, h1, g2⟩ := kinds_cons g1
  obtain ⟨x1, rfl⟩ := kind_sli h1
  obtain ⟨l2, ls3, rfl, h2, g3⟩ := kinds_cons g2
  obtain ⟨x2, rfl⟩ := kind_sli h2
  obtain rfl := kinds_nil g3
  exact ⟨_, rfl⟩
theorem ek30 : ∀ ls : List (Lf C), kindsB [.sli .e3, .str, .str, .str] ls = true → ∃ x, d30 ls = some x := by
  intro ls0 g0
  obtain ⟨l0, ls1, rfl, h0, g1⟩ := kinds_cons g0
  obtain ⟨x0, rfl⟩ := kind_sli h0
  obtain ⟨l1, ls2, rfl, h1, g2⟩ := kinds_cons g1
  obtain ⟨x1, rfl⟩ := kind_str h1
  obtain ⟨l2, ls3, rfl, h2, g3⟩ := kinds_cons g2
  obtain ⟨x2, rfl⟩ := kind_str h2
  obtain ⟨l3, ls4, rfl, h3, g4⟩ := kinds_cons g3
  obtain ⟨x3, rfl⟩ := kind_str h3
  obtain rfl := kinds_nil g4
  exact ⟨_, rfl⟩
theorem ek32 : ∀ ls : List (Lf C), kindsB [.str, .int .i64, .str, .str, .str, .sli .e9, .sli .e9, .int .i64, .str, .str, .sli .e3, .str, .str, .str, .int .i64] ls = true → ∃ x, d32 ls = some x := by
  intro ls0 g0
  obtain ⟨l0, ls1, rfl, h0, g1⟩ := kinds_cons g0
  obtain ⟨x0, rfl⟩ := kind_str h0
  obtain ⟨l1, ls2, rfl, h1, g2⟩ := kinds_cons g1
  obtain ⟨x1, rfl⟩ := kind_int h1
  obtain ⟨l2, ls3, rfl, h2, g3⟩ := kinds_cons g2
  obtain ⟨x2, rfl⟩ := kind_str h2
  obtain ⟨l3, ls4, rfl, h3, g4⟩ := kinds_cons g3
  obtain ⟨x3, rfl⟩ := kind_str h3
  obtain ⟨l4, ls5, rfl, h4, g5⟩ := kinds_cons g4
  obtain ⟨x4, rfl⟩ := kind_str h4
  obtain ⟨l5, ls6, rfl, h5, g6⟩ := kinds_cons g5
  obtain ⟨x5, rfl⟩ := kind_sli h5
  obtain ⟨l6, ls7, rfl, h6, g7⟩ := kinds_cons g6
  obtain ⟨x6, rfl⟩ := kind_sli h6
  obtain ⟨l7, ls8, rfl, h7, g8⟩ := kinds_cons g7
  obtain ⟨x7, rfl⟩ := kind_int h7
  obtain ⟨l8, ls9, rfl, h8, g9⟩ := kinds_cons g8
  obtain ⟨x8, rfl⟩ := kind_str h8
  obtain ⟨l9, ls10, rfl, h9, g10⟩ := kinds_cons g9
  obtain ⟨x9, rfl⟩ := kind_str h9
  obtain ⟨l10, ls11, rfl, h10, g11⟩ := kinds_cons g10
  obtain ⟨x10, rfl⟩ := kind_sli h10
  obtain ⟨l11, ls12, rfl, h11, g12⟩ := kinds_cons g11
  obtain ⟨x11, rfl⟩ := kind_str h11
  obtain ⟨l12, ls13, rfl, h12, g13⟩ := kinds_cons g12
  obtain ⟨x12, rfl⟩ := kind_str h12
  obtain ⟨l13, ls14, rfl, h13, g14⟩ := kinds_cons g13
  obtain ⟨x13, rfl⟩ := kind_str h13
  obtain ⟨l14, ls15, rfl, h14, g15⟩ := kinds_cons g14
  obtain ⟨x14, rfl⟩ := kind_int h14
  obtain rfl := kinds_nil g15
  exact ⟨_, rfl⟩
theorem ek36 : ∀ ls : List (Lf C), kindsB [.sli .e105] ls = true → ∃ x, d36 ls = some x := by
  intro ls0 g0
  obtain ⟨l0, ls1, rfl, h0, g1⟩ := kinds_cons g0
  obtain ⟨x0, rfl⟩ := kind_sli h0
  obtain rfl := kinds_nil g1
  exact ⟨_, rfl⟩
theorem ek37 : ∀ ls : List (Lf C), kindsB [.sli .e110] ls = true → ∃ x, d37 ls = some x := by
  intro ls0 g0
  obtain ⟨l0, ls1, rfl, h0, g1⟩ := kinds_cons g0
  obtain ⟨x0, rfl⟩ := kind_sli h0
  obtain rfl := kinds_nil g1
  exact ⟨_, rfl⟩
theorem ek40 : ∀ ls : List (Lf C), kindsB [.sli .e105, .sli .e110, .sli .e112] ls = true → ∃ x, d40 ls = some x := by
  intro ls0 g0
  obtain ⟨l0, ls1, rfl, h0, g1⟩ := kinds_cons g0
  obtain ⟨x0, rfl⟩ := kind_sli h0
  obtain ⟨l1, ls2, rfl, h1, g2⟩ := kinds_cons g1
  obtain ⟨x1, rfl⟩ := kind_sli h1
  obtain ⟨l2, ls3, rfl, h2, g3⟩ := kinds_cons g2
  obtain ⟨x2, rfl⟩ := kind_sli h2
  obtain rfl := kinds_nil g3
  exact ⟨_, rfl⟩
theorem ek42 : ∀ ls : List (Lf C), kindsB [.sli .e3, .str, .str, .str] ls = true → ∃ x, d42 ls = some x := by
  intro ls0 g0
  obtain ⟨l0, ls1, rfl, h0, g1⟩ := kinds_cons g0
  obtain ⟨x0, rfl⟩ := kind_sli h0
  obtain ⟨l1, ls2, rfl, h1, g2⟩ := kinds_cons g1
  obtain ⟨x1, rfl⟩ := kind_str h1
  obtain ⟨l2, ls3, rfl, h2, g3⟩ := kinds_cons g2
  obtain ⟨x2, rfl⟩ := kind_str h2
  obtain ⟨l3, ls4, rfl, h3, g4⟩ := kinds_cons g3
  obtain ⟨x3, rfl⟩ := kind_str h3
  obtain rfl := kinds_nil g4
  exact ⟨_, rfl⟩
theorem ek44 : ∀ ls : List (Lf C), kindsB [.str, .int .i64, .str, .str, .str, .sli .e9, .sli .e9, .int .i64, .str, .str, .sli .e3, .str, .str, .str, .int .i64] ls = true → ∃ x, d44 ls = some x := by
  intro ls0 g0
  obtain ⟨l0, ls1, rfl, h0, g1⟩ := kinds_cons g0
  obtain ⟨x0, rfl⟩ := kind_str h0
  obtain ⟨l1, ls2, rfl, h1, g2⟩ := kinds_cons g1
  obtain ⟨x1, rfl⟩ := kind_int h1
  obtain ⟨l2, ls3, rfl, h2, g3⟩ := kinds_cons g2
  obtain ⟨x2, rfl⟩ := kind_str h2
  obtain ⟨l3, ls4, rfl, h3, g4⟩ := kinds_cons g3
  obtain ⟨x3, rfl⟩ := kind_str h3
  obtain ⟨l4, ls5, rfl, h4, g5⟩ := kinds_cons g4
  obtain ⟨x4, rfl⟩ := kind_str h4
  obtain ⟨l5, ls6, rfl, h5, g6⟩ := kinds_cons g5
  obtain ⟨x5, rfl⟩ := kind_sli h5
  obtain ⟨l6, ls7, rfl, h6, g7⟩ := kinds_cons g6
  obtain ⟨x6, rfl⟩ := kind_sli h6
  obtain ⟨l7, ls8, rfl, h7, g8⟩ := kinds_cons g7
  obtain ⟨x7, rfl⟩ := kind_int h7
  obtain ⟨l8, ls9, rfl, h8, g9⟩ := kinds_cons g8
  obtain ⟨x8, rfl⟩ := kind_str h8
  obtain ⟨l9, ls10, rfl, h9, g10⟩ := kinds_cons g9
  obtain ⟨x9, rfl⟩ := kind_str h9
  obtain ⟨l10, ls11, rfl, h10, g11⟩ := kinds_cons g10
  obtain ⟨x10, rfl⟩ := kind_sli h10
  obtain ⟨l11, ls12, rfl, h11, g12⟩ := kinds_cons g11
  obtain ⟨x11, rfl⟩ := kind_str h11
  obtain ⟨l12, ls13, rfl, h12, g13⟩ := kinds_cons g12
  obtain ⟨x12, rfl⟩ := kind_str h12
  obtain ⟨l13, ls14, rfl, h13, g14⟩ := kinds_cons g13
  obtain ⟨x13, rfl⟩ := kind_str h13
  obtain ⟨l14, ls15, rfl, h14, g15⟩ := kinds_cons g14
  obtain ⟨x14, rfl⟩ := kind_int h14
  obtain rfl := kinds_nil g15
  exact ⟨_, rfl⟩
theorem ek51 : ∀ ls : List (Lf C), kindsB [.str, .str, .int .i64, .str, .str, .str, .sli .e9, .sli .e9, .int .i64, .str, .str, .sli .e3, .str, .str, .str, .int .i64, .int .i64, .sli .e127] ls = true → ∃ x, d51 ls = some x := by
  intro ls0 g0
  obtain ⟨l0, ls1, rfl, h0, g1⟩ := kinds_cons g0
  obtain ⟨x0, rfl⟩ := kind_str h0
  obtain ⟨l1, ls2, rfl, h1, g2⟩ := kinds_cons g1
  obtain ⟨x1, rfl⟩ := kind_str h1
  obtain ⟨l2, ls3, rfl, h2, g3⟩ := kinds_cons g2
  obtain ⟨x2, rfl⟩ := kind_int h2
  obtain ⟨l3, ls4, rfl, h3, g4⟩ := kinds_cons g3
  obtain ⟨x3, rfl⟩ := kind_str h3
  obtain ⟨l4, ls5, rfl, h4, g5⟩ := kinds_cons g4
  obtain ⟨x4, rfl⟩ := kind_str h4
  obtain ⟨l5, ls6, rfl, h5, g6⟩ := kinds_cons g5
  obtain ⟨x5, rfl⟩ := kind_str h5
  obtain ⟨l6, ls7, rfl, h6, g7⟩ := kinds_cons g6
  obtain ⟨x6, rfl⟩ := kind_sli h6
  obtain ⟨l7, ls8, rfl, h7, g8⟩ := kinds_cons g7
  obtain ⟨x7, rfl⟩ := kind_sli h7
  obtain ⟨l8, ls9, rfl, h8, g9⟩ := kinds_cons g8
  obtain ⟨x8, rfl⟩ := kind_int h8
  obtain ⟨l9, ls10, rfl, h9, g10⟩ := kinds_cons g9
  obtain ⟨x9, rfl⟩ := kind_str h9
  obtain ⟨l10, ls11, rfl, h10, g11⟩ := kinds_cons g10
  obtain ⟨x10, rfl⟩ := kind_str h10
  obtain ⟨l11, ls12, rfl, h11, g12⟩ := kinds_cons g11
  obtain ⟨x11, rfl⟩ := kind_sli h11
  obtain ⟨l12, ls13, rfl, h12, g13⟩ := kinds_cons g12
  obtain ⟨x12, rfl⟩ := kind_str h12
  obtain ⟨l13, ls14, rfl, h13, g14⟩ := kinds_cons g13
  obtain ⟨x13, rfl⟩ := kind_str h13
  obtain ⟨l14, ls15, rfl, h14, g15⟩ := kinds_cons g14
  obtain ⟨x14, rfl⟩ := kind_str h14
  obtain ⟨l15, ls16, rfl, h15, g16⟩ := kinds_cons g15
  obtain ⟨x15, rfl⟩ := kind_int h15
  obtain ⟨l16, ls17, rfl, h16, g17⟩ := kinds_cons g16
  obtain ⟨x16, rfl⟩ := kind_int h16
  obtain ⟨l17, ls18, rfl, h17, g18⟩ := kinds_cons g17
  obtain ⟨x17, rfl⟩ := kind_sli h17
  obtain rfl := kinds_nil g18
  exact ⟨_, rfl⟩
theorem ek56 : ∀ ls : List (Lf C), kindsB [.str, .str, .int .i64, .str, .str, .str, .sli .e9, .sli .e9, .int .i64, .str, .str, .sli .e3, .str, .str, .str, .int .i64, .int .i64, .sli .e85] ls = true → ∃ x, d56 ls = some x := by
  intro ls0 g0
  obtain ⟨l0, ls1, rfl, h0, g1⟩ := kinds_cons g0
  obtain ⟨x0, rfl⟩ := kind_str h0
  obtain ⟨l1, ls2, rfl, h1, g2⟩ := kinds_cons g1
  obtain ⟨x1, rfl⟩ := kind_str h1
  obtain ⟨l2, ls3, rfl, h2, g3⟩ := kinds_cons g2
  obtain ⟨x2, rfl⟩ := kind_int h2
  obtain ⟨l3, ls4, rfl, h3, g4⟩ := kinds_cons g3
  obtain ⟨x3, rfl⟩ := kind_str h3
  obtain ⟨l4, ls5, rfl, h4, g5⟩ := kinds_cons g4
  obtain ⟨x4, rfl⟩ := kind_str h4
  obtain ⟨l5, ls6, rfl, h5, g6⟩ := kinds_cons g5
  obtain ⟨x5, rfl⟩ := kind_str h5
  obtain ⟨l6, ls7, rfl, h6, g7⟩ := kinds_cons g6
  obtain ⟨x6, rfl⟩ := kind_sli h6
  obtain ⟨l7, ls8, rfl, h7, g8⟩ := kinds_cons g7
  obtain ⟨x7, rfl⟩ := kind_sli h7
  obtain ⟨l8, ls9, rfl, h8, g9⟩ := kinds_cons g8
  obtain ⟨x8, rfl⟩ := kind_int h8
  obtain ⟨l9, ls10, rfl, h9, g10⟩ := kinds_cons g9
  obtain ⟨x9, rfl⟩ := kind_str h9
  obtain ⟨l10, ls11, rfl, h10, g11⟩ := kinds_cons g10
  obtain ⟨x10, rfl⟩ := kind_str h10
  obtain ⟨l11, ls12, rfl, h11, g12⟩ := kinds_cons g11
  obtain ⟨x11, rfl⟩ := kind_sli h11
  obtain ⟨l12, ls13, rfl, h12, g13⟩ := kinds_cons g12
  obtain ⟨x12, rfl⟩ := kind_str h12
  obtain ⟨l13, ls14, rfl, h13, g14⟩ := kinds_cons g13
  obtain ⟨x13, rfl⟩ := kind_str h13
  obtain ⟨l14, ls15, rfl, h14, g15⟩ := kinds_cons g14
  obtain ⟨x14, rfl⟩ := kind_str h14
  obtain ⟨l15, ls16, rfl, h15, g16⟩ := kinds_cons g15
  obtain ⟨x15, rfl⟩ := kind_int h15
  obtain ⟨l16, ls17, rfl, h16, g17⟩ := kinds_cons g16
  obtain ⟨x16, rfl⟩ := kind_int h16
  obtain ⟨l17, ls18, rfl, h17, g18⟩ := kinds_cons g17
  obtain ⟨x17, rfl⟩ := kind_sli h17
  obtain rfl := kinds_nil g18
  exact ⟨_, rfl⟩
theorem ek85 : ∀ ls : List (Lf C), kindsB [.str, .str, .int .i64] ls = true → ∃ x, d85 ls = some x := by
  intro ls0 g0
  obtain ⟨l0, ls1, rfl, h0, g1⟩ := kinds_cons g0
  obtain ⟨x0, rfl⟩ := kind_str h0
  obtain ⟨l1, ls2, rfl, h1, g2⟩ := kinds_cons g1
  obtain ⟨x1, rfl⟩ := kind_str h1
  obtain ⟨l2, ls3, rfl, h2, g3⟩ := kinds_cons g2
  obtain ⟨x2, rfl⟩ := kind_int h2
  obtain rfl := kinds_nil g3
  exact ⟨_, rfl⟩
theorem ek90 : ∀ ls : List (Lf C), kindsB [.str, .sli .e144] ls = true → ∃ x, d90 ls = some x := by
  intro ls0 g0
  obtain ⟨l0, ls1, rfl, h0, g1⟩ := kinds_cons g0
  obtain ⟨x0, rfl⟩ := kind_str h0
  obtain ⟨l1, ls2, rfl, h1, g2⟩ := kinds_cons g1
  obtain ⟨x1, rfl⟩ := kind_sli h1
  obtain rfl := kinds_nil g2
  exact ⟨_, rfl⟩
theorem ek93 : ∀ ls : List (Lf C), kindsB [.str, .str, .str, .str, .str, .str] ls = true → ∃ x, d93 ls = some x := by
  intro ls0 g0
  obtain ⟨l0, ls1, rfl, h0, g1⟩ := kinds_cons g0
  obtain ⟨x0, rfl⟩ := kind_str h0
  obtain ⟨l1, ls2, rfl, h1, g2⟩ := kinds_cons g1
  obtain ⟨x1, rfl⟩ := kind_str h1
  obtain ⟨l2, ls3, rfl, h2, g3⟩ := kinds_cons g2
  obtain ⟨x2, rfl⟩ := kind_str h2
  obtain ⟨l3, ls4, rfl, h3, g4⟩ := kinds_cons g3
  obtain ⟨x3, rfl⟩ := kind_str h3
  obtain ⟨l4, ls5, rfl, h4, g5⟩ := kinds_cons g4
  obtain ⟨x4, rfl⟩ := kind_str h4
  obtain ⟨l5, ls6, rfl, h5, g6⟩ := kinds_cons g5
  obtain ⟨x5, rfl⟩ := kind_str h5
  obtain rfl := kinds_nil g6
  exact ⟨_, rfl⟩
theorem ek96 : ∀ ls : List (Lf C), kindsB [.str, .str] ls = true → ∃ x, d96 ls = some x := by
  intro ls0 g0
  obtain ⟨l0, ls1, rfl, h0, g1⟩ := kinds_cons g0
  obtain ⟨x0, rfl⟩ := kind_str h0
  obtain ⟨l1, ls2, rfl, h1, g2⟩ := kinds_cons g1
  obtain ⟨x1, rfl⟩ := kind_str h1
  obtain rfl := kinds_nil g2
  exact ⟨_, rfl⟩
theorem ek103 : ∀ ls : List (Lf C), kindsB [.sli .e146] ls = true → ∃ x, d103 ls = some x := by
  intro ls0 g0
  obtain ⟨l0, ls1, rfl, h0, g1⟩ := kinds_cons g0
  obtain ⟨x0, rfl⟩ := kind_sli h0
  obtain rfl := kinds_nil g1
  exact ⟨_, rfl⟩
theorem ek105 : ∀ ls : List (Lf C), kindsB [.str, .sli .e146] ls = true → ∃ x, d105 ls = some x := by
  intro ls0 g0
  obtain ⟨l0, ls1, rfl, h0, g1⟩ := kinds_cons g0
  obtain ⟨x0, rfl⟩ := kind_str h0
  obtain ⟨l1, ls2, rfl, h1, g2⟩ := kinds_cons g1
  obtain ⟨x1, rfl⟩ := kind_sli h1
  obtain rfl := kinds_nil g2
  exact ⟨_, rfl⟩
theorem ek110 : ∀ ls : List (Lf C), kindsB [.str, .str, .str, .str, .str, .str] ls = true → ∃ x, d110 ls = some x := by
  intro ls0 g0
  obtain ⟨l0, ls1, rfl, h0, g1⟩ := kinds_cons g0
  obtain ⟨x0, rfl⟩ := kind_str h0
  obtain ⟨l1, ls2, rfl, h1, g2⟩ := kinds_cons g1
  obtain ⟨x1, rfl⟩ := kind_str h1
  obtain ⟨l2, ls3, rfl, h2, g3⟩ := kinds_cons g2
  obtain ⟨x2, rfl⟩ := kind_str h2
  obtain ⟨l3, ls4, rfl, h3, g4⟩ := kinds_cons g3
  obtain ⟨x3, rfl⟩ := kind_str h3
  obtain ⟨l4, ls5, rfl, h4, g5⟩ := kinds_cons g4
  obtain ⟨x4, rfl⟩ := kind_str h4
  obtain ⟨l5, ls6, rfl, h5, g6⟩ := kinds_cons g5
  obtain ⟨x5, rfl⟩ := kind_str h5
  obtain rfl := kinds_nil g6
  exact ⟨_, rfl⟩
theorem ek112 : ∀ ls : List (Lf C), kindsB [.str, .str] ls = true → ∃ x, d112 ls = some x := by
  intro ls0 g0
  obtain ⟨l0, ls1, rfl, h0, g1⟩ := kinds_cons g0
  obtain ⟨x0, rfl⟩ := kind_str h0
  obtain ⟨l1, ls2, rfl, h1, g2⟩ := kinds_cons g1
  obtain ⟨x1, rfl⟩ := kind_str h1
  obtain rfl := kinds_nil g2
  exact ⟨_, rfl⟩
theorem ek127 : ∀ ls : List (Lf C), kindsB [.str, .str, .int .i64] ls = true → ∃ x, d127 ls = some x := by
  intro ls0 g0
  obtain ⟨l0, ls1, rfl, h0, g1⟩ := kinds_cons g0
  obtain ⟨x0, rfl⟩ := kind_str h0
  obtain ⟨l1, ls2, rfl, h1, g2⟩ := kinds_cons g1
  obtain ⟨x1, rfl⟩ := kind_str h1
  obtain ⟨l2, ls3, rfl, h2, g3⟩ := kinds_cons g2
  obtain ⟨x2, rfl⟩ := kind_int h2
  obtain rfl := kinds_nil g3
  exact ⟨_, rfl⟩
theorem ek144 : ∀ ls : List (Lf C), kindsB [.str, .int .i64, .int .i64, .int .i64, .sli .e9, .str, .int .i64, .bool, .bool, .str, .str] ls = true → ∃ x, d144 ls = some x := by
  intro ls0 g0
  obtain ⟨l0, ls1, rfl, h0, g1⟩ := kinds_cons g0
  obtain ⟨x0, rfl⟩ := kind_str h0
  obtain ⟨l1, ls2, rfl, h1, g2⟩ := kinds_cons g1
  obtain ⟨x1, rfl⟩ := kind_int h1
  obtain ⟨l2, ls3, rfl, h2, g3⟩ := kinds_cons g2
  obtain ⟨x2, rfl⟩ := kind_int h2
  obtain ⟨l3, ls4, rfl, h3, g4⟩ := kinds_cons g3
  obtain ⟨x3, rfl⟩ := kind_int h3
  obtain ⟨l4, ls5, rfl, h4, g5⟩ := kinds_cons g4
  obtain ⟨x4, rfl⟩ := kind_sli h4
  obtain ⟨l5, ls6, rfl, h5, g6⟩ := kinds_cons g5
  obtain ⟨x5, rfl⟩ := kind_str h5
  obtain ⟨l6, ls7, rfl, h6, g7⟩ := kinds_cons g6
  obtain ⟨x6, rfl⟩ := kind_int h6
  obtain ⟨l7, ls8, rfl, h7, g8⟩ := kinds_cons g7
  obtain ⟨x7, rfl⟩ := kind_bool h7
  obtain ⟨l8, ls9, rfl, h8, g9⟩ := kinds_cons g8
  obtain ⟨x8, rfl⟩ := kind_bool h8
  obtain ⟨l9, ls10, rfl, h9, g10⟩ := kinds_cons g9
  obtain ⟨x9, rfl⟩ := kind_str h9
  obtain ⟨l10, ls11, rfl, h10, g11⟩ := kinds_cons g10
  obtain ⟨x10, rfl⟩ := kind_str h10
  obtain rfl := kinds_nil g11
  exact ⟨_, rfl⟩
theorem ek146 : ∀ ls : List (Lf C), kindsB [.str, .int .i64, .int .i64, .int .i64, .sli .e9, .str, .int .i64, .bool, .bool, .str, .str] ls = true → ∃ x, d146 ls = some x := by
  intro ls0 g0
  obtain ⟨l0, ls1, rfl, h0, g1⟩ := kinds_cons g0
  obtain ⟨x0, rfl⟩ := kind_str h0
  obtain ⟨l1, ls2, rfl, h1, g2⟩ := kinds_cons g1
  obtain ⟨x1, rfl⟩ := kind_int h1
  obtain ⟨l2, ls3, rfl, h2, g3⟩ := kinds_cons g2
  obtain ⟨x2, rfl⟩ := kind_int h2
  obtain ⟨l3, ls4, rfl, h3, g4⟩ := kinds_cons g3
  obtain ⟨x3, rfl⟩ := kind_int h3
  obtain ⟨l4, ls5, rfl, h4, g5⟩ := kinds_cons g4
  obtain ⟨x4, rfl⟩ := kind_sli h4
  obtain ⟨l5, ls6, rfl, h5, g6⟩ := kinds_cons g5
  obtain ⟨x5, rfl⟩ := kind_str h5
  obtain ⟨l6, ls7, rfl, h6, g7⟩ := kinds_cons g6
  obtain ⟨x6, rfl⟩ := kind_int h6
  obtain ⟨l7, ls8, rfl, h7, g8⟩ := kinds_cons g7
  obtain ⟨x7, rfl⟩ := kind_bool h7
  obtain ⟨l8, ls9, rfl, h8, g9⟩ := kinds_cons g8
  obtain ⟨x8, rfl⟩ := kind_bool h8
  obtain ⟨l9, ls10, rfl, h9, g10⟩ := kinds_cons g9
  obtain ⟨x9, rfl⟩ := kind_str h9
  obtain ⟨l10, ls11, rfl, h10, g11⟩ := kinds_cons g10
  obtain ⟨x10, rfl⟩ := kind_str h10
  obtain rfl := kinds_nil g11
  exact ⟨_, rfl⟩
theorem ek166 : ∀ ls : List (Lf C), kindsB [.str, .int .i64, .int .i64, .int .i64, .sli .e9, .str, .int .i64, .bool, .bool, .str, .str] ls = true → ∃ x, d166 ls = some x := by
  intro ls0 g0
  obtain ⟨l0, ls1, rfl, h0, g1⟩ := kinds_cons g0
  obtain ⟨x0, rfl⟩ := kind_str h0
  obtain ⟨l1, ls2, rfl, h1, g2⟩ := kinds_cons g1
  obtain ⟨x1, rfl⟩ := kind_int h1
  obtain ⟨l2, ls3, rfl, h2, g3⟩ := kinds_cons g2
  obtain ⟨x2, rfl⟩ := kind_int h2
  obtain ⟨l3, ls4, rfl, h3, g4⟩ := kinds_cons g3
  obtain ⟨x3, rfl⟩ := kind_int h3
  obtain ⟨l4, ls5, rfl, h4, g5⟩ := kinds_cons g4
  obtain ⟨x4, rfl⟩ := kind_sli h4
  obtain ⟨l5, ls6, rfl, h5, g6⟩ := kinds_cons g5
  obtain ⟨x5, rfl⟩ := kind_str h5
  obtain ⟨l6, ls7, rfl, h6, g7⟩ := kinds_cons g6
  obtain ⟨x6, rfl⟩ := kind_int h6
  obtain ⟨l7, ls8, rfl, h7, g8⟩ := kinds_cons g7
  obtain ⟨x7, rfl⟩ := kind_bool h7
  obtain ⟨l8, ls9, rfl, h8, g9⟩ := kinds_cons g8
  obtain ⟨x8, rfl⟩ := kind_bool h8
  obtain ⟨l9, ls10, rfl, h9, g10⟩ := kinds_cons g9
  obtain ⟨x9, rfl⟩ := kind_str h9
  obtain ⟨l10, ls11, rfl, h10, g11⟩ := kinds_cons g10
  obtain ⟨x10, rfl⟩ := kind_str h10
  obtain rfl := kinds_nil g11
  exact ⟨_, rfl⟩
theorem ek168 : ∀ ls : List (Lf C), kindsB [.str, .int .i64, .int .i64, .int .i64, .sli .e9, .str, .int .i64, .bool, .bool, .str, .str] ls = true → ∃ x, d168 ls = some x := by
  intro ls0 g0
  obtain ⟨l0, ls1, rfl, h0, g1⟩ := kinds_cons g0
  obtain ⟨x0, rfl⟩ := kind_str h0
  obtain ⟨l1, ls2, rfl, h1, g2⟩ := kinds_cons g1
  obtain ⟨x1, rfl⟩ := kind_int h1
  obtain ⟨l2, ls3, rfl, h2, g3⟩ := kinds_cons g2
  obtain ⟨x2, rfl⟩ := kind_int h2
  obtain ⟨l3, ls4, rfl, h3, g4⟩ := kinds_cons g3
  obtain ⟨x3, rfl⟩ := kind_int h3
  obtain ⟨l4, ls5, rfl, h4, g5⟩ := kinds_cons g4
  obtain ⟨x4, rfl⟩ := kind_sli h4
  obtain ⟨l5, ls6, rfl, h5, g6⟩ := kinds_cons g5
  obtain ⟨x5, rfl⟩ := kind_str h5
  obtain ⟨l6, ls7, rfl, h6, g7⟩ := kinds_cons g6
  obtain ⟨x6, rfl⟩ := kind_int h6
  obtain ⟨l7, ls8, rfl, h7, g8⟩ := kinds_cons g7
  obtain ⟨x7, rfl⟩ := kind_bool h7
  obtain ⟨l8, ls9, rfl, h8, g9⟩ := kinds_cons g8
  obtain ⟨x8, rfl⟩ := kind_bool h8
  obtain ⟨l9, ls10, rfl, h9, g10⟩ := kinds_cons g9
  obtain ⟨x9, rfl⟩ := kind_str h9
  obtain ⟨l10, ls11, rfl, h10, g11⟩ := kinds_cons g10
  obtain ⟨x10, rfl⟩ := kind_str h10
  obtain rfl := kinds_nil g11
  exact ⟨_, rfl⟩
theorem ek169 : ∀ ls : List (Lf C), kindsB [.str, .int .i64, .int .i64, .int .i64, .sli .e9, .str, .int .i64, .bool, .bool, .str, .str] ls = true → ∃ x, d169 ls = some x := by
  intro ls0 g0
  obtain ⟨l0, ls1, rfl, h0, g1⟩ := kinds_cons g0
  obtain ⟨x0, rfl⟩ := kind_str h0
  obtain ⟨l1, ls2, rfl, h1, g2⟩ := kinds_cons g1
  obtain ⟨x1, rfl⟩ := kind_int h1
  obtain ⟨l2, ls3, rfl, h2, g3⟩ := kinds_cons g2
  obtain ⟨x2, rfl⟩ := kind_int h2
  obtain ⟨l3, ls4, rfl, h3, g4⟩ := kinds_cons g3
  obtain ⟨x3, rfl⟩ := kind_int h3
  obtain ⟨l4, ls5, rfl, h4, g5⟩ := kinds_cons g4
  obtain ⟨x4, rfl⟩ := kind_sli h4
  obtain ⟨l5, ls6, rfl, h5, g6⟩ := kinds_cons g5
  obtain ⟨x5, rfl⟩ := kind_str h5
  obtain ⟨l6, ls7, rfl, h6, g7⟩ := kinds_cons g6
  obtain ⟨x6, rfl⟩ := kind_int h6
  obtain ⟨l7, ls8, rfl, h7, g8⟩ := kinds_cons g7
  obtain ⟨x7, rfl⟩ := kind_bool h7
  obtain ⟨l8, ls9, rfl, h8, g9⟩ := kinds_cons g8
  obtain ⟨x8, rfl⟩ := kind_bool h8
  obtain ⟨l9, ls10, rfl, h9, g10⟩ := kinds_cons g9
  obtain ⟨x9, rfl⟩ := kind_str h9
  obtain ⟨l10, ls11, rfl, h10, g11⟩ := kinds_cons g10
  obtain ⟨x10, rfl⟩ := kind_str h10
  obtain rfl := kinds_nil g11
  exact ⟨_, rfl⟩
theorem ek170 : ∀ ls : List (Lf C), kindsB [.str, .int .i64, .int .i64, .int .i64, .sli .e9, .str, .int .i64, .bool, .bool, .str, .str] ls = true → ∃ x, d170 ls = some x := by
  intro ls0 g0
  obtain ⟨l0, ls1, rfl, h0, g1⟩ := kinds_cons g0
  obtain ⟨x0, rfl⟩ := kind_str h0
  obtain ⟨l1, ls2, rfl, h1, g2⟩ := kinds_cons g1
  obtain ⟨x1, rfl⟩ := kind_int h1
  obtain ⟨l2, ls3, rfl, h2, g3⟩ := kinds_cons g2
  obtain ⟨x2, rfl⟩ := kind_int h2
  obtain ⟨l3, ls4, rfl, h3, g4⟩ := kinds_cons g3
  obtain ⟨x3, rfl⟩ := kind_int h3
  obtain ⟨l4, ls5, rfl, h4, g5⟩ := kinds_cons g4
  obtain ⟨x4, rfl⟩ := kind_sli h4
  obtain ⟨l5, ls6, rfl, h5, g6⟩ := kinds_cons g5
  obtain ⟨x5, rfl⟩ := kind_str h5
  obtain ⟨l6, ls7, rfl, h6, g7⟩ := kinds_cons g6
  obtain ⟨x6, rfl⟩ := kind_int h6
  obtain ⟨l7, ls8, rfl, h7, g8⟩ := kinds_cons g7
  obtain ⟨x7, rfl⟩ := kind_bool h7
  obtain ⟨l8, ls9, rfl, h8, g9⟩ := kinds_cons g8
  obtain ⟨x8, rfl⟩ := kind_bool h8
  obtain ⟨l9, ls10, rfl, h9, g10⟩ := kinds_cons g9
  obtain ⟨x9, rfl⟩ := kind_str h9
  obtain ⟨l10, ls11, rfl, h10, g11⟩ := kinds_cons g10
  obtain ⟨x10, rfl⟩ := kind_str h10
  obtain rfl := kinds_nil g11
  exact ⟨_, rfl⟩
theorem ek208 : ∀ ls : List (Lf C), kindsB [.str, .str, .str, .sli .e9, .bool, .sli .e9, .int .i64] ls = true → ∃ x, d208 ls = some x := by
  intro ls0 g0
  obtain ⟨l0, ls1, rfl, h0, g1⟩ := kinds_cons g0
  obtain ⟨x0, rfl⟩ := kind_str h0
  obtain ⟨l1, ls2, rfl, h1, g2⟩ := kinds_cons g1
  obtain ⟨x1, rfl⟩ := kind_str h1
  obtain ⟨l2, ls3, rfl, h2, g3⟩ := kinds_cons g2
  obtain ⟨x2, rfl⟩ := kind_str h2
  obtain ⟨l3, ls4, rfl, h3, g4⟩ := kinds_cons g3
  obtain ⟨x3, rfl⟩ := kind_sli h3
  obtain ⟨l4, ls5, rfl, h4, g5⟩ := kinds_cons g4
  obtain ⟨x4, rfl⟩ := kind_bool h4
  obtain ⟨l5, ls6, rfl, h5, g6⟩ := kinds_cons g5
  obtain ⟨x5, rfl⟩ := kind_sli h5
  obtain ⟨l6, ls7, rfl, h6, g7⟩ := kinds_cons g6
  obtain ⟨x6, rfl⟩ := kind_int h6
  obtain rfl := kinds_nil g7
  exact ⟨_, rfl⟩
def okT : Ty → Bool
  | .e3 => true
  | .e9 => true
  | .e26 => true
  | .e30 => true
  | .e32 => true
  | .e36 => true
  | .e37 => true
  | .e40 => true
  | .e42 => true
  | .e44 => true
  | .e51 => true
  | .e56 => true
  | .e85 => true
  | .e90 => true
  | .e93 => true
  | .e96 => true
  | .e103 => true
  | .e105 => true
  | .e110 => true
  | .e112 => true
  | .e127 => true
  | .e144 => true
  | .e146 => true
  | .e166 => true
  | .e167 => false
  | .e168 => true
  | .e169 => true
  | .e170 => true
  | .e208 => true
set_option maxRecDepth 100000 in
theorem tab_ok : Tab Go.Proofs.Tryz.prog KK (lk tks) okT := by
  refine tab_of tks_ok els_ok (by kernel_rfl) fun t ht => ?_
  cases t
  · exact ⟨_, rfl, rfl, ek3⟩
  · exact ⟨_, rfl, rfl, ek9⟩
  · exact ⟨_, rfl, rfl, ek26⟩
  · exact ⟨_, rfl, rfl, ek30⟩
  · exact ⟨_, rfl, rfl, ek32⟩
  · exact ⟨_, rfl, rfl, ek36⟩
  · exact ⟨_, rfl, rfl, ek37⟩
  · exact ⟨_, rfl, rfl, ek40⟩
  · exact ⟨_, rfl, rfl, ek42⟩
  · exact ⟨_, rfl, rfl, ek44⟩
  · exact ⟨_, rfl, rfl, ek51⟩
  · exact ⟨_, rfl, rfl, ek56⟩
  · exact ⟨_, rfl, rfl, ek85⟩
  · exact ⟨_, rfl, rfl, ek90⟩
  · exact ⟨_, rfl, rfl, ek93⟩
  · exact ⟨_, rfl, rfl, ek96⟩
  · exact ⟨_, rfl, rfl, ek103⟩
  · exact ⟨_, rfl, rfl, ek105⟩
  · exact ⟨_, rfl, rfl, ek110⟩
  · exact ⟨_, rfl, rfl, ek112⟩
  · exact ⟨_, rfl, rfl, ek127⟩
  · exact ⟨_, rfl, rfl, ek144⟩
  · exact ⟨_, rfl, rfl, ek146⟩
  · exact ⟨_, rfl, rfl, ek166⟩
  · cases ht
  · exact ⟨_, rfl, rfl, ek168⟩
  · exact ⟨_, rfl, rfl, ek169⟩
  · exact ⟨_, rfl, rfl, ek170⟩
  · exact ⟨_, rfl, rfl, ek208⟩
end Go.Proofs.YtjodpeldfebhfaaGreat.Ab

/- The plain law: the size guards and the copies of the law's own helpers. Printed out of the types. -/
set_option linter.unusedVariables false
set_option linter.unusedSimpArgs false
set_option maxRecDepth 10000
namespace Go.Proofs.YtjodpeldfebhfaaGreat.Ab
open Go Go.RowKit

theorem take_set {α : Type} {xs ys : List α} {i : Nat} (hi : i < xs.length) (e : xs.length = ys.length) : (xs.take i ++ ys.drop i).set i xs[i] = xs.take (i + 1) ++ ys.drop (i + 1) := by
  have hl : (xs.take i).length = i := by simp; omega
  rw [List.set_append_right _ _ (by omega), hl, Nat.sub_self, List.drop_eq_getElem_cons (show i < ys.length by omega), List.set_cons_zero, ← List.take_append_getElem hi, List.append_assoc]
  rfl
theorem get_mix {α : Type} {xs ys : List α} {i : Nat} (hi : i < xs.length) (e : xs.length = ys.length) : (xs.take i ++ ys.drop i)[((i : Int)).toNat]? = some (ys[i]'(by omega)) := by
  have hl : (xs.take i).length = i := by simp; omega
  rw [Int.toNat_natCast, List.getElem?_append_right (by omega), hl, Nat.sub_self, List.getElem?_drop, Nat.add_zero, List.getElem?_eq_getElem (by omega)]
theorem len_mix {α : Type} {xs ys : List α} {i : Nat} (hi : i ≤ xs.length) (e : xs.length = ys.length) : (xs.take i ++ ys.drop i).length = xs.length := by
  simp; omega
theorem max_len {n : Nat} (h : n ≤ maxLen) : n ≤ 9223372036854775807 := h
theorem sub_wrap {a : Int} {n : Nat} (h0 : 0 ≤ a) (h1 : a ≤ 1048576) (h2 : n ≤ 9223372036854775807) : IntKind.i64.wrap (a - (n : Int)) = a - (n : Int) := wrap_id (by omega) (by omega)
/-- What a size guard says: a rest below nought, or the rest when the size is taken off. -/
def Szd (a : Int) (s : Nat) (o : Option Int) : Prop := ∃ r, o = some r ∧ (r < 0 ∨ (0 ≤ r ∧ r + (s : Int) = a))
theorem szd_sub {a : Int} {n s : Nat} {o : Option Int} (h0 : 0 ≤ a) (h1 : a ≤ 1048576) (h2 : n ≤ 9223372036854775807) (hk : 0 ≤ IntKind.i64.wrap (a - (n : Int)) → IntKind.i64.wrap (a - (n : Int)) + n = a → Szd (IntKind.i64.wrap (a - (n : Int))) s o) : Szd a (n + s) (cond (decide (IntKind.i64.wrap (a - (n : Int)) < 0)) (some (-1)) o) := by
  rw [sub_wrap h0 h1 h2] at hk ⊢
  by_cases hc : a - (n : Int) < 0
  · simp only [hc, decide_true, cond_true]
    exact ⟨-1, rfl, Or.inl (by omega)⟩
  · simp only [hc, decide_false, cond_false]
    obtain ⟨r, e, hr⟩ := hk (by omega) (by omega)
    refine ⟨r, e, hr.imp id fun ⟨x, y⟩ => ⟨x, by omega⟩⟩
theorem szd_ret {a : Int} (h0 : 0 ≤ a) : Szd a 0 (some a) := ⟨a, rfl, Or.inr ⟨h0, by omega⟩⟩
theorem szd_bind {a : Int} {s t : Nat} {o : Option Int} {k : Int → Option Int} (h : Szd a s o) (hk : ∀ b, 0 ≤ b → b + (s : Int) = a → Szd b t (k b)) : Szd a (s + t) (Option.bind o fun r => cond (decide (r < 0)) (some (-1)) (k r)) := by
  obtain ⟨r, rfl, hr | ⟨x, y⟩⟩ := h
  · simp only [Option.bind_some, hr, decide_true, cond_true]
    exact ⟨-1, rfl, Or.inl (by omega)⟩
  · have : ¬ r < 0 := by omega
    simp only [Option.bind_some, this, decide_false, cond_false]
    obtain ⟨r', e, hr⟩ := hk r x y
    exact ⟨r', e, hr.imp id fun ⟨x, y⟩ => ⟨x, by omega⟩⟩
theorem szd_lp {α : Type} {xs : List α} {s : α → Nat} {rnd : (List α × Int × Int → Option Int) → List α × Int × Int → Option Int}
    (hend : ∀ rec a, rnd rec (xs, a, (xs.length : Int)) = some a)
    (hstep : ∀ rec a t i (hi : i < xs.length), 0 ≤ a → a ≤ 1048576 → (∀ b, 0 ≤ b → b + (s xs[i] : Int) = a → Szd b t (rec (xs, b, ((i + 1 : Nat) : Int)))) → Szd a (s xs[i] + t) (rnd rec (xs, a, (i : Int)))) :
    ∀ n i a, i ≤ xs.length → xs.length - i < n → 0 ≤ a → a ≤ 1048576 → Szd a (((xs.drop i).map s).sum) (lpN rnd n (xs, a, (i : Int))) := by
  intro n
  induction n with
  | zero => intro i a _ h; omega
  | succ n ih =>
    intro i a hi hn h0 h1
    rw [lp_succ]
    rcases Nat.lt_or_ge i xs.length with h | h
    · rw [sum_drop h]
      exact hstep _ _ _ i h h0 h1 fun b hb he => ih (i + 1) b (by omega) (by omega) hb (by omega)
    · obtain rfl : i = xs.length := by omega
      rw [hend]
      simpa using szd_ret h0
theorem w_sum {α : Type} {w s : α → Nat} (h : ∀ x, w x ≤ 64 * (1 + s x)) : ∀ xs : List α, (xs.map w).sum ≤ 64 * (xs.length + (xs.map s).sum)
  | [] => by simp
  | x :: t => by have := w_sum h t; have := h x; simp only [List.length_cons, List.map_cons, List.sum_cons]; omega
theorem copy_lp {α : Type} {xs : List α} {rnd : (List α × List α × Int → Option (List α)) → List α × List α × Int → Option (List α)}
    (hl : xs.length ≤ 1048576) (hend : ∀ rec ys, rnd rec (xs, ys, (xs.length : Int)) = some ys)
    (hstep : ∀ rec ys i (hi : i < xs.length) (hy : i < ys.length), rnd rec (xs, ys, (i : Int)) = rec (xs, ys.set i xs[i], ((i + 1 : Nat) : Int))) (ys : List α) (e : xs.length = ys.length) : lpN rnd fuel (xs, ys, 0) = some xs := by
  have key := lp_idx (rnd := rnd) (st := fun i => (xs, xs.take i ++ ys.drop i, (i : Int))) (val := fun i => some xs) xs.length (fun rec => by rw [hend]; simp [e, List.take_of_length_le (Nat.le_of_eq e)]) (fun rec i hi hr => by
    rw [hstep rec _ i hi (by rw [len_mix (by omega) e]; exact hi), take_set hi e]
    exact hr) fuel 0 (Nat.zero_le _) (by have := fuel_big2; omega)
  simpa using key

def s_String (x : ByteArray) : Nat := x.size
def sm_String (x : ByteArray) : Prop := x.size ≤ 9223372036854775807
def s_StringS (xs : List ByteArray) : Nat := xs.length + (xs.map s_String).sum
theorem s_StringS_len (xs : List ByteArray) : xs.length ≤ s_StringS xs := by unfold s_StringS; omega
theorem s_StringS_get {xs : List ByteArray} {i : Nat} (hi : i < xs.length) : s_String xs[i] ≤ s_StringS xs := by have := sum_get (w := s_String) hi; unfold s_StringS; omega
theorem s_StringS_mem {xs : List ByteArray} {x : ByteArray} (h : x ∈ xs) : s_String x ≤ s_StringS xs := by obtain ⟨i, hi, rfl⟩ := List.mem_iff_getElem.1 h; exact s_StringS_get hi
theorem ws_String (x : ByteArray) : w_String x ≤ 64 * (1 + s_String x) := by
  simp only [w_String, s_String]; omega
theorem ws_StringS (xs : List ByteArray) : w_StringS xs ≤ 64 * s_StringS xs := w_sum ws_String xs
theorem sm_String_of {x : C .e9} (h : ∀ (i : Nat) (l : Lf C), (KK.enc .e9 x)[i]? = some l → Sm KK l) : sm_String x := by
  have := h 0 _ rfl
  cases this; exact max_len ‹_›
theorem sm_StringS_of {xs : List (C .e9)} (h : Sm KK (.row .e9 xs)) : xs.length ≤ 9223372036854775807 ∧ ∀ y ∈ xs, sm_String y := by
  cases h with
  | row _ _ hl hs =>
    refine ⟨max_len hl, fun y hy => ?_⟩
    obtain ⟨j, hj, rfl⟩ := List.mem_iff_getElem.1 hy
    exact sm_String_of (fun i l e => hs j hj i l e)
theorem sz_StringS {xs : List ByteArray} (h : xs.length ≤ 9223372036854775807) (hs : ∀ y ∈ xs, sm_String y) {a : Int} (h0 : 0 ≤ a) (h1 : a ≤ 1048576) : Szd a (s_StringS xs) (G21 xs a) := by
  unfold G21 G21n s_StringS
  refine szd_sub h0 h1 h fun b0 c0 => ?_
  refine szd_lp (rnd := r21_0 fuel) (s := s_String) (fun rec a => by simp [r21_0]) (fun rec a t i hi h0 h1 hr => ?_) fuel 0 _ (Nat.zero_le _) (by have := fuel_big; omega) b0 (by omega)
  have hw := wrap_nat (i := i) (by omega)
  have h1' : (i : Int) < (xs.length : Int) := by omega
  simp only [r21_0]
  rw [get_cast hi, hw]
  simp only [h1', decide_true, cond_true, Int.natCast_nonneg, Option.bind_some]
  exact szd_sub (n := xs[i].size) h0 h1 (hs _ (List.getElem_mem hi)) fun b c => hr _ b c
theorem to_StringS {xs : List ByteArray} (h : s_StringS xs ≤ 1048576) : G28 xs = some xs := by
  have hl := s_StringS_len xs
  unfold G28 G28n
  have h1 : (xs.length : Int) * 16 ≤ 140737488355328 := by omega
  simp only [h1, decide_true, cond_true, Int.natCast_nonneg]
  refine copy_lp (rnd := r28_0 fuel) (by omega) (fun rec ys => by simp [r28_0]) (fun rec ys i hi hy => ?_) _ (by simp)
  have hw := wrap_nat (i := i) (by omega)
  have h1 : (i : Int) < (xs.length : Int) := by omega
  have h2 : (i : Int) < (ys.length : Int) := by omega
  simp only [r28_0]
  rw [get_cast hi, get_cast hy, hw]
  simp only [h1, h2, decide_true, cond_true, Int.natCast_nonneg, Option.bind_some, Int.toNat_natCast]
def s_GateField (x : VGateField) : Nat := x.Name.size + (s_StringS x.Words + (x.To.size + (x.Default.size + (x.Weighs.size + (0)))))
def sm_GateField (x : VGateField) : Prop := x.Name.size ≤ 9223372036854775807 ∧ (x.Words.length ≤ 9223372036854775807 ∧ ∀ y ∈ x.Words, sm_String y) ∧ x.To.size ≤ 9223372036854775807 ∧ x.Default.size ≤ 9223372036854775807 ∧ x.Weighs.size ≤ 9223372036854775807 ∧ True
def s_GateFieldS (xs : List VGateField) : Nat := xs.length + (xs.map s_GateField).sum
theorem s_GateFieldS_len (xs : List VGateField) : xs.length ≤ s_GateFieldS xs := by unfold s_GateFieldS; omega
theorem s_GateFieldS_get {xs : List VGateField} {i : Nat} (hi : i < xs.length) : s_GateField xs[i] ≤ s_GateFieldS xs := by have := sum_get (w := s_GateField) hi; unfold s_GateFieldS; omega
theorem s_GateFieldS_mem {xs : List VGateField} {x : VGateField} (h : x ∈ xs) : s_GateField x ≤ s_GateFieldS xs := by obtain ⟨i, hi, rfl⟩ := List.mem_iff_getElem.1 h; exact s_GateFieldS_get hi
theorem ws_GateField (x : VGateField) : w_GateField x ≤ 64 * (1 + s_GateField x) := by
  have := w_sum ws_String x.Words
  simp only [w_GateField, s_GateField, w_StringS, s_StringS]; omega
theorem ws_GateFieldS (xs : List VGateField) : w_GateFieldS xs ≤ 64 * s_GateFieldS xs := w_sum ws_GateField xs
theorem sm_GateField_of {x : C .e144} (h : ∀ (i : Nat) (l : Lf C), (KK.enc .e144 x)[i]? = some l → Sm KK l) : sm_GateField x := by
  refine ⟨?_, ⟨?_, ?_⟩, ?_, ?_, ?_, trivial⟩
  · have := h 0 _ rfl
    cases this; exact max_len ‹_›
  · have := h 4 _ rfl
    cases this; exact max_len ‹_›
  · intro y hy
    obtain ⟨j, hj, rfl⟩ := List.mem_iff_getElem.1 hy
    have := h 4 _ rfl
    cases this with
    | row _ _ hl hs => exact sm_String_of (fun i l e => hs j hj i l e)
  · have := h 5 _ rfl
    cases this; exact max_len ‹_›
  · have := h 9 _ rfl
    cases this; exact max_len ‹_›
  · have := h 10 _ rfl
    cases this; exact max_len ‹_›
theorem sm_GateFieldS_of {xs : List (C .e144)} (h : Sm KK (.row .e144 xs)) : xs.length ≤ 9223372036854775807 ∧ ∀ y ∈ xs, sm_GateField y := by
  cases h with
  | row _ _ hl hs =>
    refine ⟨max_len hl, fun y hy => ?_⟩
    obtain ⟨j, hj, rfl⟩ := List.mem_iff_getElem.1 hy
    exact sm_GateField_of (fun i l e => hs j hj i l e)
theorem sz_GateField {x : VGateField} (h : sm_GateField x) {a : Int} (h0 : 0 ≤ a) (h1 : a ≤ 1048576) : Szd a (s_GateField x) (G86 x a) := by
  obtain ⟨m0, m1, m2, m3, m4, -⟩ := h
  unfold G86 G86n s_GateField
  refine szd_sub h0 h1 m0 fun b0 c0 => ?_
  refine szd_bind (sz_StringS m1.1 m1.2 b0 (by omega)) fun x1 b1 c1 => ?_
  refine szd_sub b1 (by omega) m2 fun b2 c2 => ?_
  refine szd_sub b2 (by omega) m3 fun b3 c3 => ?_
  refine szd_sub b3 (by omega) m4 fun b4 c4 => ?_
  exact szd_ret b4
theorem sz_GateFieldS {xs : List VGateField} (h : xs.length ≤ 9223372036854775807) (hs : ∀ y ∈ xs, sm_GateField y) {a : Int} (h0 : 0 ≤ a) (h1 : a ≤ 1048576) : Szd a (s_GateFieldS xs) (G72 xs a) := by
  unfold G72 G72n s_GateFieldS
  refine szd_sub h0 h1 h fun b0 c0 => ?_
  refine szd_lp (rnd := r72_0 fuel) (s := s_GateField) (fun rec a => by simp [r72_0]) (fun rec a t i hi h0 h1 hr => ?_) fuel 0 _ (Nat.zero_le _) (by have := fuel_big; omega) b0 (by omega)
  have hw := wrap_nat (i := i) (by omega)
  have h1' : (i : Int) < (xs.length : Int) := by omega
  simp only [r72_0]
  rw [get_cast hi, hw]
  simp only [h1', decide_true, cond_true, Int.natCast_nonneg, Option.bind_some]
  exact szd_bind (sz_GateField (hs _ (List.getElem_mem hi)) h0 h1) fun b b0 b1 => hr b b0 b1
theorem to_GateField {x : VGateField} (h : s_GateField x ≤ 1048576) : G93 x = some x := by
  unfold s_GateField at h
  unfold G93 G93n
  simp only [to_StringS (xs := x.Words) (by omega), Option.bind_some]
theorem to_GateFieldS {xs : List VGateField} (h : s_GateFieldS xs ≤ 1048576) : G78 xs = some xs := by
  have hl := s_GateFieldS_len xs
  unfold G78 G78n
  have h1 : (xs.length : Int) * 128 ≤ 140737488355328 := by omega
  simp only [h1, decide_true, cond_true, Int.natCast_nonneg]
  refine copy_lp (rnd := r78_0 fuel) (by omega) (fun rec ys => by simp [r78_0]) (fun rec ys i hi hy => ?_) _ (by simp)
  have hw := wrap_nat (i := i) (by omega)
  have h1 : (i : Int) < (xs.length : Int) := by omega
  have h2 : (i : Int) < (ys.length : Int) := by omega
  have he := to_GateField (x := xs[i]) (by have := s_GateFieldS_get hi; omega)
  simp only [r78_0]
  rw [get_cast hi, get_cast hy, hw]
  simp only [h1, h2, decide_true, cond_true, Int.natCast_nonneg, Option.bind_some, Int.toNat_natCast, he]
def s_GateShape (x : VGateShape) : Nat := x.Kind.size + (s_GateFieldS x.Fields + (0))
def sm_GateShape (x : VGateShape) : Prop := x.Kind.size ≤ 9223372036854775807 ∧ (x.Fields.length ≤ 9223372036854775807 ∧ ∀ y ∈ x.Fields, sm_GateField y) ∧ True
def s_GateShapeS (xs : List VGateShape) : Nat := xs.length + (xs.map s_GateShape).sum
theorem s_GateShapeS_len (xs : List VGateShape) : xs.length ≤ s_GateShapeS xs := by unfold s_GateShapeS; omega
theorem s_GateShapeS_get {xs : List VGateShape} {i : Nat} (hi : i < xs.length) : s_GateShape xs[i] ≤ s_GateShapeS xs := by have := sum_get (w := s_GateShape) hi; unfold s_GateShapeS; omega
theorem s_GateShapeS_mem {xs : List VGateShape} {x : VGateShape} (h : x ∈ xs) : s_GateShape x ≤ s_GateShapeS xs := by obtain ⟨i, hi, rfl⟩ := List.mem_iff_getElem.1 h; exact s_GateShapeS_get hi
theorem ws_GateShape (x : VGateShape) : w_GateShape x ≤ 64 * (1 + s_GateShape x) := by
  have := w_sum ws_GateField x.Fields
  simp only [w_GateShape, s_GateShape, w_GateFieldS, s_GateFieldS]; omega
theorem ws_GateShapeS (xs : List VGateShape) : w_GateShapeS xs ≤ 64 * s_GateShapeS xs := w_sum ws_GateShape xs
theorem sm_GateShape_of {x : C .e90} (h : ∀ (i : Nat) (l : Lf C), (KK.enc .e90 x)[i]? = some l → Sm KK l) : sm_GateShape x := by
  refine ⟨?_, ⟨?_, ?_⟩, trivial⟩
  · have := h 0 _ rfl
    cases this; exact max_len ‹_›
  · have := h 1 _ rfl
    cases this; exact max_len ‹_›
  · intro y hy
    obtain ⟨j, hj, rfl⟩ := List.mem_iff_getElem.1 hy
    have := h 1 _ rfl
    cases this with
    | row _ _ hl hs => exact sm_GateField_of (fun i l e => hs j hj i l e)
theorem sm_GateShapeS_of {xs : List (C .e90)} (h : Sm KK (.row .e90 xs)) : xs.length ≤ 9223372036854775807 ∧ ∀ y ∈ xs, sm_GateShape y := by
  cases h with
  | row _ _ hl hs =>
    refine ⟨max_len hl, fun y hy => ?_⟩
    obtain ⟨j, hj, rfl⟩ := List.mem_iff_getElem.1 hy
    exact sm_GateShape_of (fun i l e => hs j hj i l e)
theorem sz_GateShape {x : VGateShape} (h : sm_GateShape x) {a : Int} (h0 : 0 ≤ a) (h1 : a ≤ 1048576) : Szd a (s_GateShape x) (G44 x a) := by
  obtain ⟨m0, m1, -⟩ := h
  unfold G44 G44n s_GateShape
  refine szd_sub h0 h1 m0 fun b0 c0 => ?_
  refine szd_bind (sz_GateFieldS m1.1 m1.2 b0 (by omega)) fun x1 b1 c1 => ?_
  exact szd_ret b1
theorem sz_GateShapeS {xs : List VGateShape} (h : xs.length ≤ 9223372036854775807) (hs : ∀ y ∈ xs, sm_GateShape y) {a : Int} (h0 : 0 ≤ a) (h1 : a ≤ 1048576) : Szd a (s_GateShapeS xs) (G18 xs a) := by
  unfold G18 G18n s_GateShapeS
  refine szd_sub h0 h1 h fun b0 c0 => ?_
  refine szd_lp (rnd := r18_0 fuel) (s := s_GateShape) (fun rec a => by simp [r18_0]) (fun rec a t i hi h0 h1 hr => ?_) fuel 0 _ (Nat.zero_le _) (by have := fuel_big; omega) b0 (by omega)
  have hw := wrap_nat (i := i) (by omega)
  have h1' : (i : Int) < (xs.length : Int) := by omega
  simp only [r18_0]
  rw [get_cast hi, hw]
  simp only [h1', decide_true, cond_true, Int.natCast_nonneg, Option.bind_some]
  exact szd_bind (sz_GateShape (hs _ (List.getElem_mem hi)) h0 h1) fun b b0 b1 => hr b b0 b1
theorem to_GateShape {x : VGateShape} (h : s_GateShape x ≤ 1048576) : G58 x = some x := by
  unfold s_GateShape at h
  unfold G58 G58n
  simp only [to_GateFieldS (xs := x.Fields) (by omega), Option.bind_some]
theorem to_GateShapeS {xs : List VGateShape} (h : s_GateShapeS xs ≤ 1048576) : G25 xs = some xs := by
  have hl := s_GateShapeS_len xs
  unfold G25 G25n
  have h1 : (xs.length : Int) * 40 ≤ 140737488355328 := by omega
  simp only [h1, decide_true, cond_true, Int.natCast_nonneg]
  refine copy_lp (rnd := r25_0 fuel) (by omega) (fun rec ys => by simp [r25_0]) (fun rec ys i hi hy => ?_) _ (by simp)
  have hw := wrap_nat (i := i) (by omega)
  have h1 : (i : Int) < (xs.length : Int) := by omega
  have h2 : (i : Int) < (ys.length : Int) := by omega
  have he := to_GateShape (x := xs[i]) (by have := s_GateShapeS_get hi; omega)
  simp only [r25_0]
  rw [get_cast hi, get_cast hy, hw]
  simp only [h1, h2, decide_true, cond_true, Int.natCast_nonneg, Option.bind_some, Int.toNat_natCast, he]
def s_GateMend (x : VGateMend) : Nat := x.Kind.size + (x.Field.size + (x.When.size + (x.Is.size + (x.Put.size + (x.From.size + (0))))))
def sm_GateMend (x : VGateMend) : Prop := x.Kind.size ≤ 9223372036854775807 ∧ x.Field.size ≤ 9223372036854775807 ∧ x.When.size ≤ 9223372036854775807 ∧ x.Is.size ≤ 9223372036854775807 ∧ x.Put.size ≤ 9223372036854775807 ∧ x.From.size ≤ 9223372036854775807 ∧ True
def s_GateMendS (xs : List VGateMend) : Nat := xs.length + (xs.map s_GateMend).sum
theorem s_GateMendS_len (xs : List VGateMend) : xs.length ≤ s_GateMendS xs := by unfold s_GateMendS; omega
theorem s_GateMendS_get {xs : List VGateMend} {i : Nat} (hi : i < xs.length) : s_GateMend xs[i] ≤ s_GateMendS xs := by have := sum_get (w := s_GateMend) hi; unfold s_GateMendS; omega
theorem s_GateMendS_mem {xs : List VGateMend} {x : VGateMend} (h : x ∈ xs) : s_GateMend x ≤ s_GateMendS xs := by obtain ⟨i, hi, rfl⟩ := List.mem_iff_getElem.1 h; exact s_GateMendS_get hi
theorem ws_GateMend (x : VGateMend) : w_GateMend x ≤ 64 * (1 + s_GateMend x) := by
  simp only [w_GateMend, s_GateMend]; omega
theorem ws_GateMendS (xs : List VGateMend) : w_GateMendS xs ≤ 64 * s_GateMendS xs := w_sum ws_GateMend xs
theorem sm_GateMend_of {x : C .e93} (h : ∀ (i : Nat) (l : Lf C), (KK.enc .e93 x)[i]? = some l → Sm KK l) : sm_GateMend x := by
  refine ⟨?_, ?_, ?_, ?_, ?_, ?_, trivial⟩
  · have := h 0 _ rfl
    cases this; exact max_len ‹_›
  · have := h 1 _ rfl
    cases this; exact max_len ‹_›
  · have := h 2 _ rfl
    cases this; exact max_len ‹_›
  · have := h 3 _ rfl
    cases this; exact max_len ‹_›
  · have := h 4 _ rfl
    cases this; exact max_len ‹_›
  · have := h 5 _ rfl
    cases this; exact max_len ‹_›
theorem sm_GateMendS_of {xs : List (C .e93)} (h : Sm KK (.row .e93 xs)) : xs.length ≤ 9223372036854775807 ∧ ∀ y ∈ xs, sm_GateMend y := by
  cases h with
  | row _ _ hl hs =>
    refine ⟨max_len hl, fun y hy => ?_⟩
    obtain ⟨j, hj, rfl⟩ := List.mem_iff_getElem.1 hy
    exact sm_GateMend_of (fun i l e => hs j hj i l e)
theorem sz_GateMend {x : VGateMend} (h : sm_GateMend x) {a : Int} (h0 : 0 ≤ a) (h1 : a ≤ 1048576) : Szd a (s_GateMend x) (G45 x a) := by
  obtain ⟨m0, m1, m2, m3, m4, m5, -⟩ := h
  unfold G45 G45n s_GateMend
  refine szd_sub h0 h1 m0 fun b0 c0 => ?_
  refine szd_sub b0 (by omega) m1 fun b1 c1 => ?_
  refine szd_sub b1 (by omega) m2 fun b2 c2 => ?_
  refine szd_sub b2 (by omega) m3 fun b3 c3 => ?_
  refine szd_sub b3 (by omega) m4 fun b4 c4 => ?_
  refine szd_sub b4 (by omega) m5 fun b5 c5 => ?_
  exact szd_ret b5
theorem sz_GateMendS {xs : List VGateMend} (h : xs.length ≤ 9223372036854775807) (hs : ∀ y ∈ xs, sm_GateMend y) {a : Int} (h0 : 0 ≤ a) (h1 : a ≤ 1048576) : Szd a (s_GateMendS xs) (G19 xs a) := by
  unfold G19 G19n s_GateMendS
  refine szd_sub h0 h1 h fun b0 c0 => ?_
  refine szd_lp (rnd := r19_0 fuel) (s := s_GateMend) (fun rec a => by simp [r19_0]) (fun rec a t i hi h0 h1 hr => ?_) fuel 0 _ (Nat.zero_le _) (by have := fuel_big; omega) b0 (by omega)
  have hw := wrap_nat (i := i) (by omega)
  have h1' : (i : Int) < (xs.length : Int) := by omega
  simp only [r19_0]
  rw [get_cast hi, hw]
  simp only [h1', decide_true, cond_true, Int.natCast_nonneg, Option.bind_some]
  exact szd_bind (sz_GateMend (hs _ (List.getElem_mem hi)) h0 h1) fun b b0 b1 => hr b b0 b1
theorem to_GateMend {x : VGateMend} (h : s_GateMend x ≤ 1048576) : G59 x = some x := by
  unfold s_GateMend at h
  unfold G59 G59n
  rfl
theorem to_GateMendS {xs : List VGateMend} (h : s_GateMendS xs ≤ 1048576) : G26 xs = some xs := by
  have hl := s_GateMendS_len xs
  unfold G26 G26n
  have h1 : (xs.length : Int) * 96 ≤ 140737488355328 := by omega
  simp only [h1, decide_true, cond_true, Int.natCast_nonneg]
  refine copy_lp (rnd := r26_0 fuel) (by omega) (fun rec ys => by simp [r26_0]) (fun rec ys i hi hy => ?_) _ (by simp)
  have hw := wrap_nat (i := i) (by omega)
  have h1 : (i : Int) < (xs.length : Int) := by omega
  have h2 : (i : Int) < (ys.length : Int) := by omega
  have he := to_GateMend (x := xs[i]) (by have := s_GateMendS_get hi; omega)
  simp only [r26_0]
  rw [get_cast hi, get_cast hy, hw]
  simp only [h1, h2, decide_true, cond_true, Int.natCast_nonneg, Option.bind_some, Int.toNat_natCast, he]
def s_GateTeam (x : VGateTeam) : Nat := x.Name.size + (x.Over.size + (0))
def sm_GateTeam (x : VGateTeam) : Prop := x.Name.size ≤ 9223372036854775807 ∧ x.Over.size ≤ 9223372036854775807 ∧ True
def s_GateTeamS (xs : List VGateTeam) : Nat := xs.length + (xs.map s_GateTeam).sum
theorem s_GateTeamS_len (xs : List VGateTeam) : xs.length ≤ s_GateTeamS xs := by unfold s_GateTeamS; omega
theorem s_GateTeamS_get {xs : List VGateTeam} {i : Nat} (hi : i < xs.length) : s_GateTeam xs[i] ≤ s_GateTeamS xs := by have := sum_get (w := s_GateTeam) hi; unfold s_GateTeamS; omega
theorem s_GateTeamS_mem {xs : List VGateTeam} {x : VGateTeam} (h : x ∈ xs) : s_GateTeam x ≤ s_GateTeamS xs := by obtain ⟨i, hi, rfl⟩ := List.mem_iff_getElem.1 h; exact s_GateTeamS_get hi
theorem ws_GateTeam (x : VGateTeam) : w_GateTeam x ≤ 64 * (1 + s_GateTeam x) := by
  simp only [w_GateTeam, s_GateTeam]; omega
theorem ws_GateTeamS (xs : List VGateTeam) : w_GateTeamS xs ≤ 64 * s_GateTeamS xs := w_sum ws_GateTeam xs
theorem sm_GateTeam_of {x : C .e96} (h : ∀ (i : Nat) (l : Lf C), (KK.enc .e96 x)[i]? = some l → Sm KK l) : sm_GateTeam x := by
  refine ⟨?_, ?_, trivial⟩
  · have := h 0 _ rfl
    cases this; exact max_len ‹_›
  · have := h 1 _ rfl
    cases this; exact max_len ‹_›
theorem sm_GateTeamS_of {xs : List (C .e96)} (h : Sm KK (.row .e96 xs)) : xs.length ≤ 9223372036854775807 ∧ ∀ y ∈ xs, sm_GateTeam y := by
  cases h with
  | row _ _ hl hs =>
    refine ⟨max_len hl, fun y hy => ?_⟩
    obtain ⟨j, hj, rfl⟩ := List.mem_iff_getElem.1 hy
    exact sm_GateTeam_of (fun i l e => hs j hj i l e)
theorem sz_GateTeam {x : VGateTeam} (h : sm_GateTeam x) {a : Int} (h0 : 0 ≤ a) (h1 : a ≤ 1048576) : Szd a (s_GateTeam x) (G46 x a) := by
  obtain ⟨m0, m1, -⟩ := h
  unfold G46 G46n s_GateTeam
  refine szd_sub h0 h1 m0 fun b0 c0 => ?_
  refine szd_sub b0 (by omega) m1 fun b1 c1 => ?_
  exact szd_ret b1
theorem sz_GateTeamS {xs : List VGateTeam} (h : xs.length ≤ 9223372036854775807) (hs : ∀ y ∈ xs, sm_GateTeam y) {a : Int} (h0 : 0 ≤ a) (h1 : a ≤ 1048576) : Szd a (s_GateTeamS xs) (G20 xs a) := by
  unfold G20 G20n s_GateTeamS
  refine szd_sub h0 h1 h fun b0 c0 => ?_
  refine szd_lp (rnd := r20_0 fuel) (s := s_GateTeam) (fun rec a => by simp [r20_0]) (fun rec a t i hi h0 h1 hr => ?_) fuel 0 _ (Nat.zero_le _) (by have := fuel_big; omega) b0 (by omega)
  have hw := wrap_nat (i := i) (by omega)
  have h1' : (i : Int) < (xs.length : Int) := by omega
  simp only [r20_0]
  rw [get_cast hi, hw]
  simp only [h1', decide_true, cond_true, Int.natCast_nonneg, Option.bind_some]
  exact szd_bind (sz_GateTeam (hs _ (List.getElem_mem hi)) h0 h1) fun b b0 b1 => hr b b0 b1
theorem to_GateTeam {x : VGateTeam} (h : s_GateTeam x ≤ 1048576) : G60 x = some x := by
  unfold s_GateTeam at h
  unfold G60 G60n
  rfl
theorem to_GateTeamS {xs : List VGateTeam} (h : s_GateTeamS xs ≤ 1048576) : G27 xs = some xs := by
  have hl := s_GateTeamS_len xs
  unfold G27 G27n
  have h1 : (xs.length : Int) * 32 ≤ 140737488355328 := by omega
  simp only [h1, decide_true, cond_true, Int.natCast_nonneg]
  refine copy_lp (rnd := r27_0 fuel) (by omega) (fun rec ys => by simp [r27_0]) (fun rec ys i hi hy => ?_) _ (by simp)
  have hw := wrap_nat (i := i) (by omega)
  have h1 : (i : Int) < (xs.length : Int) := by omega
  have h2 : (i : Int) < (ys.length : Int) := by omega
  have he := to_GateTeam (x := xs[i]) (by have := s_GateTeamS_get hi; omega)
  simp only [r27_0]
  rw [get_cast hi, get_cast hy, hw]
  simp only [h1, h2, decide_true, cond_true, Int.natCast_nonneg, Option.bind_some, Int.toNat_natCast, he]
def s_GateLaw (x : VGateLaw) : Nat := s_GateShapeS x.Shapes + (s_GateMendS x.Mends + (s_GateTeamS x.Teams + (0)))
def sm_GateLaw (x : VGateLaw) : Prop := (x.Shapes.length ≤ 9223372036854775807 ∧ ∀ y ∈ x.Shapes, sm_GateShape y) ∧ (x.Mends.length ≤ 9223372036854775807 ∧ ∀ y ∈ x.Mends, sm_GateMend y) ∧ (x.Teams.length ≤ 9223372036854775807 ∧ ∀ y ∈ x.Teams, sm_GateTeam y) ∧ True
def s_GateLawS (xs : List VGateLaw) : Nat := xs.length + (xs.map s_GateLaw).sum
theorem s_GateLawS_len (xs : List VGateLaw) : xs.length ≤ s_GateLawS xs := by unfold s_GateLawS; omega
theorem s_GateLawS_get {xs : List VGateLaw} {i : Nat} (hi : i < xs.length) : s_GateLaw xs[i] ≤ s_GateLawS xs := by have := sum_get (w := s_GateLaw) hi; unfold s_GateLawS; omega
theorem s_GateLawS_mem {xs : List VGateLaw} {x : VGateLaw} (h : x ∈ xs) : s_GateLaw x ≤ s_GateLawS xs := by obtain ⟨i, hi, rfl⟩ := List.mem_iff_getElem.1 h; exact s_GateLawS_get hi
theorem sz_GateLaw {x : VGateLaw} (h : sm_GateLaw x) {a : Int} (h0 : 0 ≤ a) (h1 : a ≤ 1048576) : Szd a (s_GateLaw x) (G5 x a) := by
  obtain ⟨m0, m1, m2, -⟩ := h
  unfold G5 G5n s_GateLaw
  refine szd_bind (sz_GateShapeS m0.1 m0.2 h0 h1) fun x0 b0 c0 => ?_
  refine szd_bind (sz_GateMendS m1.1 m1.2 b0 (by omega)) fun x1 b1 c1 => ?_
  refine szd_bind (sz_GateTeamS m2.1 m2.2 b1 (by omega)) fun x2 b2 c2 => ?_
  exact szd_ret b2
theorem to_GateLaw {x : VGateLaw} (h : s_GateLaw x ≤ 1048576) : G8 x = some x := by
  unfold s_GateLaw at h
  unfold G8 G8n
  simp only [to_GateShapeS (xs := x.Shapes) (by omega), to_GateMendS (xs := x.Mends) (by omega), to_GateTeamS (xs := x.Teams) (by omega), Option.bind_some]
def s_Int (x : Int) : Nat := 0
def sm_Int (x : Int) : Prop := True
def s_IntS (xs : List Int) : Nat := xs.length + (xs.map s_Int).sum
theorem s_IntS_len (xs : List Int) : xs.length ≤ s_IntS xs := by unfold s_IntS; omega
theorem s_IntS_get {xs : List Int} {i : Nat} (hi : i < xs.length) : s_Int xs[i] ≤ s_IntS xs := by have := sum_get (w := s_Int) hi; unfold s_IntS; omega
theorem s_IntS_mem {xs : List Int} {x : Int} (h : x ∈ xs) : s_Int x ≤ s_IntS xs := by obtain ⟨i, hi, rfl⟩ := List.mem_iff_getElem.1 h; exact s_IntS_get hi
theorem ws_Int (x : Int) : w_Int x ≤ 64 * (1 + s_Int x) := by
  simp only [w_Int, s_Int]; omega
theorem ws_IntS (xs : List Int) : w_IntS xs ≤ 64 * s_IntS xs := w_sum ws_Int xs
theorem sm_Int_of {x : C .e3} (h : ∀ (i : Nat) (l : Lf C), (KK.enc .e3 x)[i]? = some l → Sm KK l) : sm_Int x := by
  trivial
theorem sm_IntS_of {xs : List (C .e3)} (h : Sm KK (.row .e3 xs)) : xs.length ≤ 9223372036854775807 ∧ ∀ y ∈ xs, sm_Int y := by
  cases h with
  | row _ _ hl hs =>
    refine ⟨max_len hl, fun y hy => ?_⟩
    obtain ⟨j, hj, rfl⟩ := List.mem_iff_getElem.1 hy
    exact sm_Int_of (fun i l e => hs j hj i l e)
theorem sz_IntS {xs : List Int} (h : xs.length ≤ 9223372036854775807) (hs : ∀ y ∈ xs, sm_Int y) {a : Int} (h0 : 0 ≤ a) (h1 : a ≤ 1048576) : Szd a (s_IntS xs) (G47 xs a) := by
  unfold G47 G47n s_IntS
  refine szd_sub h0 h1 h fun b0 c0 => ?_
  have e0 : ∀ ys : List Int, (ys.map s_Int).sum = 0 := fun ys => by induction ys with
    | nil => rfl
    | cons y t ih => simp only [List.map_cons, List.sum_cons, ih, s_Int]
  rw [e0]
  exact szd_ret b0
theorem to_IntS {xs : List Int} (h : s_IntS xs ≤ 1048576) : G61 xs = some xs := by
  have hl := s_IntS_len xs
  unfold G61 G61n
  have h1 : (xs.length : Int) * 8 ≤ 140737488355328 := by omega
  simp only [h1, decide_true, cond_true, Int.natCast_nonneg]
  refine copy_lp (rnd := r61_0 fuel) (by omega) (fun rec ys => by simp [r61_0]) (fun rec ys i hi hy => ?_) _ (by simp)
  have hw := wrap_nat (i := i) (by omega)
  have h1 : (i : Int) < (xs.length : Int) := by omega
  have h2 : (i : Int) < (ys.length : Int) := by omega
  simp only [r61_0]
  rw [get_cast hi, get_cast hy, hw]
  simp only [h1, h2, decide_true, cond_true, Int.natCast_nonneg, Option.bind_some, Int.toNat_natCast]
def s_GateRule (x : VGateRule) : Nat := s_IntS x.Verbs + (x.Kind.size + (x.Team.size + (x.Prefix.size + (0))))
def sm_GateRule (x : VGateRule) : Prop := (x.Verbs.length ≤ 9223372036854775807 ∧ ∀ y ∈ x.Verbs, sm_Int y) ∧ x.Kind.size ≤ 9223372036854775807 ∧ x.Team.size ≤ 9223372036854775807 ∧ x.Prefix.size ≤ 9223372036854775807 ∧ True
def s_GateRuleS (xs : List VGateRule) : Nat := xs.length + (xs.map s_GateRule).sum
theorem s_GateRuleS_len (xs : List VGateRule) : xs.length ≤ s_GateRuleS xs := by unfold s_GateRuleS; omega
theorem s_GateRuleS_get {xs : List VGateRule} {i : Nat} (hi : i < xs.length) : s_GateRule xs[i] ≤ s_GateRuleS xs := by have := sum_get (w := s_GateRule) hi; unfold s_GateRuleS; omega
theorem s_GateRuleS_mem {xs : List VGateRule} {x : VGateRule} (h : x ∈ xs) : s_GateRule x ≤ s_GateRuleS xs := by obtain ⟨i, hi, rfl⟩ := List.mem_iff_getElem.1 h; exact s_GateRuleS_get hi
theorem sz_GateRule {x : VGateRule} (h : sm_GateRule x) {a : Int} (h0 : 0 ≤ a) (h1 : a ≤ 1048576) : Szd a (s_GateRule x) (G22 x a) := by
  obtain ⟨m0, m1, m2, m3, -⟩ := h
  unfold G22 G22n s_GateRule
  refine szd_bind (sz_IntS m0.1 m0.2 h0 h1) fun x0 b0 c0 => ?_
  refine szd_sub b0 (by omega) m1 fun b1 c1 => ?_
  refine szd_sub b1 (by omega) m2 fun b2 c2 => ?_
  refine szd_sub b2 (by omega) m3 fun b3 c3 => ?_
  exact szd_ret b3
theorem to_GateRule {x : VGateRule} (h : s_GateRule x ≤ 1048576) : G29 x = some x := by
  unfold s_GateRule at h
  unfold G29 G29n
  simp only [to_IntS (xs := x.Verbs) (by omega), Option.bind_some]
def s_GateAsk (x : VGateAsk) : Nat := x.Who.size + (x.Kind.size + (x.Name.size + (x.Team.size + (s_StringS x.Values + (s_StringS x.Holds + (x.Hold.size + (x.To.size + (s_GateRule (⟨x.Rule_Verbs, x.Rule_Kind, x.Rule_Team, x.Rule_Prefix⟩ : VGateRule) + (0)))))))))
def sm_GateAsk (x : VGateAsk) : Prop := x.Who.size ≤ 9223372036854775807 ∧ x.Kind.size ≤ 9223372036854775807 ∧ x.Name.size ≤ 9223372036854775807 ∧ x.Team.size ≤ 9223372036854775807 ∧ (x.Values.length ≤ 9223372036854775807 ∧ ∀ y ∈ x.Values, sm_String y) ∧ (x.Holds.length ≤ 9223372036854775807 ∧ ∀ y ∈ x.Holds, sm_String y) ∧ x.Hold.size ≤ 9223372036854775807 ∧ x.To.size ≤ 9223372036854775807 ∧ sm_GateRule (⟨x.Rule_Verbs, x.Rule_Kind, x.Rule_Team, x.Rule_Prefix⟩ : VGateRule) ∧ True
def s_GateAskS (xs : List VGateAsk) : Nat := xs.length + (xs.map s_GateAsk).sum
theorem s_GateAskS_len (xs : List VGateAsk) : xs.length ≤ s_GateAskS xs := by unfold s_GateAskS; omega
theorem s_GateAskS_get {xs : List VGateAsk} {i : Nat} (hi : i < xs.length) : s_GateAsk xs[i] ≤ s_GateAskS xs := by have := sum_get (w := s_GateAsk) hi; unfold s_GateAskS; omega
theorem s_GateAskS_mem {xs : List VGateAsk} {x : VGateAsk} (h : x ∈ xs) : s_GateAsk x ≤ s_GateAskS xs := by obtain ⟨i, hi, rfl⟩ := List.mem_iff_getElem.1 h; exact s_GateAskS_get hi
theorem sz_GateAsk {x : VGateAsk} (h : sm_GateAsk x) {a : Int} (h0 : 0 ≤ a) (h1 : a ≤ 1048576) : Szd a (s_GateAsk x) (G6 x a) := by
  obtain ⟨m0, m1, m2, m3, m4, m5, m6, m7, m8, -⟩ := h
  unfold G6 G6n s_GateAsk
  refine szd_sub h0 h1 m0 fun b0 c0 => ?_
  refine szd_sub b0 (by omega) m1 fun b1 c1 => ?_
  refine szd_sub b1 (by omega) m2 fun b2 c2 => ?_
  refine szd_sub b2 (by omega) m3 fun b3 c3 => ?_
  refine szd_bind (sz_StringS m4.1 m4.2 b3 (by omega)) fun x4 b4 c4 => ?_
  refine szd_bind (sz_StringS m5.1 m5.2 b4 (by omega)) fun x5 b5 c5 => ?_
  refine szd_sub b5 (by omega) m6 fun b6 c6 => ?_
  refine szd_sub b6 (by omega) m7 fun b7 c7 => ?_
  refine szd_bind (sz_GateRule m8 b7 (by omega)) fun x8 b8 c8 => ?_
  exact szd_ret b8
theorem to_GateAsk {x : VGateAsk} (h : s_GateAsk x ≤ 1048576) : G9 x = some x := by
  unfold s_GateAsk at h
  unfold G9 G9n
  simp only [to_StringS (xs := x.Values) (by omega), to_StringS (xs := x.Holds) (by omega), to_GateRule (x := (⟨x.Rule_Verbs, x.Rule_Kind, x.Rule_Team, x.Rule_Prefix⟩ : VGateRule)) (by omega), Option.bind_some]
def s_GateWant (x : VGateWant) : Nat := x.Kind.size + (x.Name.size + (0))
def sm_GateWant (x : VGateWant) : Prop := x.Kind.size ≤ 9223372036854775807 ∧ x.Name.size ≤ 9223372036854775807 ∧ True
def s_GateWantS (xs : List VGateWant) : Nat := xs.length + (xs.map s_GateWant).sum
theorem s_GateWantS_len (xs : List VGateWant) : xs.length ≤ s_GateWantS xs := by unfold s_GateWantS; omega
theorem s_GateWantS_get {xs : List VGateWant} {i : Nat} (hi : i < xs.length) : s_GateWant xs[i] ≤ s_GateWantS xs := by have := sum_get (w := s_GateWant) hi; unfold s_GateWantS; omega
theorem s_GateWantS_mem {xs : List VGateWant} {x : VGateWant} (h : x ∈ xs) : s_GateWant x ≤ s_GateWantS xs := by obtain ⟨i, hi, rfl⟩ := List.mem_iff_getElem.1 h; exact s_GateWantS_get hi
theorem ws_GateWant (x : VGateWant) : w_GateWant x ≤ 64 * (1 + s_GateWant x) := by
  simp only [w_GateWant, s_GateWant]; omega
theorem ws_GateWantS (xs : List VGateWant) : w_GateWantS xs ≤ 64 * s_GateWantS xs := w_sum ws_GateWant xs
theorem sm_GateWant_of {x : C .e127} (h : ∀ (i : Nat) (l : Lf C), (KK.enc .e127 x)[i]? = some l → Sm KK l) : sm_GateWant x := by
  refine ⟨?_, ?_, trivial⟩
  · have := h 0 _ rfl
    cases this; exact max_len ‹_›
  · have := h 1 _ rfl
    cases this; exact max_len ‹_›
theorem sm_GateWantS_of {xs : List (C .e127)} (h : Sm KK (.row .e127 xs)) : xs.length ≤ 9223372036854775807 ∧ ∀ y ∈ xs, sm_GateWant y := by
  cases h with
  | row _ _ hl hs =>
    refine ⟨max_len hl, fun y hy => ?_⟩
    obtain ⟨j, hj, rfl⟩ := List.mem_iff_getElem.1 hy
    exact sm_GateWant_of (fun i l e => hs j hj i l e)
theorem sz_GateWant {x : VGateWant} (h : sm_GateWant x) {a : Int} (h0 : 0 ≤ a) (h1 : a ≤ 1048576) : Szd a (s_GateWant x) (G69 x a) := by
  obtain ⟨m0, m1, -⟩ := h
  unfold G69 G69n s_GateWant
  refine szd_sub h0 h1 m0 fun b0 c0 => ?_
  refine szd_sub b0 (by omega) m1 fun b1 c1 => ?_
  exact szd_ret b1
theorem sz_GateWantS {xs : List VGateWant} (h : xs.length ≤ 9223372036854775807) (hs : ∀ y ∈ xs, sm_GateWant y) {a : Int} (h0 : 0 ≤ a) (h1 : a ≤ 1048576) : Szd a (s_GateWantS xs) (G40 xs a) := by
  unfold G40 G40n s_GateWantS
  refine szd_sub h0 h1 h fun b0 c0 => ?_
  refine szd_lp (rnd := r40_0 fuel) (s := s_GateWant) (fun rec a => by simp [r40_0]) (fun rec a t i hi h0 h1 hr => ?_) fuel 0 _ (Nat.zero_le _) (by have := fuel_big; omega) b0 (by omega)
  have hw := wrap_nat (i := i) (by omega)
  have h1' : (i : Int) < (xs.length : Int) := by omega
  simp only [r40_0]
  rw [get_cast hi, hw]
  simp only [h1', decide_true, cond_true, Int.natCast_nonneg, Option.bind_some]
  exact szd_bind (sz_GateWant (hs _ (List.getElem_mem hi)) h0 h1) fun b b0 b1 => hr b b0 b1
theorem to_GateWant {x : VGateWant} (h : s_GateWant x ≤ 1048576) : G70 x = some x := by
  unfold s_GateWant at h
  unfold G70 G70n
  rfl
theorem to_GateWantS {xs : List VGateWant} (h : s_GateWantS xs ≤ 1048576) : G42 xs = some xs := by
  have hl := s_GateWantS_len xs
  unfold G42 G42n
  have h1 : (xs.length : Int) * 40 ≤ 140737488355328 := by omega
  simp only [h1, decide_true, cond_true, Int.natCast_nonneg]
  refine copy_lp (rnd := r42_0 fuel) (by omega) (fun rec ys => by simp [r42_0]) (fun rec ys i hi hy => ?_) _ (by simp)
  have hw := wrap_nat (i := i) (by omega)
  have h1 : (i : Int) < (xs.length : Int) := by omega
  have h2 : (i : Int) < (ys.length : Int) := by omega
  have he := to_GateWant (x := xs[i]) (by have := s_GateWantS_get hi; omega)
  simp only [r42_0]
  rw [get_cast hi, get_cast hy, hw]
  simp only [h1, h2, decide_true, cond_true, Int.natCast_nonneg, Option.bind_some, Int.toNat_natCast, he]
def s_GateSlip (x : VGateSlip) : Nat := x.Door.size + (s_GateAsk (⟨x.Ask_Who, x.Ask_Verb, x.Ask_Kind, x.Ask_Name, x.Ask_Team, x.Ask_Values, x.Ask_Holds, x.Ask_Seen, x.Ask_Hold, x.Ask_To, x.Ask_Rule_Verbs, x.Ask_Rule_Kind, x.Ask_Rule_Team, x.Ask_Rule_Prefix, x.Ask_Number⟩ : VGateAsk) + (s_GateWantS x.Wants + (0)))
def sm_GateSlip (x : VGateSlip) : Prop := x.Door.size ≤ 9223372036854775807 ∧ sm_GateAsk (⟨x.Ask_Who, x.Ask_Verb, x.Ask_Kind, x.Ask_Name, x.Ask_Team, x.Ask_Values, x.Ask_Holds, x.Ask_Seen, x.Ask_Hold, x.Ask_To, x.Ask_Rule_Verbs, x.Ask_Rule_Kind, x.Ask_Rule_Team, x.Ask_Rule_Prefix, x.Ask_Number⟩ : VGateAsk) ∧ (x.Wants.length ≤ 9223372036854775807 ∧ ∀ y ∈ x.Wants, sm_GateWant y) ∧ True
def s_GateSlipS (xs : List VGateSlip) : Nat := xs.length + (xs.map s_GateSlip).sum
theorem s_GateSlipS_len (xs : List VGateSlip) : xs.length ≤ s_GateSlipS xs := by unfold s_GateSlipS; omega
theorem s_GateSlipS_get {xs : List VGateSlip} {i : Nat} (hi : i < xs.length) : s_GateSlip xs[i] ≤ s_GateSlipS xs := by have := sum_get (w := s_GateSlip) hi; unfold s_GateSlipS; omega
theorem s_GateSlipS_mem {xs : List VGateSlip} {x : VGateSlip} (h : x ∈ xs) : s_GateSlip x ≤ s_GateSlipS xs := by obtain ⟨i, hi, rfl⟩ := List.mem_iff_getElem.1 h; exact s_GateSlipS_get hi
theorem sz_GateSlip {x : VGateSlip} (h : sm_GateSlip x) {a : Int} (h0 : 0 ≤ a) (h1 : a ≤ 1048576) : Szd a (s_GateSlip x) (G13 x a) := by
  obtain ⟨m0, m1, m2, -⟩ := h
  unfold G13 G13n s_GateSlip
  refine szd_sub h0 h1 m0 fun b0 c0 => ?_
  refine szd_bind (sz_GateAsk m1 b0 (by omega)) fun x1 b1 c1 => ?_
  refine szd_bind (sz_GateWantS m2.1 m2.2 b1 (by omega)) fun x2 b2 c2 => ?_
  exact szd_ret b2
theorem to_GateSlip {x : VGateSlip} (h : s_GateSlip x ≤ 1048576) : G15 x = some x := by
  unfold s_GateSlip at h
  unfold G15 G15n
  simp only [to_GateWantS (xs := x.Wants) (by omega), to_GateAsk (x := (⟨x.Ask_Who, x.Ask_Verb, x.Ask_Kind, x.Ask_Name, x.Ask_Team, x.Ask_Values, x.Ask_Holds, x.Ask_Seen, x.Ask_Hold, x.Ask_To, x.Ask_Rule_Verbs, x.Ask_Rule_Kind, x.Ask_Rule_Team, x.Ask_Rule_Prefix, x.Ask_Number⟩ : VGateAsk)) (by omega), Option.bind_some]
end Go.Proofs.YtjodpeldfebhfaaGreat.Ab

