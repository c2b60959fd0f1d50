/- The functions that the law calls, written plainly, and their contracts: each call answers what its plain function answers. No conditions. -/
import Derived.Test.YtkiognopoigbhaaGb
set_option linter.unusedVariables false
set_option linter.unusedSimpArgs false
set_option maxRecDepth 100000
namespace Go.Proofs.Ytkiognopoigbhaa.Ab
open Go Go.RowKit
/-! ### f89 loop.example/wharfdesk/impl.rowOf$1 -/
noncomputable def X89 : Cx C := { K := KK, tk := lk tks, con := lkC [], conw := lkC [], inl := lkA [], hold := [], mp := lk mps, meth := lkS meths, off := 5832704 }
def F89 (n : Nat) : Cf := { N := n, keep := [0, 1, 2, 4, 5, 7, 8, 9, 10, 11, 24, 27, 35], live := lk [(0, [0, 2, 5, 8, 9, 10])] }
def dec89 (rs : List (Bool × List (Lf C))) : Option (List (C .e9)) := match rs with
  | [(false, [.row .e9 z0])] => some z0
  | _ => none
abbrev A89_0 : Type := ByteArray × C .e81 × List (C .e9) × List (C .e83) × Int × Int
def s89_0 : A89_0 → St C := fun (x0_0, x0_1, x0_2, x0_3, x0_4, x0_5) => { env := [(0, .one (.str x0_0)), (2, .one (.elt .e81 x0_1 0)), (5, .one (.ref 100005 [])), (8, .one (.row .e83 x0_3)), (9, .one (.int .i64 x0_4)), (10, .one (.int .i64 x0_5))], objs := [(100005, .row .e9 x0_2 false)], base := 0 }
noncomputable def r89_0 (n : Nat)  (rec0 : A89_0 → Option (List (C .e9))) : A89_0 → Option (List (C .e9)) := fun (x0_0, x0_1, x0_2, x0_3, x0_4, x0_5) =>
      cond (decide (x0_5 < x0_4))
      (cond (decide (0 ≤ x0_5)) (Option.bind x0_3[x0_5.toNat]? fun x1 => cond (!decide (x1.Kind = x0_1.Kind))
      (rec0 (x0_0, x0_1, x0_2, x0_3, x0_4, IntKind.i64.wrap (x0_5 + 1)))
      (cond (!decide (x1.Field = x0_0))
      (rec0 (x0_0, x0_1, x0_2, x0_3, x0_4, IntKind.i64.wrap (x0_5 + 1)))
      (cond (!decide (x1.When = (⟨#[]⟩ : ByteArray)))
      (cond (decide ((x0_2.length + (([x1.When] : List (C .e9))).length) * 16 ≤ 140737488355328)) (cond (!decide (x1.From = (⟨#[]⟩ : ByteArray)))
      (cond (decide (((x0_2 ++ (([x1.When] : List (C .e9)))).length + (([x1.From] : List (C .e9))).length) * 16 ≤ 140737488355328)) (rec0 (x0_0, x0_1, (x0_2 ++ (([x1.When] : List (C .e9)))) ++ (([x1.From] : List (C .e9))), x0_3, x0_4, IntKind.i64.wrap (x0_5 + 1))) none)
      (rec0 (x0_0, x0_1, x0_2 ++ (([x1.When] : List (C .e9))), x0_3, x0_4, IntKind.i64.wrap (x0_5 + 1)))) none)
      (cond (!decide (x1.From = (⟨#[]⟩ : ByteArray)))
      (cond (decide ((x0_2.length + (([x1.From] : List (C .e9))).length) * 16 ≤ 140737488355328)) (rec0 (x0_0, x0_1, x0_2 ++ (([x1.From] : List (C .e9))), x0_3, x0_4, IntKind.i64.wrap (x0_5 + 1))) none)
      (rec0 (x0_0, x0_1, x0_2, x0_3, x0_4, IntKind.i64.wrap (x0_5 + 1))))))) none)
      (some (x0_2))
noncomputable def LP89_0 (n : Nat)  (x : A89_0) : Option (List (C .e9)) := lpN (r89_0 n ) n x
noncomputable def MP89_0 (n : Nat)  (x : A89_0) : Option (List (C .e9)) := iter (fun rec S => run X89 (F89 n) (codeAt (bodyOf Go.Proofs.Try.f89) [1, 1, 0, 1, 0, 0]) 0 S (lopK rec (blkK 0 (seqK (run X89 (F89 n) (codeAt (bodyOf Go.Proofs.Try.f89) [1, 1, 1]) 0) (kTop X89 Go.Proofs.Try.f89 dec89))))) [0, 2, 5, 8, 9, 10] n (s89_0 x)
theorem m89_0 (n : Nat)  (x : A89_0) : MP89_0 n  x = LP89_0 n  x := by
  refine iter_eq s89_0 (r89_0 n ) (fun rec0 x => ?_) n x
  obtain ⟨x0_0, x0_1, x0_2, x0_3, x0_4, x0_5⟩ := x
  kernel_rfl
noncomputable def G89n (n : Nat) (a0 : ByteArray) (a1 : C .e30) (a2 : C .e81) : Option (List (C .e9)) :=
      LP89_0 n  (a0, a2, ([] : List (C .e9)), a1, (a1.length : Int), 0)
theorem t89 (n : Nat) (a0 : ByteArray) (a1 : C .e30) (a2 : C .e81) : runFn X89 (F89 n) Go.Proofs.Try.f89 [.one (.str a0), .one (.elt .e30 a1 0), .one (.elt .e81 a2 0)] dec89 = G89n n a0 a1 a2 := by
  have h : runFn X89 (F89 n) Go.Proofs.Try.f89 [.one (.str a0), .one (.elt .e30 a1 0), .one (.elt .e81 a2 0)] dec89 =
      MP89_0 n  (a0, a2, ([] : List (C .e9)), a1, (a1.length : Int), 0) := by kernel_rfl
  simp only [h, G89n, m89_0]
noncomputable def G89 (a0 : ByteArray) (a1 : C .e30) (a2 : C .e81) : Option (List (C .e9)) := G89n fuel a0 a1 a2
noncomputable def con89 : Con C := { R0 := List (C .e9), pt := [none, some .e30, some .e81], ret := fun r => [(false, [.row .e9 r])], g := fun vs => match vs with
  | [.one (.str y0), .one (.elt .e30 y1 0), .one (.elt .e81 y2 0)] => G89 y0 y1 y2
  | _ => none }
theorem x89 : XOk Go.Proofs.Try.prog X89 := ⟨tks_ok, els_ok, mps_ok, meths_ok⟩
theorem q89 : Cons Go.Proofs.Try.prog X89 := ⟨lkR_ok (l := []) trivial, lkW_ok (l := []) trivial, lkI_ok (l := []) trivial⟩
theorem c89 : ConOk Go.Proofs.Try.prog KK 89 con89 := by
  refine con_dec x89 q89 (by kernel_rfl) (f := 89) (fn := Go.Proofs.Try.f89) (c := bodyOf Go.Proofs.Try.f89) (by kernel_rfl) (by kernel_rfl) (by kernel_rfl) (nameB (by kernel_rfl)) con89 dec89 (fun rs r0 h => ?_) (fun vs r0 h => ?_)
  · unfold dec89 at h
    split at h
    · cases h; rfl
    · cases h
  · simp only [con89] at h
    split at h
    · rename_i y0 y1 y2
      exact ⟨Nat.le_of_ble_eq_true (by kernel_rfl), F89 fuel, (t89 fuel y0 y1 y2).trans h⟩
    · cases h
/-! ### f109 loop.example/wharfdesk/impl.row[string]$1, by a summary -/
noncomputable def F109 (n : Nat) : Cf := { N := n, keep := [0, 1, 2, 3, 4, 6, 8, 11, 12, 14, 20, 21, 22, 23, 29], live := lk [(1, [0, 1, 3, 4, 20, 21, 22])] }
def dec109 (os : Objs C) (ls : List (Lf C)) (rs : List (Bool × List (Lf C))) : Option (List (C .e9) × List (Nat × C .e9 × C .e3) × Nat × List (C .e83) × ByteArray × List (C .e100) × Bool) := match os, ls, rs with
  | [(5767552, .box .mem [.vo 5767872]), (5767360, .box .mem [.vo 3540416]), (5767680, .box .mem [.vo 5767936]), (5767616, .box .mem [.ref 577761600 []]), (577761600, .row .e9 z0 false), (5767872, .map ⟨false, false, false, false⟩ .e9 .e3 z1 z2), (3540416, .box (.clo 89 0 [(false, 1), (false, 1)]) [.ptr 3539136 0, .ptr 3539072 0]), (5767936, .box (.clo 109 0 [(false, 1), (false, 1), (false, 1), (false, 1)]) [.ptr 5767552 0, .ptr 5767360 0, .ptr 5767680 0, .ptr 5767616 0]), (3539136, .box .mem [.row .e83 z3]), (3539072, .box .mem [.str z4, .row .e100 z5]), (77777777, .ghost)], [.ptr 5767552 0, .ptr 5767360 0, .ptr 5767680 0, .ptr 5767616 0, .vo 5767872, .vo 3540416, .vo 5767936, .ptr 3539136 0, .ptr 3539072 0], [(false, [.bool z6])] => some (z0, z1, z2, z3, z4, z5, z6)
  | _, _, _ => none
abbrev A109_0 : Type := ByteArray × List (C .e9) × Int × Int × List (C .e9) × List (Nat × C .e9 × C .e3) × Nat × List (C .e83) × ByteArray × List (C .e100)
def s109_0 : A109_0 → St C := fun (x0_0, x0_1, x0_2, x0_3, x0_4, x0_5, x0_6, x0_7, x0_8, x0_9) => { env := [(0, .one (.str x0_0)), (1, .one (.ptr 5767552 0)), (3, .one (.ptr 5767680 0)), (4, .one (.ptr 5767616 0)), (20, .one (.ref 100020 [])), (21, .one (.int .i64 x0_2)), (22, .one (.int .i64 x0_3)), (90000, .frame), (90001, .sus (true, [.ptr 5767552 0, .ptr 5767360 0, .ptr 5767680 0, .ptr 5767616 0, .vo 5767872, .vo 3540416, .vo 5767936, .ptr 3539136 0, .ptr 3539072 0]) 0)], objs := [(100020, .row .e9 x0_1 false), (5767552, .box .mem [.vo 5767872]), (5767680, .box .mem [.vo 5767936]), (5767616, .box .mem [.ref 577761600 []]), (577761600, .row .e9 x0_4 false), (5767360, .box .mem [.vo 3540416]), (5767872, .map ⟨false, false, false, false⟩ .e9 .e3 x0_5 x0_6), (3540416, .box (.clo 89 0 [(false, 1), (false, 1)]) [.ptr 3539136 0, .ptr 3539072 0]), (5767936, .box (.clo 109 0 [(false, 1), (false, 1), (false, 1), (false, 1)]) [.ptr 5767552 0, .ptr 5767360 0, .ptr 5767680 0, .ptr 5767616 0]), (3539136, .box .mem [.row .e83 x0_7]), (3539072, .box .mem [.str x0_8, .row .e100 x0_9]), (77777777, .ghost)], base := 0 }
noncomputable def r109_0 (n : Nat) (rc : (ByteArray) → (List (C .e9)) → (List (Nat × C .e9 × C .e3)) → (Nat) → (List (C .e83)) → (ByteArray) → (List (C .e100)) → Option (List (C .e9) × List (Nat × C .e9 × C .e3) × Nat × List (C .e83) × ByteArray × List (C .e100) × Bool))  (rec0 : A109_0 → Option (List (C .e9) × List (Nat × C .e9 × C .e3) × Nat × List (C .e83) × ByteArray × List (C .e100) × Bool)) : A109_0 → Option (List (C .e9) × List (Nat × C .e9 × C .e3) × Nat × List (C .e83) × ByteArray × List (C .e100) × Bool) := fun (x0_0, x0_1, x0_2, x0_3, x0_4, x0_5, x0_6, x0_7, x0_8, x0_9) =>
      cond (decide (x0_3 < x0_2))
      (cond (decide (0 ≤ x0_3)) (cond (decide (x0_3 < (x0_1.length : Int))) (Option.bind x0_1[x0_3.toNat]? fun x2 => Option.bind (rc x2 x0_4 x0_5 x0_6 x0_7 x0_8 x0_9) fun r3 =>
      cond (!r3.2.2.2.2.2.2)
      (some (r3.1, r3.2.1, r3.2.2.1, r3.2.2.2.1, r3.2.2.2.2.1, r3.2.2.2.2.2.1, false))
      (rec0 (x0_0, x0_1, x0_2, IntKind.i64.wrap (x0_3 + 1), r3.1, r3.2.1, r3.2.2.1, r3.2.2.2.1, r3.2.2.2.2.1, r3.2.2.2.2.2.1))) none) none)
      (cond (decide ((x0_4.length + (([x0_0] : List (C .e9))).length) * 16 ≤ 140737488355328)) (some (x0_4 ++ (([x0_0] : List (C .e9))), mput KK .e9 .e3 x0_0 2 x0_6 x0_5, mclk KK .e9 .e3 x0_0 x0_6 x0_5, x0_7, x0_8, x0_9, true)) none)
noncomputable def LP109_0 (n : Nat) (rc : (ByteArray) → (List (C .e9)) → (List (Nat × C .e9 × C .e3)) → (Nat) → (List (C .e83)) → (ByteArray) → (List (C .e100)) → Option (List (C .e9) × List (Nat × C .e9 × C .e3) × Nat × List (C .e83) × ByteArray × List (C .e100) × Bool))  (x : A109_0) : Option (List (C .e9) × List (Nat × C .e9 × C .e3) × Nat × List (C .e83) × ByteArray × List (C .e100) × Bool) := lpN (r109_0 n rc ) n x
noncomputable def B109 (n : Nat) (rc : (ByteArray) → (List (C .e9)) → (List (Nat × C .e9 × C .e3)) → (Nat) → (List (C .e83)) → (ByteArray) → (List (C .e100)) → Option (List (C .e9) × List (Nat × C .e9 × C .e3) × Nat × List (C .e83) × ByteArray × List (C .e100) × Bool)) (a0 : ByteArray) (a1 : List (C .e9)) (a2 : List (Nat × C .e9 × C .e3)) (a3 : Nat) (a4 : List (C .e83)) (a5 : ByteArray) (a6 : List (C .e100)) : Option (List (C .e9) × List (Nat × C .e9 × C .e3) × Nat × List (C .e83) × ByteArray × List (C .e100) × Bool) :=
      cond ((mval KK .e9 .e3 a0 a2) == 1)
      (some (a1, a2, a3, a4, a5, a6, false))
      (cond ((mval KK .e9 .e3 a0 a2) == 2)
      (some (a1, a2, a3, a4, a5, a6, true))
      (Option.bind (G89 a0 a4 (⟨a5, a6⟩ : VGateShape)) fun r1 =>
      LP109_0 n rc  (a0, r1, (r1.length : Int), 0, a1, mput KK .e9 .e3 a0 1 a3 a2, mclk KK .e9 .e3 a0 a3 a2, a4, a5, a6)))
noncomputable def G109d (n : Nat) : Nat → (ByteArray) → (List (C .e9)) → (List (Nat × C .e9 × C .e3)) → (Nat) → (List (C .e83)) → (ByteArray) → (List (C .e100)) → Option (List (C .e9) × List (Nat × C .e9 × C .e3) × Nat × List (C .e83) × ByteArray × List (C .e100) × Bool)
  | 0 => fun _ _ _ _ _ _ _ => none
  | d + 1 => B109 n (G109d n d)
noncomputable def su109 (n d : Nat) : Sum C := { ids := [5767552, 5767360, 5767680, 5767616, 577761600, 5767872, 3540416, 5767936, 3539136, 3539072], roots := [.ptr 5767552 0, .ptr 5767360 0, .ptr 5767680 0, .ptr 5767616 0, .vo 5767872, .vo 3540416, .vo 5767936, .ptr 3539136 0, .ptr 3539072 0], rowIds := [577761600], R0 := List (C .e9) × List (Nat × C .e9 × C .e3) × Nat × List (C .e83) × ByteArray × List (C .e100) × Bool, out := fun r => [(5767552, .box .mem [.vo 5767872]), (5767360, .box .mem [.vo 3540416]), (5767680, .box .mem [.vo 5767936]), (5767616, .box .mem [.ref 577761600 []]), (577761600, .row .e9 r.1 false), (5767872, .map ⟨false, false, false, false⟩ .e9 .e3 r.2.1 r.2.2.1), (3540416, .box (.clo 89 0 [(false, 1), (false, 1)]) [.ptr 3539136 0, .ptr 3539072 0]), (5767936, .box (.clo 109 0 [(false, 1), (false, 1), (false, 1), (false, 1)]) [.ptr 5767552 0, .ptr 5767360 0, .ptr 5767680 0, .ptr 5767616 0]), (3539136, .box .mem [.row .e83 r.2.2.2.1]), (3539072, .box .mem [.str r.2.2.2.2.1, .row .e100 r.2.2.2.2.2.1])], ret := fun r => [(false, [.bool r.2.2.2.2.2.2])], g := fun vs O => match vs, O with
  | [.one (.str y0), .one (.ptr 5767552 0), .one (.ptr 5767360 0), .one (.ptr 5767680 0), .one (.ptr 5767616 0)], [(5767552, .box .mem [.vo 5767872]), (5767360, .box .mem [.vo 3540416]), (5767680, .box .mem [.vo 5767936]), (5767616, .box .mem [.ref 577761600 []]), (577761600, .row .e9 y1 false), (5767872, .map ⟨false, false, false, false⟩ .e9 .e3 y2 y3), (3540416, .box (.clo 89 0 [(false, 1), (false, 1)]) [.ptr 3539136 0, .ptr 3539072 0]), (5767936, .box (.clo 109 0 [(false, 1), (false, 1), (false, 1), (false, 1)]) [.ptr 5767552 0, .ptr 5767360 0, .ptr 5767680 0, .ptr 5767616 0]), (3539136, .box .mem [.row .e83 y4]), (3539072, .box .mem [.str y5, .row .e100 y6])] => G109d n d y0 y1 y2 y3 y4 y5 y6
  | _, _ => none }
noncomputable def X109 (n d : Nat) : Cx C := { K := KK, tk := lk tks, con := lkC [(89, con89)], conw := lkC [], inl := lkA [(109, sumInl (su109 n d))], hold := [0, 1, 3, 4, 20, 21, 22, 28, 29], mp := lk mps, meth := lkS meths, off := 7143424 }
noncomputable def MP109_0 (n d : Nat)  (x : A109_0) : Option (List (C .e9) × List (Nat × C .e9 × C .e3) × Nat × List (C .e83) × ByteArray × List (C .e100) × Bool) := iter (fun rec S => run (X109 n d) (F109 n) (codeAt (bodyOf Go.Proofs.Try.f109) [1, 1, 1, 0, 1, 0, 0]) 1 S (lopK rec (blkK 1 (seqK (run (X109 n d) (F109 n) (codeAt (bodyOf Go.Proofs.Try.f109) [1, 1, 1, 1]) 0) (kTopS (X109 n d) Go.Proofs.Try.f109 dec109))))) [0, 1, 3, 4, 20, 21, 22] n (s109_0 x)
theorem m109_0 (n d : Nat)  (x : A109_0) : MP109_0 n d  x = LP109_0 n (G109d n d)  x := by
  refine iter_eq s109_0 (r109_0 n (G109d n d) ) (fun rec0 x => ?_) n x
  obtain ⟨x0_0, x0_1, x0_2, x0_3, x0_4, x0_5, x0_6, x0_7, x0_8, x0_9⟩ := x
  kernel_rfl
theorem t109 (n d : Nat) (a0 : ByteArray) (a1 : List (C .e9)) (a2 : List (Nat × C .e9 × C .e3)) (a3 : Nat) (a4 : List (C .e83)) (a5 : ByteArray) (a6 : List (C .e100)) : runFnS (X109 n d) (F109 n) Go.Proofs.Try.f109 (su109 n (d + 1)) [.one (.str a0), .one (.ptr 5767552 0), .one (.ptr 5767360 0), .one (.ptr 5767680 0), .one (.ptr 5767616 0)] [(5767552, .box .mem [.vo 5767872]), (5767360, .box .mem [.vo 3540416]), (5767680, .box .mem [.vo 5767936]), (5767616, .box .mem [.ref 577761600 []]), (577761600, .row .e9 a1 false), (5767872, .map ⟨false, false, false, false⟩ .e9 .e3 a2 a3), (3540416, .box (.clo 89 0 [(false, 1), (false, 1)]) [.ptr 3539136 0, .ptr 3539072 0]), (5767936, .box (.clo 109 0 [(false, 1), (false, 1), (false, 1), (false, 1)]) [.ptr 5767552 0, .ptr 5767360 0, .ptr 5767680 0, .ptr 5767616 0]), (3539136, .box .mem [.row .e83 a4]), (3539072, .box .mem [.str a5, .row .e100 a6])] dec109 = B109 n (G109d n d) a0 a1 a2 a3 a4 a5 a6 := by
  have h : runFnS (X109 n d) (F109 n) Go.Proofs.Try.f109 (su109 n (d + 1)) [.one (.str a0), .one (.ptr 5767552 0), .one (.ptr 5767360 0), .one (.ptr 5767680 0), .one (.ptr 5767616 0)] [(5767552, .box .mem [.vo 5767872]), (5767360, .box .mem [.vo 3540416]), (5767680, .box .mem [.vo 5767936]), (5767616, .box .mem [.ref 577761600 []]), (577761600, .row .e9 a1 false), (5767872, .map ⟨false, false, false, false⟩ .e9 .e3 a2 a3), (3540416, .box (.clo 89 0 [(false, 1), (false, 1)]) [.ptr 3539136 0, .ptr 3539072 0]), (5767936, .box (.clo 109 0 [(false, 1), (false, 1), (false, 1), (false, 1)]) [.ptr 5767552 0, .ptr 5767360 0, .ptr 5767680 0, .ptr 5767616 0]), (3539136, .box .mem [.row .e83 a4]), (3539072, .box .mem [.str a5, .row .e100 a6])] dec109 =
      cond ((mval KK .e9 .e3 a0 a2) == 1)
      (some (a1, a2, a3, a4, a5, a6, false))
      (cond ((mval KK .e9 .e3 a0 a2) == 2)
      (some (a1, a2, a3, a4, a5, a6, true))
      (Option.bind (G89 a0 a4 (⟨a5, a6⟩ : VGateShape)) fun r1 =>
      MP109_0 n d  (a0, r1, (r1.length : Int), 0, a1, mput KK .e9 .e3 a0 1 a3 a2, mclk KK .e9 .e3 a0 a3 a2, a4, a5, a6))) := by kernel_rfl
  simp only [h, B109, m109_0]
noncomputable def I109 (n : Nat) : Inl C := sumInl (su109 n n)
theorem i109d (n : Nat) : ∀ d : Nat, InlOk Go.Proofs.Try.prog KK 109 (sumInl (su109 n d))
  | 0 => sum_none (fn := Go.Proofs.Try.f109) (by kernel_rfl) (by kernel_rfl) (nameB (by kernel_rfl)) _ (fun vs O => by simp only [su109]; split <;> rfl)
  | d + 1 => by
    have ih := i109d n d
    have x : XOk Go.Proofs.Try.prog (X109 n d) := ⟨tks_ok, els_ok, mps_ok, meths_ok⟩
    have q : Cons Go.Proofs.Try.prog (X109 n d) := ⟨lkR_ok (l := [(89, con89)]) ⟨c89, trivial⟩, lkW_ok (l := []) trivial, lkI_ok (l := [(109, sumInl (su109 n d))]) ⟨ih, trivial⟩⟩
    refine sum_of x q (by kernel_rfl) (f := 109) (fn := Go.Proofs.Try.f109) (c := bodyOf Go.Proofs.Try.f109) (by kernel_rfl) (by kernel_rfl) (by kernel_rfl) (nameB (by kernel_rfl)) (su109 n (d + 1)) (Nat.le_of_ble_eq_true (by kernel_rfl)) dec109 (fun os ls rs r0 h => ?_) (fun vs O r0 hk h => ?_)
    · unfold dec109 at h
      split at h
      · cases h; exact ⟨rfl, rfl, rfl⟩
      · cases h
    · simp only [su109] at h
      split at h
      · rename_i y0 y1 y2 y3 y4 y5 y6
        exact ⟨fit_of (by kernel_rfl) (by kernel_rfl) (by kernel_rfl) (by kernel_rfl) (by kernel_rfl) (by kernel_rfl) (by kernel_rfl) (by kernel_rfl) (by kernel_rfl), Nat.le_of_ble_eq_true (by kernel_rfl), F109 n, (t109 n d y0 y1 y2 y3 y4 y5 y6).trans h⟩
      · cases h
theorem i109 (n : Nat) : InlOk Go.Proofs.Try.prog KK 109 (I109 n) := i109d n n
/-! ### f88 loop.example/wharfdesk/impl.row[string], run in place -/
noncomputable def X88 (n : Nat) : Cx C := { K := KK, tk := lk tks, con := lkC [(89, con89)], conw := lkC [], inl := lkA [(109, I109 n)], hold := [7, 8, 13, 14, 15, 21, 22], mp := lk mps, meth := lkS meths, off := 5767168 }
def F88 (n : Nat) : Cf := { N := n, keep := [0, 1, 3, 4, 5, 6, 7, 8, 10, 13, 14, 15, 16, 22], live := lk [(0, [7, 8, 13, 14, 15])] }
noncomputable def I88 (n : Nat) : Inl C := inlOf (X88 n) (F88 n) Go.Proofs.Try.f88
theorem x88 (n : Nat) : XOk Go.Proofs.Try.prog (X88 n) := ⟨tks_ok, els_ok, mps_ok, meths_ok⟩
theorem q88 (n : Nat) : Cons Go.Proofs.Try.prog (X88 n) := ⟨lkR_ok (l := [(89, con89)]) ⟨c89, trivial⟩, lkW_ok (l := []) trivial, lkI_ok (l := [(109, I109 n)]) ⟨i109 n, trivial⟩⟩
theorem i88 (n : Nat) : InlOk Go.Proofs.Try.prog KK 88 (I88 n) := inl_of (x88 n) (q88 n) (by kernel_rfl) (F88 n) (f := 88) (fn := Go.Proofs.Try.f88) (c := bodyOf Go.Proofs.Try.f88) (by kernel_rfl) (by kernel_rfl) (by kernel_rfl) (nameB (by kernel_rfl))
/-! ### f54 loop.example/wharfdesk/impl.rowOf -/
noncomputable def X54 (n : Nat) : Cx C := { K := KK, tk := lk tks, con := lkC [(89, con89)], conw := lkC [], inl := lkA [(88, I88 n)], hold := [4, 5, 24, 25, 26], mp := lk mps, meth := lkS meths, off := 3538944 }
def F54 (n : Nat) : Cf := { N := n, keep := [0, 1, 2, 3, 4, 5, 6, 8, 10, 11, 12, 13], live := lk [(0, [2, 3, 6, 10, 11, 12])] }
def dec54 (rs : List (Bool × List (Lf C))) : Option (List (C .e9) × Bool) := match rs with
  | [(false, [.row .e9 z0]), (false, [.bool z1])] => some (z0, z1)
  | _ => none
abbrev A54_1 : Type := List (C .e9) × Int × Int × List (C .e9) × List (Nat × C .e9 × C .e3) × Nat × List (C .e83) × ByteArray × List (C .e100)
def s54_1 : A54_1 → St C := fun (x1_0, x1_1, x1_2, x1_3, x1_4, x1_5, x1_6, x1_7, x1_8) => { env := [(7, .one (.ptr 5767616 0)), (8, .one (.ptr 5767680 0)), (13, .one (.ref 100013 [])), (14, .one (.int .i64 x1_1)), (15, .one (.int .i64 x1_2))], objs := [(100013, .row .e9 x1_0 false), (5767616, .box .mem [.ref 577761600 []]), (577761600, .row .e9 x1_3 false), (5767680, .box .mem [.vo 5767936]), (5767936, .box (.clo 109 0 [(false, 1), (false, 1), (false, 1), (false, 1)]) [.ptr 5767552 0, .ptr 5767360 0, .ptr 5767680 0, .ptr 5767616 0]), (5767552, .box .mem [.vo 5767872]), (5767360, .box .mem [.vo 3540416]), (5767872, .map ⟨false, false, false, false⟩ .e9 .e3 x1_4 x1_5), (3540416, .box (.clo 89 0 [(false, 1), (false, 1)]) [.ptr 3539136 0, .ptr 3539072 0]), (3539136, .box .mem [.row .e83 x1_6]), (3539072, .box .mem [.str x1_7, .row .e100 x1_8])], base := 1000 }
abbrev A54_0 : Type := List (C .e9) × List (C .e100) × Int × Int × ByteArray × List (C .e100) × List (C .e83)
def s54_0 : A54_0 → St C := fun (x0_0, x0_1, x0_2, x0_3, x0_4, x0_5, x0_6) => { env := [(2, .one (.ptr 3539072 0)), (3, .one (.ptr 3539136 0)), (6, .one (.ref 100006 [])), (10, .one (.row .e100 x0_1)), (11, .one (.int .i64 x0_2)), (12, .one (.int .i64 x0_3))], objs := [(100006, .row .e9 x0_0 false), (3539072, .box .mem [.str x0_4, .row .e100 x0_5]), (3539136, .box .mem [.row .e83 x0_6])], base := 0 }
noncomputable def r54_1 (n : Nat)  (rec1 : A54_1 → Option (List (C .e9) × Bool)) : A54_1 → Option (List (C .e9) × Bool) := fun (x1_0, x1_1, x1_2, x1_3, x1_4, x1_5, x1_6, x1_7, x1_8) =>
      cond (decide (x1_2 < x1_1))
      (cond (decide (0 ≤ x1_2)) (cond (decide (x1_2 < (x1_0.length : Int))) (Option.bind x1_0[x1_2.toNat]? fun x2 => Option.bind ((G109d n n) x2 x1_3 x1_4 x1_5 x1_6 x1_7 x1_8) fun r3 =>
      cond (!r3.2.2.2.2.2.2)
      (some (([] : List (C .e9)), false))
      (rec1 (x1_0, x1_1, IntKind.i64.wrap (x1_2 + 1), r3.1, r3.2.1, r3.2.2.1, r3.2.2.2.1, r3.2.2.2.2.1, r3.2.2.2.2.2.1))) none) none)
      (some (x1_3, true))
noncomputable def LP54_1 (n : Nat)  (x : A54_1) : Option (List (C .e9) × Bool) := lpN (r54_1 n ) n x
noncomputable def MP54_1 (n : Nat)  (x : A54_1) : Option (List (C .e9) × Bool) := iter (fun rec S => run (X88 n) (F88 n) (codeAt (bodyOf Go.Proofs.Try.f88) [1, 1, 1, 1, 1, 0, 1, 0, 0]) 0 S (lopK rec (blkK 0 (seqK (run (X88 n) (F88 n) (codeAt (bodyOf Go.Proofs.Try.f88) [1, 1, 1, 1, 1, 1]) 0) (inlK (X88 n) Go.Proofs.Try.f88 (callK 0 (some 24) (restK (X54 n) (codeAt (bodyOf Go.Proofs.Try.f54) [1, 1, 1, 0]) 3 (regK (F54 n) (seqK (run (X54 n) (F54 n) (codeAt (bodyOf Go.Proofs.Try.f54) [1, 1, 1, 1]) 0) (kTop (X54 n) Go.Proofs.Try.f54 dec54)))))))))) [7, 8, 13, 14, 15] n (s54_1 x)
theorem m54_1 (n : Nat)  (x : A54_1) : MP54_1 n  x = LP54_1 n  x := by
  refine iter_eq s54_1 (r54_1 n ) (fun rec1 x => ?_) n x
  obtain ⟨x1_0, x1_1, x1_2, x1_3, x1_4, x1_5, x1_6, x1_7, x1_8⟩ := x
  kernel_rfl
noncomputable def r54_0 (n : Nat)  (rec0 : A54_0 → Option (List (C .e9) × Bool)) : A54_0 → Option (List (C .e9) × Bool) := fun (x0_0, x0_1, x0_2, x0_3, x0_4, x0_5, x0_6) =>
      cond (decide (x0_3 < x0_2))
      (cond (decide (0 ≤ x0_3)) (Option.bind x0_1[x0_3.toNat]? fun x1 => cond (decide ((x0_0.length + (([x1.Name] : List (C .e9))).length) * 16 ≤ 140737488355328)) (rec0 (x0_0 ++ (([x1.Name] : List (C .e9))), x0_1, x0_2, IntKind.i64.wrap (x0_3 + 1), x0_4, x0_5, x0_6)) none) none)
      (LP54_1 n  (x0_0, (x0_0.length : Int), 0, ([] : List (C .e9)), ([] : List (Nat × C .e9 × C .e3)), 0, x0_6, x0_4, x0_5))
noncomputable def LP54_0 (n : Nat)  (x : A54_0) : Option (List (C .e9) × Bool) := lpN (r54_0 n ) n x
noncomputable def MP54_0 (n : Nat)  (x : A54_0) : Option (List (C .e9) × Bool) := iter (fun rec S => run (X54 n) (F54 n) (codeAt (bodyOf Go.Proofs.Try.f54) [1, 1, 0, 1, 0, 0]) 0 S (lopK rec (blkK 0 (seqK (run (X54 n) (F54 n) (codeAt (bodyOf Go.Proofs.Try.f54) [1, 1, 1]) 0) (kTop (X54 n) Go.Proofs.Try.f54 dec54))))) [2, 3, 6, 10, 11, 12] n (s54_0 x)
theorem m54_0 (n : Nat)  (x : A54_0) : MP54_0 n  x = LP54_0 n  x := by
  refine iter_eq s54_0 (r54_0 n ) (fun rec0 x => ?_) n x
  obtain ⟨x0_0, x0_1, x0_2, x0_3, x0_4, x0_5, x0_6⟩ := x
  have h : run (X54 n) (F54 n) (codeAt (bodyOf Go.Proofs.Try.f54) [1, 1, 0, 1, 0, 0]) 0 (s54_0 (x0_0, x0_1, x0_2, x0_3, x0_4, x0_5, x0_6)) (lopK (canThen [2, 3, 6, 10, 11, 12] rec0) (blkK 0 (seqK (run (X54 n) (F54 n) (codeAt (bodyOf Go.Proofs.Try.f54) [1, 1, 1]) 0) (kTop (X54 n) Go.Proofs.Try.f54 dec54)))) =
      cond (decide (x0_3 < x0_2))
      (cond (decide (0 ≤ x0_3)) (Option.bind x0_1[x0_3.toNat]? fun x1 => cond (decide ((x0_0.length + (([x1.Name] : List (C .e9))).length) * 16 ≤ 140737488355328)) ((fun x => rec0 (s54_0 x)) (x0_0 ++ (([x1.Name] : List (C .e9))), x0_1, x0_2, IntKind.i64.wrap (x0_3 + 1), x0_4, x0_5, x0_6)) none) none)
      (MP54_1 n  (x0_0, (x0_0.length : Int), 0, ([] : List (C .e9)), ([] : List (Nat × C .e9 × C .e3)), 0, x0_6, x0_4, x0_5)) := by kernel_rfl
  simp only [m54_1] at h
  exact h
noncomputable def G54n (n : Nat) (a0 : VGateShape) (a1 : List (C .e83)) : Option (List (C .e9) × Bool) :=
      LP54_0 n  (([] : List (C .e9)), a0.Fields, (a0.Fields.length : Int), 0, a0.Kind, a0.Fields, a1)
theorem t54 (n : Nat) (a0 : VGateShape) (a1 : List (C .e83)) : runFn (X54 n) (F54 n) Go.Proofs.Try.f54 [.agg [.str a0.Kind, .row .e100 a0.Fields], .one (.row .e83 a1)] dec54 = G54n n a0 a1 := by
  have h : runFn (X54 n) (F54 n) Go.Proofs.Try.f54 [.agg [.str a0.Kind, .row .e100 a0.Fields], .one (.row .e83 a1)] dec54 =
      MP54_0 n  (([] : List (C .e9)), a0.Fields, (a0.Fields.length : Int), 0, a0.Kind, a0.Fields, a1) := by kernel_rfl
  simp only [h, G54n, m54_0]
noncomputable def G54 (a0 : VGateShape) (a1 : List (C .e83)) : Option (List (C .e9) × Bool) := G54n fuel a0 a1
noncomputable def con54 : Con C := { R0 := List (C .e9) × Bool, ret := fun r => [(false, [.row .e9 r.1]), (false, [.bool r.2])], g := fun vs => match vs with
  | [.agg [.str y0_0, .row .e100 y0_1], .one (.row .e83 y1)] => G54 ⟨y0_0, y0_1⟩ y1
  | _ => none }
theorem x54 (n : Nat) : XOk Go.Proofs.Try.prog (X54 n) := ⟨tks_ok, els_ok, mps_ok, meths_ok⟩
theorem q54 (n : Nat) : Cons Go.Proofs.Try.prog (X54 n) := ⟨lkR_ok (l := [(89, con89)]) ⟨c89, trivial⟩, lkW_ok (l := []) trivial, lkI_ok (l := [(88, I88 n)]) ⟨i88 n, trivial⟩⟩
theorem c54 : ConOk Go.Proofs.Try.prog KK 54 con54 := by
  refine con_dec (x54 fuel) (q54 fuel) (by kernel_rfl) (f := 54) (fn := Go.Proofs.Try.f54) (c := bodyOf Go.Proofs.Try.f54) (by kernel_rfl) (by kernel_rfl) (by kernel_rfl) (nameB (by kernel_rfl)) con54 dec54 (fun rs r0 h => ?_) (fun vs r0 h => ?_)
  · unfold dec54 at h
    split at h
    · cases h; rfl
    · cases h
  · simp only [con54] at h
    split at h
    · rename_i y0_0 y0_1 y1
      exact ⟨Nat.le_of_ble_eq_true (by kernel_rfl), F54 fuel, (t54 fuel ⟨y0_0, y0_1⟩ y1).trans h⟩
    · cases h
/-! ### f31 loop.example/wharfdesk/impl.GateMendsOk -/
noncomputable def X31 : Cx C := { K := KK, tk := lk tks, con := lkC [(54, con54), (55, con55), (67, con67), (68, con68)], conw := lkC [], inl := lkA [], hold := [], mp := lk mps, meth := lkS meths, off := 2031616 }
def F31 (n : Nat) : Cf := { N := n, keep := [0, 1, 4, 6, 7, 9, 11, 19, 20, 21, 22, 23, 41, 43, 44, 45, 46, 56], live := lk [(0, [0, 1, 20, 21, 22]), (2, [1, 43, 44, 45])] }
def dec31 (rs : List (Bool × List (Lf C))) : Option (Bool) := match rs with
  | [(false, [.bool z0])] => some z0
  | _ => none
abbrev A31_1 : Type := List (C .e83) × List (C .e81) × Int × Int
def s31_1 : A31_1 → St C := fun (x1_0, x1_1, x1_2, x1_3) => { env := [(1, .one (.row .e83 x1_0)), (43, .one (.row .e81 x1_1)), (44, .one (.int .i64 x1_2)), (45, .one (.int .i64 x1_3))], objs := [], base := 0 }
abbrev A31_0 : Type := List (C .e81) × List (C .e83) × List (C .e83) × Int × Int
def s31_0 : A31_0 → St C := fun (x0_0, x0_1, x0_2, x0_3, x0_4) => { env := [(0, .one (.row .e81 x0_0)), (1, .one (.row .e83 x0_1)), (20, .one (.row .e83 x0_2)), (21, .one (.int .i64 x0_3)), (22, .one (.int .i64 x0_4))], objs := [], base := 0 }
noncomputable def r31_1 (n : Nat)  (rec1 : A31_1 → Option (Bool)) : A31_1 → Option (Bool) := fun (x1_0, x1_1, x1_2, x1_3) =>
      cond (decide (x1_3 < x1_2))
      (cond (decide (0 ≤ x1_3)) (Option.bind x1_1[x1_3.toNat]? fun x6 => Option.bind (G54 x6 x1_0) fun r7 =>
      cond (!r7.2)
      (some (false))
      (rec1 (x1_0, x1_1, x1_2, IntKind.i64.wrap (x1_3 + 1)))) none)
      (some (true))
noncomputable def LP31_1 (n : Nat)  (x : A31_1) : Option (Bool) := lpN (r31_1 n ) n x
noncomputable def MP31_1 (n : Nat)  (x : A31_1) : Option (Bool) := iter (fun rec S => run X31 (F31 n) (codeAt (bodyOf Go.Proofs.Try.f31) [1, 1, 1, 0, 1, 0, 0]) 2 S (lopK rec (blkK 2 (seqK (run X31 (F31 n) (codeAt (bodyOf Go.Proofs.Try.f31) [1, 1, 1, 1]) 0) (kTop X31 Go.Proofs.Try.f31 dec31))))) [1, 43, 44, 45] n (s31_1 x)
theorem m31_1 (n : Nat)  (x : A31_1) : MP31_1 n  x = LP31_1 n  x := by
  refine iter_eq s31_1 (r31_1 n ) (fun rec1 x => ?_) n x
  obtain ⟨x1_0, x1_1, x1_2, x1_3⟩ := x
  kernel_rfl
noncomputable def r31_0 (n : Nat)  (rec0 : A31_0 → Option (Bool)) : A31_0 → Option (Bool) := fun (x0_0, x0_1, x0_2, x0_3, x0_4) =>
      cond (decide (x0_4 < x0_3))
      (cond (decide (0 ≤ x0_4)) (Option.bind x0_2[x0_4.toNat]? fun x2 => Option.bind (G55 x0_0 x2.Kind) fun r3 =>
      cond (decide (r3 < 0))
      (some (false))
      (cond (decide (0 ≤ r3)) (Option.bind x0_0[r3.toNat]? fun x4 => Option.bind (G68 x4.Fields x2) fun r5 =>
      cond (!r5)
      (some (false))
      (rec0 (x0_0, x0_1, x0_2, x0_3, IntKind.i64.wrap (x0_4 + 1)))) none)) none)
      (LP31_1 n  (x0_1, x0_0, (x0_0.length : Int), 0))
noncomputable def LP31_0 (n : Nat)  (x : A31_0) : Option (Bool) := lpN (r31_0 n ) n x
noncomputable def MP31_0 (n : Nat)  (x : A31_0) : Option (Bool) := iter (fun rec S => run X31 (F31 n) (codeAt (bodyOf Go.Proofs.Try.f31) [1, 1, 0, 1, 0, 0]) 0 S (lopK rec (blkK 0 (seqK (run X31 (F31 n) (codeAt (bodyOf Go.Proofs.Try.f31) [1, 1, 1]) 0) (kTop X31 Go.Proofs.Try.f31 dec31))))) [0, 1, 20, 21, 22] n (s31_0 x)
theorem m31_0 (n : Nat)  (x : A31_0) : MP31_0 n  x = LP31_0 n  x := by
  refine iter_eq s31_0 (r31_0 n ) (fun rec0 x => ?_) n x
  obtain ⟨x0_0, x0_1, x0_2, x0_3, x0_4⟩ := x
  have h : run X31 (F31 n) (codeAt (bodyOf Go.Proofs.Try.f31) [1, 1, 0, 1, 0, 0]) 0 (s31_0 (x0_0, x0_1, x0_2, x0_3, x0_4)) (lopK (canThen [0, 1, 20, 21, 22] rec0) (blkK 0 (seqK (run X31 (F31 n) (codeAt (bodyOf Go.Proofs.Try.f31) [1, 1, 1]) 0) (kTop X31 Go.Proofs.Try.f31 dec31)))) =
      cond (decide (x0_4 < x0_3))
      (cond (decide (0 ≤ x0_4)) (Option.bind x0_2[x0_4.toNat]? fun x2 => Option.bind (G55 x0_0 x2.Kind) fun r3 =>
      cond (decide (r3 < 0))
      (some (false))
      (cond (decide (0 ≤ r3)) (Option.bind x0_0[r3.toNat]? fun x4 => Option.bind (G68 x4.Fields x2) fun r5 =>
      cond (!r5)
      (some (false))
      ((fun x => rec0 (s31_0 x)) (x0_0, x0_1, x0_2, x0_3, IntKind.i64.wrap (x0_4 + 1)))) none)) none)
      (MP31_1 n  (x0_1, x0_0, (x0_0.length : Int), 0)) := by kernel_rfl
  simp only [m31_1] at h
  exact h
noncomputable def G31n (n : Nat) (a0 : List (C .e81)) (a1 : List (C .e83)) : Option (Bool) :=
      Option.bind (G67 a0) fun r1 =>
      cond (!r1)
      (some (false))
      (cond (decide ((a1.length : Int) > 12))
      (some (false))
      (LP31_0 n  (a0, a1, a1, (a1.length : Int), 0)))
theorem t31 (n : Nat) (a0 : List (C .e81)) (a1 : List (C .e83)) : runFn X31 (F31 n) Go.Proofs.Try.f31 [.one (.row .e81 a0), .one (.row .e83 a1)] dec31 = G31n n a0 a1 := by
  have h : runFn X31 (F31 n) Go.Proofs.Try.f31 [.one (.row .e81 a0), .one (.row .e83 a1)] dec31 =
      Option.bind (G67 a0) fun r1 =>
      cond (!r1)
      (some (false))
      (cond (decide ((a1.length : Int) > 12))
      (some (false))
      (MP31_0 n  (a0, a1, a1, (a1.length : Int), 0))) := by kernel_rfl
  simp only [h, G31n, m31_0]
noncomputable def G31 (a0 : List (C .e81)) (a1 : List (C .e83)) : Option (Bool) := G31n fuel a0 a1
noncomputable def con31 : Con C := { R0 := Bool, ret := fun r => [(false, [.bool r])], g := fun vs => match vs with
  | [.one (.row .e81 y0), .one (.row .e83 y1)] => G31 y0 y1
  | _ => none }
theorem x31 : XOk Go.Proofs.Try.prog X31 := ⟨tks_ok, els_ok, mps_ok, meths_ok⟩
theorem q31 : Cons Go.Proofs.Try.prog X31 := ⟨lkR_ok (l := [(54, con54), (55, con55), (67, con67), (68, con68)]) ⟨c54, c55, c67, c68, trivial⟩, lkW_ok (l := []) trivial, lkI_ok (l := []) trivial⟩
theorem c31 : ConOk Go.Proofs.Try.prog KK 31 con31 := by
  refine con_dec x31 q31 (by kernel_rfl) (f := 31) (fn := Go.Proofs.Try.f31) (c := bodyOf Go.Proofs.Try.f31) (by kernel_rfl) (by kernel_rfl) (by kernel_rfl) (nameB (by kernel_rfl)) con31 dec31 (fun rs r0 h => ?_) (fun vs r0 h => ?_)
  · unfold dec31 at h
    split at h
    · cases h; rfl
    · cases h
  · simp only [con31] at h
    split at h
    · rename_i y0 y1
      exact ⟨Nat.le_of_ble_eq_true (by kernel_rfl), F31 fuel, (t31 fuel y0 y1).trans h⟩
    · cases h
/-! ### f79 loop.example/wharfdesk/impl.teamOf -/
noncomputable def X79 : Cx C := { K := KK, tk := lk tks, con := lkC [], conw := lkC [], inl := lkA [], hold := [], mp := lk mps, meth := lkS meths, off := 5177344 }
def F79 (n : Nat) : Cf := { N := n, keep := [0, 1, 4, 5, 6, 7, 8, 9, 10, 17], live := lk [(0, [1, 7, 8, 9])] }
def dec79 (rs : List (Bool × List (Lf C))) : Option (Int) := match rs with
  | [(false, [.int .i64 z0])] => some z0
  | _ => none
abbrev A79_0 : Type := ByteArray × List (C .e106) × Int × Int
def s79_0 : A79_0 → St C := fun (x0_0, x0_1, x0_2, x0_3) => { env := [(1, .one (.str x0_0)), (7, .one (.row .e106 x0_1)), (8, .one (.int .i64 x0_2)), (9, .one (.int .i64 x0_3))], objs := [], base := 0 }
noncomputable def r79_0 (n : Nat)  (rec0 : A79_0 → Option (Int)) : A79_0 → Option (Int) := fun (x0_0, x0_1, x0_2, x0_3) =>
      cond (decide (x0_3 < x0_2))
      (cond (decide (0 ≤ x0_3)) (Option.bind x0_1[x0_3.toNat]? fun x1 => cond (decide (x1.Name = x0_0))
      (some (x0_3))
      (rec0 (x0_0, x0_1, x0_2, IntKind.i64.wrap (x0_3 + 1)))) none)
      (some ((-1)))
noncomputable def LP79_0 (n : Nat)  (x : A79_0) : Option (Int) := lpN (r79_0 n ) n x
noncomputable def MP79_0 (n : Nat)  (x : A79_0) : Option (Int) := iter (fun rec S => run X79 (F79 n) (codeAt (bodyOf Go.Proofs.Try.f79) [1, 0, 1, 0, 0]) 0 S (lopK rec (blkK 0 (seqK (run X79 (F79 n) (codeAt (bodyOf Go.Proofs.Try.f79) [1, 1]) 0) (kTop X79 Go.Proofs.Try.f79 dec79))))) [1, 7, 8, 9] n (s79_0 x)
theorem m79_0 (n : Nat)  (x : A79_0) : MP79_0 n  x = LP79_0 n  x := by
  refine iter_eq s79_0 (r79_0 n ) (fun rec0 x => ?_) n x
  obtain ⟨x0_0, x0_1, x0_2, x0_3⟩ := x
  kernel_rfl
noncomputable def G79n (n : Nat) (a0 : List (C .e106)) (a1 : ByteArray) : Option (Int) :=
      LP79_0 n  (a1, a0, (a0.length : Int), 0)
theorem t79 (n : Nat) (a0 : List (C .e106)) (a1 : ByteArray) : runFn X79 (F79 n) Go.Proofs.Try.f79 [.one (.row .e106 a0), .one (.str a1)] dec79 = G79n n a0 a1 := by
  have h : runFn X79 (F79 n) Go.Proofs.Try.f79 [.one (.row .e106 a0), .one (.str a1)] dec79 =
      MP79_0 n  (a1, a0, (a0.length : Int), 0) := by kernel_rfl
  simp only [h, G79n, m79_0]
noncomputable def G79 (a0 : List (C .e106)) (a1 : ByteArray) : Option (Int) := G79n fuel a0 a1
noncomputable def con79 : Con C := { R0 := Int, ret := fun r => [(false, [.int .i64 r])], g := fun vs => match vs with
  | [.one (.row .e106 y0), .one (.str y1)] => G79 y0 y1
  | _ => none }
theorem x79 : XOk Go.Proofs.Try.prog X79 := ⟨tks_ok, els_ok, mps_ok, meths_ok⟩
theorem q79 : Cons Go.Proofs.Try.prog X79 := ⟨lkR_ok (l := []) trivial, lkW_ok (l := []) trivial, lkI_ok (l := []) trivial⟩
theorem c79 : ConOk Go.Proofs.Try.prog KK 79 con79 := by
  refine con_dec x79 q79 (by kernel_rfl) (f := 79) (fn := Go.Proofs.Try.f79) (c := bodyOf Go.Proofs.Try.f79) (by kernel_rfl) (by kernel_rfl) (by kernel_rfl) (nameB (by kernel_rfl)) con79 dec79 (fun rs r0 h => ?_) (fun vs r0 h => ?_)
  · unfold dec79 at h
    split at h
    · cases h; rfl
    · cases h
  · simp only [con79] at h
    split at h
    · rename_i y0 y1
      exact ⟨Nat.le_of_ble_eq_true (by kernel_rfl), F79 fuel, (t79 fuel y0 y1).trans h⟩
    · cases h
/-! ### f42 loop.example/wharfdesk/impl.GateTeamsOk -/
noncomputable def X42 : Cx C := { K := KK, tk := lk tks, con := lkC [(78, con78), (79, con79)], conw := lkC [], inl := lkA [], hold := [], mp := lk mps, meth := lkS meths, off := 2752512 }
def F42 (n : Nat) : Cf := { N := n, keep := [0, 2, 3, 4, 6, 7, 8, 11, 12, 13, 14, 15, 49, 51, 52, 53, 54, 60, 71], live := lk [(0, [0, 12, 13, 14]), (2, [0, 51, 52, 53]), (4, [0, 7, 8, 51, 52, 53])] }
def dec42 (rs : List (Bool × List (Lf C))) : Option (Bool) := match rs with
  | [(false, [.bool z0])] => some z0
  | _ => none
abbrev A42_2 : Type := List (C .e106) × Int × ByteArray × List (C .e106) × Int × Int
def s42_2 : A42_2 → St C := fun (x2_0, x2_1, x2_2, x2_3, x2_4, x2_5) => { env := [(0, .one (.row .e106 x2_0)), (7, .one (.int .i64 x2_1)), (8, .one (.str x2_2)), (51, .one (.row .e106 x2_3)), (52, .one (.int .i64 x2_4)), (53, .one (.int .i64 x2_5))], objs := [], base := 0 }
abbrev A42_1 : Type := List (C .e106) × List (C .e106) × Int × Int
def s42_1 : A42_1 → St C := fun (x1_0, x1_1, x1_2, x1_3) => { env := [(0, .one (.row .e106 x1_0)), (51, .one (.row .e106 x1_1)), (52, .one (.int .i64 x1_2)), (53, .one (.int .i64 x1_3))], objs := [], base := 0 }
abbrev A42_0 : Type := List (C .e106) × List (C .e106) × Int × Int
def s42_0 : A42_0 → St C := fun (x0_0, x0_1, x0_2, x0_3) => { env := [(0, .one (.row .e106 x0_0)), (12, .one (.row .e106 x0_1)), (13, .one (.int .i64 x0_2)), (14, .one (.int .i64 x0_3))], objs := [], base := 0 }
noncomputable def r42_2 (n : Nat) (rec1 : A42_1 → Option (Bool)) (rec2 : A42_2 → Option (Bool)) : A42_2 → Option (Bool) := fun (x2_0, x2_1, x2_2, x2_3, x2_4, x2_5) =>
      cond (!decide (x2_2 = (⟨#[]⟩ : ByteArray)))
      (cond (decide ((IntKind.i64.wrap (x2_1 + 1)) > 4))
      (some (false))
      (Option.bind (G79 x2_0 x2_2) fun r7 =>
      cond (decide (0 ≤ r7)) (Option.bind x2_0[r7.toNat]? fun x8 => rec2 (x2_0, IntKind.i64.wrap (x2_1 + 1), x8.Over, x2_3, x2_4, x2_5)) none))
      (rec1 (x2_0, x2_3, x2_4, IntKind.i64.wrap (x2_5 + 1)))
noncomputable def LP42_2 (n : Nat) (rec1 : A42_1 → Option (Bool)) (x : A42_2) : Option (Bool) := lpN (r42_2 n rec1) n x
noncomputable def MP42_2 (n : Nat) (rec1 : St C → Option (Bool)) (x : A42_2) : Option (Bool) := iter (fun rec S => run X42 (F42 n) (codeAt (bodyOf Go.Proofs.Try.f42) [1, 1, 1, 0, 1, 0, 0, 1, 1, 0, 0, 1, 1, 1, 0, 0]) 4 S (lopK rec (blkK 4 (blkK 3 (seqK (run X42 (F42 n) (codeAt (bodyOf Go.Proofs.Try.f42) [1, 1, 1, 0, 1, 0, 0, 1, 1, 1]) 2) (lopK (canThen [0, 51, 52, 53] rec1) (blkK 2 (seqK (run X42 (F42 n) (codeAt (bodyOf Go.Proofs.Try.f42) [1, 1, 1, 1]) 0) (kTop X42 Go.Proofs.Try.f42 dec42))))))))) [0, 7, 8, 51, 52, 53] n (s42_2 x)
theorem m42_2 (n : Nat) (rec1 : St C → Option (Bool)) (x : A42_2) : MP42_2 n rec1 x = LP42_2 n (fun x => rec1 (s42_1 x)) x := by
  refine iter_eq s42_2 (r42_2 n (fun x => rec1 (s42_1 x))) (fun rec2 x => ?_) n x
  obtain ⟨x2_0, x2_1, x2_2, x2_3, x2_4, x2_5⟩ := x
  kernel_rfl
noncomputable def r42_1 (n : Nat)  (rec1 : A42_1 → Option (Bool)) : A42_1 → Option (Bool) := fun (x1_0, x1_1, x1_2, x1_3) =>
      cond (decide (x1_3 < x1_2))
      (cond (decide (0 ≤ x1_3)) (Option.bind x1_1[x1_3.toNat]? fun x6 => LP42_2 n rec1 (x1_0, 0, x6.Over, x1_1, x1_2, x1_3)) none)
      (some (true))
noncomputable def LP42_1 (n : Nat)  (x : A42_1) : Option (Bool) := lpN (r42_1 n ) n x
noncomputable def MP42_1 (n : Nat)  (x : A42_1) : Option (Bool) := iter (fun rec S => run X42 (F42 n) (codeAt (bodyOf Go.Proofs.Try.f42) [1, 1, 1, 0, 1, 0, 0]) 2 S (lopK rec (blkK 2 (seqK (run X42 (F42 n) (codeAt (bodyOf Go.Proofs.Try.f42) [1, 1, 1, 1]) 0) (kTop X42 Go.Proofs.Try.f42 dec42))))) [0, 51, 52, 53] n (s42_1 x)
theorem m42_1 (n : Nat)  (x : A42_1) : MP42_1 n  x = LP42_1 n  x := by
  refine iter_eq s42_1 (r42_1 n ) (fun rec1 x => ?_) n x
  obtain ⟨x1_0, x1_1, x1_2, x1_3⟩ := x
  have h : run X42 (F42 n) (codeAt (bodyOf Go.Proofs.Try.f42) [1, 1, 1, 0, 1, 0, 0]) 2 (s42_1 (x1_0, x1_1, x1_2, x1_3)) (lopK (canThen [0, 51, 52, 53] rec1) (blkK 2 (seqK (run X42 (F42 n) (codeAt (bodyOf Go.Proofs.Try.f42) [1, 1, 1, 1]) 0) (kTop X42 Go.Proofs.Try.f42 dec42)))) =
      cond (decide (x1_3 < x1_2))
      (cond (decide (0 ≤ x1_3)) (Option.bind x1_1[x1_3.toNat]? fun x6 => MP42_2 n rec1 (x1_0, 0, x6.Over, x1_1, x1_2, x1_3)) none)
      (some (true)) := by kernel_rfl
  simp only [m42_2] at h
  exact h
noncomputable def r42_0 (n : Nat)  (rec0 : A42_0 → Option (Bool)) : A42_0 → Option (Bool) := fun (x0_0, x0_1, x0_2, x0_3) =>
      cond (decide (x0_3 < x0_2))
      (cond (decide (0 ≤ x0_3)) (Option.bind x0_1[x0_3.toNat]? fun x1 => Option.bind (G78 x1.Name) fun r2 =>
      cond (!r2)
      (some (false))
      (cond (decide (x0_3 > 0))
      (cond (decide (0 ≤ IntKind.i64.wrap (x0_3 - 1))) (Option.bind x0_0[(IntKind.i64.wrap (x0_3 - 1)).toNat]? fun x3 => cond (!slt x3.Name x1.Name)
      (some (false))
      (cond (!decide (x1.Over = (⟨#[]⟩ : ByteArray)))
      (Option.bind (G79 x0_0 x1.Over) fun r4 =>
      cond (decide (r4 < 0))
      (some (false))
      (rec0 (x0_0, x0_1, x0_2, IntKind.i64.wrap (x0_3 + 1))))
      (rec0 (x0_0, x0_1, x0_2, IntKind.i64.wrap (x0_3 + 1))))) none)
      (cond (!decide (x1.Over = (⟨#[]⟩ : ByteArray)))
      (Option.bind (G79 x0_0 x1.Over) fun r5 =>
      cond (decide (r5 < 0))
      (some (false))
      (rec0 (x0_0, x0_1, x0_2, IntKind.i64.wrap (x0_3 + 1))))
      (rec0 (x0_0, x0_1, x0_2, IntKind.i64.wrap (x0_3 + 1)))))) none)
      (LP42_1 n  (x0_0, x0_0, (x0_0.length : Int), 0))
noncomputable def LP42_0 (n : Nat)  (x : A42_0) : Option (Bool) := lpN (r42_0 n ) n x
noncomputable def MP42_0 (n : Nat)  (x : A42_0) : Option (Bool) := iter (fun rec S => run X42 (F42 n) (codeAt (bodyOf Go.Proofs.Try.f42) [1, 1, 0, 1, 0, 0]) 0 S (lopK rec (blkK 0 (seqK (run X42 (F42 n) (codeAt (bodyOf Go.Proofs.Try.f42) [1, 1, 1]) 0) (kTop X42 Go.Proofs.Try.f42 dec42))))) [0, 12, 13, 14] n (s42_0 x)
theorem m42_0 (n : Nat)  (x : A42_0) : MP42_0 n  x = LP42_0 n  x := by
  refine iter_eq s42_0 (r42_0 n ) (fun rec0 x => ?_) n x
  obtain ⟨x0_0, x0_1, x0_2, x0_3⟩ := x
  have h : run X42 (F42 n) (codeAt (bodyOf Go.Proofs.Try.f42) [1, 1, 0, 1, 0, 0]) 0 (s42_0 (x0_0, x0_1, x0_2, x0_3)) (lopK (canThen [0, 12, 13, 14] rec0) (blkK 0 (seqK (run X42 (F42 n) (codeAt (bodyOf Go.Proofs.Try.f42) [1, 1, 1]) 0) (kTop X42 Go.Proofs.Try.f42 dec42)))) =
      cond (decide (x0_3 < x0_2))
      (cond (decide (0 ≤ x0_3)) (Option.bind x0_1[x0_3.toNat]? fun x1 => Option.bind (G78 x1.Name) fun r2 =>
      cond (!r2)
      (some (false))
      (cond (decide (x0_3 > 0))
      (cond (decide (0 ≤ IntKind.i64.wrap (x0_3 - 1))) (Option.bind x0_0[(IntKind.i64.wrap (x0_3 - 1)).toNat]? fun x3 => cond (!slt x3.Name x1.Name)
      (some (false))
      (cond (!decide (x1.Over = (⟨#[]⟩ : ByteArray)))
      (Option.bind (G79 x0_0 x1.Over) fun r4 =>
      cond (decide (r4 < 0))
      (some (false))
      ((fun x => rec0 (s42_0 x)) (x0_0, x0_1, x0_2, IntKind.i64.wrap (x0_3 + 1))))
      ((fun x => rec0 (s42_0 x)) (x0_0, x0_1, x0_2, IntKind.i64.wrap (x0_3 + 1))))) none)
      (cond (!decide (x1.Over = (⟨#[]⟩ : ByteArray)))
      (Option.bind (G79 x0_0 x1.Over) fun r5 =>
      cond (decide (r5 < 0))
      (some (false))
      ((fun x => rec0 (s42_0 x)) (x0_0, x0_1, x0_2, IntKind.i64.wrap (x0_3 + 1))))
      ((fun x => rec0 (s42_0 x)) (x0_0, x0_1, x0_2, IntKind.i64.wrap (x0_3 + 1)))))) none)
      (MP42_1 n  (x0_0, x0_0, (x0_0.length : Int), 0)) := by kernel_rfl
  simp only [m42_1] at h
  exact h
noncomputable def G42n (n : Nat) (a0 : List (C .e106)) : Option (Bool) :=
      cond (decide ((a0.length : Int) > 12))
      (some (false))
      (LP42_0 n  (a0, a0, (a0.length : Int), 0))
theorem t42 (n : Nat) (a0 : List (C .e106)) : runFn X42 (F42 n) Go.Proofs.Try.f42 [.one (.row .e106 a0)] dec42 = G42n n a0 := by
  have h : runFn X42 (F42 n) Go.Proofs.Try.f42 [.one (.row .e106 a0)] dec42 =
      cond (decide ((a0.length : Int) > 12))
      (some (false))
      (MP42_0 n  (a0, a0, (a0.length : Int), 0)) := by kernel_rfl
  simp only [h, G42n, m42_0]
noncomputable def G42 (a0 : List (C .e106)) : Option (Bool) := G42n fuel a0
noncomputable def con42 : Con C := { R0 := Bool, ret := fun r => [(false, [.bool r])], g := fun vs => match vs with
  | [.one (.row .e106 y0)] => G42 y0
  | _ => none }
theorem x42 : XOk Go.Proofs.Try.prog X42 := ⟨tks_ok, els_ok, mps_ok, meths_ok⟩
theorem q42 : Cons Go.Proofs.Try.prog X42 := ⟨lkR_ok (l := [(78, con78), (79, con79)]) ⟨c78, c79, trivial⟩, lkW_ok (l := []) trivial, lkI_ok (l := []) trivial⟩
theorem c42 : ConOk Go.Proofs.Try.prog KK 42 con42 := by
  refine con_dec x42 q42 (by kernel_rfl) (f := 42) (fn := Go.Proofs.Try.f42) (c := bodyOf Go.Proofs.Try.f42) (by kernel_rfl) (by kernel_rfl) (by kernel_rfl) (nameB (by kernel_rfl)) con42 dec42 (fun rs r0 h => ?_) (fun vs r0 h => ?_)
  · unfold dec42 at h
    split at h
    · cases h; rfl
    · cases h
  · simp only [con42] at h
    split at h
    · rename_i y0
      exact ⟨Nat.le_of_ble_eq_true (by kernel_rfl), F42 fuel, (t42 fuel y0).trans h⟩
    · cases h
/-! ### f10 loop.example/wharfdesk/impl.GateLawOk -/
noncomputable def X10 : Cx C := { K := KK, tk := lk tks, con := lkC [(31, con31), (42, con42)], conw := lkC [], inl := lkA [], hold := [], mp := lk mps, meth := lkS meths, off := 655360 }
def F10 (n : Nat) : Cf := { N := n, keep := [0, 1, 2], live := lk [] }
def dec10 (rs : List (Bool × List (Lf C))) : Option (Bool) := match rs with
  | [(false, [.bool z0])] => some z0
  | _ => none
noncomputable def G10n (n : Nat) (a0 : VGateLaw) : Option (Bool) :=
      Option.bind (G31 a0.Shapes a0.Mends) fun r1 =>
      cond r1
      (Option.bind (G42 a0.Teams) fun r2 =>
      some (r2))
      (some (false))
theorem t10 (n : Nat) (a0 : VGateLaw) : runFn X10 (F10 n) Go.Proofs.Try.f10 [.agg [.row .e81 a0.Shapes, .row .e83 a0.Mends, .row .e106 a0.Teams]] dec10 = G10n n a0 := by
  kernel_rfl
noncomputable def G10 (a0 : VGateLaw) : Option (Bool) := G10n fuel a0
noncomputable def con10 : Con C := { R0 := Bool, ret := fun r => [(false, [.bool r])], g := fun vs => match vs with
  | [.agg [.row .e81 y0_0, .row .e83 y0_1, .row .e106 y0_2]] => G10 ⟨y0_0, y0_1, y0_2⟩
  | _ => none }
theorem x10 : XOk Go.Proofs.Try.prog X10 := ⟨tks_ok, els_ok, mps_ok, meths_ok⟩
theorem q10 : Cons Go.Proofs.Try.prog X10 := ⟨lkR_ok (l := [(31, con31), (42, con42)]) ⟨c31, c42, trivial⟩, lkW_ok (l := []) trivial, lkI_ok (l := []) trivial⟩
theorem c10 : ConOk Go.Proofs.Try.prog KK 10 con10 := by
  refine con_dec x10 q10 (by kernel_rfl) (f := 10) (fn := Go.Proofs.Try.f10) (c := bodyOf Go.Proofs.Try.f10) (by kernel_rfl) (by kernel_rfl) (by kernel_rfl) (nameB (by kernel_rfl)) con10 dec10 (fun rs r0 h => ?_) (fun vs r0 h => ?_)
  · unfold dec10 at h
    split at h
    · cases h; rfl
    · cases h
  · simp only [con10] at h
    split at h
    · rename_i y0_0 y0_1 y0_2
      exact ⟨Nat.le_of_ble_eq_true (by kernel_rfl), F10 fuel, (t10 fuel ⟨y0_0, y0_1, y0_2⟩).trans h⟩
    · cases h
/-! ### f58 loop.example/wharfdesk/laws.eqStringS -/
noncomputable def X58 : Cx C := { K := KK, tk := lk tks, con := lkC [], conw := lkC [], inl := lkA [], hold := [], mp := lk mps, meth := lkS meths, off := 3801088 }
def F58 (n : Nat) : Cf := { N := n, keep := [0, 1, 4, 5, 10, 14, 25], live := lk [(0, [0, 1, 5])] }
def dec58 (rs : List (Bool × List (Lf C))) : Option (Bool) := match rs with
  | [(false, [.bool z0])] => some z0
  | _ => none
abbrev A58_0 : Type := List (C .e9) × List (C .e9) × Int
def s58_0 : A58_0 → St C := fun (x0_0, x0_1, x0_2) => { env := [(0, .one (.row .e9 x0_0)), (1, .one (.row .e9 x0_1)), (5, .one (.int .i64 x0_2))], objs := [], base := 0 }
noncomputable def r58_0 (n : Nat)  (rec0 : A58_0 → Option (Bool)) : A58_0 → Option (Bool) := fun (x0_0, x0_1, x0_2) =>
      cond (decide (x0_2 < (x0_0.length : Int)))
      (cond (decide (0 ≤ x0_2)) (Option.bind x0_0[x0_2.toNat]? fun x1 => cond (decide (0 ≤ x0_2)) (Option.bind x0_1[x0_2.toNat]? fun x2 => cond (!decide (x1 = x2))
      (some (false))
      (rec0 (x0_0, x0_1, IntKind.i64.wrap (x0_2 + 1)))) none) none)
      (some (true))
noncomputable def LP58_0 (n : Nat)  (x : A58_0) : Option (Bool) := lpN (r58_0 n ) n x
noncomputable def MP58_0 (n : Nat)  (x : A58_0) : Option (Bool) := iter (fun rec S => run X58 (F58 n) (codeAt (bodyOf Go.Proofs.Try.f58) [1, 1, 0, 1, 0, 0]) 0 S (lopK rec (blkK 0 (seqK (run X58 (F58 n) (codeAt (bodyOf Go.Proofs.Try.f58) [1, 1, 1]) 0) (kTop X58 Go.Proofs.Try.f58 dec58))))) [0, 1, 5] n (s58_0 x)
theorem m58_0 (n : Nat)  (x : A58_0) : MP58_0 n  x = LP58_0 n  x := by
  refine iter_eq s58_0 (r58_0 n ) (fun rec0 x => ?_) n x
  obtain ⟨x0_0, x0_1, x0_2⟩ := x
  kernel_rfl
noncomputable def G58n (n : Nat) (a0 : List (C .e9)) (a1 : List (C .e9)) : Option (Bool) :=
      cond ((a0.length : Int) != (a1.length : Int))
      (some (false))
      (LP58_0 n  (a0, a1, 0))
theorem t58 (n : Nat) (a0 : List (C .e9)) (a1 : List (C .e9)) : runFn X58 (F58 n) Go.Proofs.Try.f58 [.one (.row .e9 a0), .one (.row .e9 a1)] dec58 = G58n n a0 a1 := by
  have h : runFn X58 (F58 n) Go.Proofs.Try.f58 [.one (.row .e9 a0), .one (.row .e9 a1)] dec58 =
      cond ((a0.length : Int) != (a1.length : Int))
      (some (false))
      (MP58_0 n  (a0, a1, 0)) := by kernel_rfl
  simp only [h, G58n, m58_0]
noncomputable def G58 (a0 : List (C .e9)) (a1 : List (C .e9)) : Option (Bool) := G58n fuel a0 a1
noncomputable def con58 : Con C := { R0 := Bool, ret := fun r => [(false, [.bool r])], g := fun vs => match vs with
  | [.one (.row .e9 y0), .one (.row .e9 y1)] => G58 y0 y1
  | _ => none }
theorem x58 : XOk Go.Proofs.Try.prog X58 := ⟨tks_ok, els_ok, mps_ok, meths_ok⟩
theorem q58 : Cons Go.Proofs.Try.prog X58 := ⟨lkR_ok (l := []) trivial, lkW_ok (l := []) trivial, lkI_ok (l := []) trivial⟩
theorem c58 : ConOk Go.Proofs.Try.prog KK 58 con58 := by
  refine con_dec x58 q58 (by kernel_rfl) (f := 58) (fn := Go.Proofs.Try.f58) (c := bodyOf Go.Proofs.Try.f58) (by kernel_rfl) (by kernel_rfl) (by kernel_rfl) (nameB (by kernel_rfl)) con58 dec58 (fun rs r0 h => ?_) (fun vs r0 h => ?_)
  · unfold dec58 at h
    split at h
    · cases h; rfl
    · cases h
  · simp only [con58] at h
    split at h
    · rename_i y0 y1
      exact ⟨Nat.le_of_ble_eq_true (by kernel_rfl), F58 fuel, (t58 fuel y0 y1).trans h⟩
    · cases h
/-! ### f110 loop.example/wharfdesk/laws.eqGateField -/
noncomputable def X110 : Cx C := { K := KK, tk := lk tks, con := lkC [(58, con58)], conw := lkC [], inl := lkA [], hold := [], mp := lk mps, meth := lkS meths, off := 7208960 }
def F110 (n : Nat) : Cf := { N := n, keep := [0, 1, 2, 3, 4, 9, 14, 19, 24, 30, 35, 40, 45, 50, 55, 60], live := lk [] }
def dec110 (rs : List (Bool × List (Lf C))) : Option (Bool) := match rs with
  | [(false, [.bool z0])] => some z0
  | _ => none
noncomputable def G110n (n : Nat) (a0 : VGateField) (a1 : VGateField) : Option (Bool) :=
      cond (!decide (a0.Name = a1.Name))
      (some (false))
      (cond (a0.Kind != a1.Kind)
      (some (false))
      (cond (a0.Least != a1.Least)
      (some (false))
      (cond (a0.Most != a1.Most)
      (some (false))
      (Option.bind (G58 a0.Words a1.Words) fun r1 =>
      cond (!r1)
      (some (false))
      (cond (!decide (a0.To = a1.To))
      (some (false))
      (cond (a0.Role != a1.Role)
      (some (false))
      (cond (!(a0.Must == a1.Must))
      (some (false))
      (cond (!(a0.Fixed == a1.Fixed))
      (some (false))
      (cond (!decide (a0.Default = a1.Default))
      (some (false))
      (cond (!decide (a0.Weighs = a1.Weighs))
      (some (false))
      (some (true))))))))))))
theorem t110 (n : Nat) (a0 : VGateField) (a1 : VGateField) : runFn X110 (F110 n) Go.Proofs.Try.f110 [.agg [.str a0.Name, .int .i64 a0.Kind, .int .i64 a0.Least, .int .i64 a0.Most, .row .e9 a0.Words, .str a0.To, .int .i64 a0.Role, .bool a0.Must, .bool a0.Fixed, .str a0.Default, .str a0.Weighs], .agg [.str a1.Name, .int .i64 a1.Kind, .int .i64 a1.Least, .int .i64 a1.Most, .row .e9 a1.Words, .str a1.To, .int .i64 a1.Role, .bool a1.Must, .bool a1.Fixed, .str a1.Default, .str a1.Weighs]] dec110 = G110n n a0 a1 := by
  kernel_rfl
noncomputable def G110 (a0 : VGateField) (a1 : VGateField) : Option (Bool) := G110n fuel a0 a1
noncomputable def con110 : Con C := { R0 := Bool, ret := fun r => [(false, [.bool r])], g := fun vs => match vs with
  | [.agg [.str y0_0, .int .i64 y0_1, .int .i64 y0_2, .int .i64 y0_3, .row .e9 y0_4, .str y0_5, .int .i64 y0_6, .bool y0_7, .bool y0_8, .str y0_9, .str y0_10], .agg [.str y1_0, .int .i64 y1_1, .int .i64 y1_2, .int .i64 y1_3, .row .e9 y1_4, .str y1_5, .int .i64 y1_6, .bool y1_7, .bool y1_8, .str y1_9, .str y1_10]] => G110 ⟨y0_0, y0_1, y0_2, y0_3, y0_4, y0_5, y0_6, y0_7, y0_8, y0_9, y0_10⟩ ⟨y1_0, y1_1, y1_2, y1_3, y1_4, y1_5, y1_6, y1_7, y1_8, y1_9, y1_10⟩
  | _ => none }
theorem x110 : XOk Go.Proofs.Try.prog X110 := ⟨tks_ok, els_ok, mps_ok, meths_ok⟩
theorem q110 : Cons Go.Proofs.Try.prog X110 := ⟨lkR_ok (l := [(58, con58)]) ⟨c58, trivial⟩, lkW_ok (l := []) trivial, lkI_ok (l := []) trivial⟩
theorem c110 : ConOk Go.Proofs.Try.prog KK 110 con110 := by
  refine con_dec x110 q110 (by kernel_rfl) (f := 110) (fn := Go.Proofs.Try.f110) (c := bodyOf Go.Proofs.Try.f110) (by kernel_rfl) (by kernel_rfl) (by kernel_rfl) (nameB (by kernel_rfl)) con110 dec110 (fun rs r0 h => ?_) (fun vs r0 h => ?_)
  · unfold dec110 at h
    split at h
    · cases h; rfl
    · cases h
  · simp only [con110] at h
    split at h
    · rename_i y0_0 y0_1 y0_2 y0_3 y0_4 y0_5 y0_6 y0_7 y0_8 y0_9 y0_10 y1_0 y1_1 y1_2 y1_3 y1_4 y1_5 y1_6 y1_7 y1_8 y1_9 y1_10
      exact ⟨Nat.le_of_ble_eq_true (by kernel_rfl), F110 fuel, (t110 fuel ⟨y0_0, y0_1, y0_2, y0_3, y0_4, y0_5, y0_6, y0_7, y0_8, y0_9, y0_10⟩ ⟨y1_0, y1_1, y1_2, y1_3, y1_4, y1_5, y1_6, y1_7, y1_8, y1_9, y1_10⟩).trans h⟩
    · cases h
/-! ### f90 loop.example/wharfdesk/laws.eqGateFieldS -/
noncomputable def X90 : Cx C := { K := KK, tk := lk tks, con := lkC [(110, con110)], conw := lkC [], inl := lkA [], hold := [], mp := lk mps, meth := lkS meths, off := 5898240 }
def F90 (n : Nat) : Cf := { N := n, keep := [0, 1, 4, 5, 10, 14, 26], live := lk [(0, [0, 1, 5])] }
def dec90 (rs : List (Bool × List (Lf C))) : Option (Bool) := match rs with
  | [(false, [.bool z0])] => some z0
  | _ => none
abbrev A90_0 : Type := List (C .e100) × List (C .e100) × Int
def s90_0 : A90_0 → St C := fun (x0_0, x0_1, x0_2) => { env := [(0, .one (.row .e100 x0_0)), (1, .one (.row .e100 x0_1)), (5, .one (.int .i64 x0_2))], objs := [], base := 0 }
noncomputable def r90_0 (n : Nat)  (rec0 : A90_0 → Option (Bool)) : A90_0 → Option (Bool) := fun (x0_0, x0_1, x0_2) =>
      cond (decide (x0_2 < (x0_0.length : Int)))
      (cond (decide (0 ≤ x0_2)) (Option.bind x0_0[x0_2.toNat]? fun x1 => cond (decide (0 ≤ x0_2)) (Option.bind x0_1[x0_2.toNat]? fun x2 => Option.bind (G110 x1 x2) fun r3 =>
      cond (!r3)
      (some (false))
      (rec0 (x0_0, x0_1, IntKind.i64.wrap (x0_2 + 1)))) none) none)
      (some (true))
noncomputable def LP90_0 (n : Nat)  (x : A90_0) : Option (Bool) := lpN (r90_0 n ) n x
noncomputable def MP90_0 (n : Nat)  (x : A90_0) : Option (Bool) := iter (fun rec S => run X90 (F90 n) (codeAt (bodyOf Go.Proofs.Try.f90) [1, 1, 0, 1, 0, 0]) 0 S (lopK rec (blkK 0 (seqK (run X90 (F90 n) (codeAt (bodyOf Go.Proofs.Try.f90) [1, 1, 1]) 0) (kTop X90 Go.Proofs.Try.f90 dec90))))) [0, 1, 5] n (s90_0 x)
theorem m90_0 (n : Nat)  (x : A90_0) : MP90_0 n  x = LP90_0 n  x := by
  refine iter_eq s90_0 (r90_0 n ) (fun rec0 x => ?_) n x
  obtain ⟨x0_0, x0_1, x0_2⟩ := x
  kernel_rfl
noncomputable def G90n (n : Nat) (a0 : List (C .e100)) (a1 : List (C .e100)) : Option (Bool) :=
      cond ((a0.length : Int) != (a1.length : Int))
      (some (false))
      (LP90_0 n  (a0, a1, 0))
theorem t90 (n : Nat) (a0 : List (C .e100)) (a1 : List (C .e100)) : runFn X90 (F90 n) Go.Proofs.Try.f90 [.one (.row .e100 a0), .one (.row .e100 a1)] dec90 = G90n n a0 a1 := by
  have h : runFn X90 (F90 n) Go.Proofs.Try.f90 [.one (.row .e100 a0), .one (.row .e100 a1)] dec90 =
      cond ((a0.length : Int) != (a1.length : Int))
      (some (false))
      (MP90_0 n  (a0, a1, 0)) := by kernel_rfl
  simp only [h, G90n, m90_0]
noncomputable def G90 (a0 : List (C .e100)) (a1 : List (C .e100)) : Option (Bool) := G90n fuel a0 a1
noncomputable def con90 : Con C := { R0 := Bool, ret := fun r => [(false, [.bool r])], g := fun vs => match vs with
  | [.one (.row .e100 y0), .one (.row .e100 y1)] => G90 y0 y1
  | _ => none }
theorem x90 : XOk Go.Proofs.Try.prog X90 := ⟨tks_ok, els_ok, mps_ok, meths_ok⟩
theorem q90 : Cons Go.Proofs.Try.prog X90 := ⟨lkR_ok (l := [(110, con110)]) ⟨c110, trivial⟩, lkW_ok (l := []) trivial, lkI_ok (l := []) trivial⟩
theorem c90 : ConOk Go.Proofs.Try.prog KK 90 con90 := by
  refine con_dec x90 q90 (by kernel_rfl) (f := 90) (fn := Go.Proofs.Try.f90) (c := bodyOf Go.Proofs.Try.f90) (by kernel_rfl) (by kernel_rfl) (by kernel_rfl) (nameB (by kernel_rfl)) con90 dec90 (fun rs r0 h => ?_) (fun vs r0 h => ?_)
  · unfold dec90 at h
    split at h
    · cases h; rfl
    · cases h
  · simp only [con90] at h
    split at h
    · rename_i y0 y1
      exact ⟨Nat.le_of_ble_eq_true (by kernel_rfl), F90 fuel, (t90 fuel y0 y1).trans h⟩
    · cases h
/-! ### f59 loop.example/wharfdesk/laws.eqGateShape -/
noncomputable def X59 : Cx C := { K := KK, tk := lk tks, con := lkC [(90, con90)], conw := lkC [], inl := lkA [], hold := [], mp := lk mps, meth := lkS meths, off := 3866624 }
def F59 (n : Nat) : Cf := { N := n, keep := [0, 1, 2, 3, 4, 9, 15], live := lk [] }
def dec59 (rs : List (Bool × List (Lf C))) : Option (Bool) := match rs with
  | [(false, [.bool z0])] => some z0
  | _ => none
noncomputable def G59n (n : Nat) (a0 : VGateShape) (a1 : VGateShape) : Option (Bool) :=
      cond (!decide (a0.Kind = a1.Kind))
      (some (false))
      (Option.bind (G90 a0.Fields a1.Fields) fun r1 =>
      cond (!r1)
      (some (false))
      (some (true)))
theorem t59 (n : Nat) (a0 : VGateShape) (a1 : VGateShape) : runFn X59 (F59 n) Go.Proofs.Try.f59 [.agg [.str a0.Kind, .row .e100 a0.Fields], .agg [.str a1.Kind, .row .e100 a1.Fields]] dec59 = G59n n a0 a1 := by
  kernel_rfl
noncomputable def G59 (a0 : VGateShape) (a1 : VGateShape) : Option (Bool) := G59n fuel a0 a1
noncomputable def con59 : Con C := { R0 := Bool, ret := fun r => [(false, [.bool r])], g := fun vs => match vs with
  | [.agg [.str y0_0, .row .e100 y0_1], .agg [.str y1_0, .row .e100 y1_1]] => G59 ⟨y0_0, y0_1⟩ ⟨y1_0, y1_1⟩
  | _ => none }
theorem x59 : XOk Go.Proofs.Try.prog X59 := ⟨tks_ok, els_ok, mps_ok, meths_ok⟩
theorem q59 : Cons Go.Proofs.Try.prog X59 := ⟨lkR_ok (l := [(90, con90)]) ⟨c90, trivial⟩, lkW_ok (l := []) trivial, lkI_ok (l := []) trivial⟩
theorem c59 : ConOk Go.Proofs.Try.prog KK 59 con59 := by
  refine con_dec x59 q59 (by kernel_rfl) (f := 59) (fn := Go.Proofs.Try.f59) (c := bodyOf Go.Proofs.Try.f59) (by kernel_rfl) (by kernel_rfl) (by kernel_rfl) (nameB (by kernel_rfl)) con59 dec59 (fun rs r0 h => ?_) (fun vs r0 h => ?_)
  · unfold dec59 at h
    split at h
    · cases h; rfl
    · cases h
  · simp only [con59] at h
    split at h
    · rename_i y0_0 y0_1 y1_0 y1_1
      exact ⟨Nat.le_of_ble_eq_true (by kernel_rfl), F59 fuel, (t59 fuel ⟨y0_0, y0_1⟩ ⟨y1_0, y1_1⟩).trans h⟩
    · cases h
/-! ### f21 loop.example/wharfdesk/laws.eqGateShapeS -/
noncomputable def X21 : Cx C := { K := KK, tk := lk tks, con := lkC [(59, con59)], conw := lkC [], inl := lkA [], hold := [], mp := lk mps, meth := lkS meths, off := 1376256 }
def F21 (n : Nat) : Cf := { N := n, keep := [0, 1, 4, 5, 10, 14, 26], live := lk [(0, [0, 1, 5])] }
def dec21 (rs : List (Bool × List (Lf C))) : Option (Bool) := match rs with
  | [(false, [.bool z0])] => some z0
  | _ => none
abbrev A21_0 : Type := List (C .e81) × List (C .e81) × Int
def s21_0 : A21_0 → St C := fun (x0_0, x0_1, x0_2) => { env := [(0, .one (.row .e81 x0_0)), (1, .one (.row .e81 x0_1)), (5, .one (.int .i64 x0_2))], objs := [], base := 0 }
noncomputable def r21_0 (n : Nat)  (rec0 : A21_0 → Option (Bool)) : A21_0 → Option (Bool) := fun (x0_0, x0_1, x0_2) =>
      cond (decide (x0_2 < (x0_0.length : Int)))
      (cond (decide (0 ≤ x0_2)) (Option.bind x0_0[x0_2.toNat]? fun x1 => cond (decide (0 ≤ x0_2)) (Option.bind x0_1[x0_2.toNat]? fun x2 => Option.bind (G59 x1 x2) fun r3 =>
      cond (!r3)
      (some (false))
      (rec0 (x0_0, x0_1, IntKind.i64.wrap (x0_2 + 1)))) none) none)
      (some (true))
noncomputable def LP21_0 (n : Nat)  (x : A21_0) : Option (Bool) := lpN (r21_0 n ) n x
noncomputable def MP21_0 (n : Nat)  (x : A21_0) : Option (Bool) := iter (fun rec S => run X21 (F21 n) (codeAt (bodyOf Go.Proofs.Try.f21) [1, 1, 0, 1, 0, 0]) 0 S (lopK rec (blkK 0 (seqK (run X21 (F21 n) (codeAt (bodyOf Go.Proofs.Try.f21) [1, 1, 1]) 0) (kTop X21 Go.Proofs.Try.f21 dec21))))) [0, 1, 5] n (s21_0 x)
theorem m21_0 (n : Nat)  (x : A21_0) : MP21_0 n  x = LP21_0 n  x := by
  refine iter_eq s21_0 (r21_0 n ) (fun rec0 x => ?_) n x
  obtain ⟨x0_0, x0_1, x0_2⟩ := x
  kernel_rfl
noncomputable def G21n (n : Nat) (a0 : List (C .e81)) (a1 : List (C .e81)) : Option (Bool) :=
      cond ((a0.length : Int) != (a1.length : Int))
      (some (false))
      (LP21_0 n  (a0, a1, 0))
theorem t21 (n : Nat) (a0 : List (C .e81)) (a1 : List (C .e81)) : runFn X21 (F21 n) Go.Proofs.Try.f21 [.one (.row .e81 a0), .one (.row .e81 a1)] dec21 = G21n n a0 a1 := by
  have h : runFn X21 (F21 n) Go.Proofs.Try.f21 [.one (.row .e81 a0), .one (.row .e81 a1)] dec21 =
      cond ((a0.length : Int) != (a1.length : Int))
      (some (false))
      (MP21_0 n  (a0, a1, 0)) := by kernel_rfl
  simp only [h, G21n, m21_0]
noncomputable def G21 (a0 : List (C .e81)) (a1 : List (C .e81)) : Option (Bool) := G21n fuel a0 a1
noncomputable def con21 : Con C := { R0 := Bool, ret := fun r => [(false, [.bool r])], g := fun vs => match vs with
  | [.one (.row .e81 y0), .one (.row .e81 y1)] => G21 y0 y1
  | _ => none }
theorem x21 : XOk Go.Proofs.Try.prog X21 := ⟨tks_ok, els_ok, mps_ok, meths_ok⟩
theorem q21 : Cons Go.Proofs.Try.prog X21 := ⟨lkR_ok (l := [(59, con59)]) ⟨c59, trivial⟩, lkW_ok (l := []) trivial, lkI_ok (l := []) trivial⟩
theorem c21 : ConOk Go.Proofs.Try.prog KK 21 con21 := by
  refine con_dec x21 q21 (by kernel_rfl) (f := 21) (fn := Go.Proofs.Try.f21) (c := bodyOf Go.Proofs.Try.f21) (by kernel_rfl) (by kernel_rfl) (by kernel_rfl) (nameB (by kernel_rfl)) con21 dec21 (fun rs r0 h => ?_) (fun vs r0 h => ?_)
  · unfold dec21 at h
    split at h
    · cases h; rfl
    · cases h
  · simp only [con21] at h
    split at h
    · rename_i y0 y1
      exact ⟨Nat.le_of_ble_eq_true (by kernel_rfl), F21 fuel, (t21 fuel y0 y1).trans h⟩
    · cases h
/-! ### f60 loop.example/wharfdesk/laws.eqGateMend -/
noncomputable def X60 : Cx C := { K := KK, tk := lk tks, con := lkC [], conw := lkC [], inl := lkA [], hold := [], mp := lk mps, meth := lkS meths, off := 3932160 }
def F60 (n : Nat) : Cf := { N := n, keep := [0, 1, 2, 3, 4, 9, 14, 19, 24, 29, 34], live := lk [] }
def dec60 (rs : List (Bool × List (Lf C))) : Option (Bool) := match rs with
  | [(false, [.bool z0])] => some z0
  | _ => none
noncomputable def G60n (n : Nat) (a0 : VGateMend) (a1 : VGateMend) : Option (Bool) :=
      cond (!decide (a0.Kind = a1.Kind))
      (some (false))
      (cond (!decide (a0.Field = a1.Field))
      (some (false))
      (cond (!decide (a0.When = a1.When))
      (some (false))
      (cond (!decide (a0.Is = a1.Is))
      (some (false))
      (cond (!decide (a0.Put = a1.Put))
      (some (false))
      (cond (!decide (a0.From = a1.From))
      (some (false))
      (some (true)))))))
theorem t60 (n : Nat) (a0 : VGateMend) (a1 : VGateMend) : runFn X60 (F60 n) Go.Proofs.Try.f60 [.agg [.str a0.Kind, .str a0.Field, .str a0.When, .str a0.Is, .str a0.Put, .str a0.From], .agg [.str a1.Kind, .str a1.Field, .str a1.When, .str a1.Is, .str a1.Put, .str a1.From]] dec60 = G60n n a0 a1 := by
  kernel_rfl
noncomputable def G60 (a0 : VGateMend) (a1 : VGateMend) : Option (Bool) := G60n fuel a0 a1
noncomputable def con60 : Con C := { R0 := Bool, ret := fun r => [(false, [.bool r])], g := fun vs => match vs with
  | [.agg [.str y0_0, .str y0_1, .str y0_2, .str y0_3, .str y0_4, .str y0_5], .agg [.str y1_0, .str y1_1, .str y1_2, .str y1_3, .str y1_4, .str y1_5]] => G60 ⟨y0_0, y0_1, y0_2, y0_3, y0_4, y0_5⟩ ⟨y1_0, y1_1, y1_2, y1_3, y1_4, y1_5⟩
  | _ => none }
theorem x60 : XOk Go.Proofs.Try.prog X60 := ⟨tks_ok, els_ok, mps_ok, meths_ok⟩
theorem q60 : Cons Go.Proofs.Try.prog X60 := ⟨lkR_ok (l := []) trivial, lkW_ok (l := []) trivial, lkI_ok (l := []) trivial⟩
theorem c60 : ConOk Go.Proofs.Try.prog KK 60 con60 := by
  refine con_dec x60 q60 (by kernel_rfl) (f := 60) (fn := Go.Proofs.Try.f60) (c := bodyOf Go.Proofs.Try.f60) (by kernel_rfl) (by kernel_rfl) (by kernel_rfl) (nameB (by kernel_rfl)) con60 dec60 (fun rs r0 h => ?_) (fun vs r0 h => ?_)
  · unfold dec60 at h
    split at h
    · cases h; rfl
    · cases h
  · simp only [con60] at h
    split at h
    · rename_i y0_0 y0_1 y0_2 y0_3 y0_4 y0_5 y1_0 y1_1 y1_2 y1_3 y1_4 y1_5
      exact ⟨Nat.le_of_ble_eq_true (by kernel_rfl), F60 fuel, (t60 fuel ⟨y0_0, y0_1, y0_2, y0_3, y0_4, y0_5⟩ ⟨y1_0, y1_1, y1_2, y1_3, y1_4, y1_5⟩).trans h⟩
    · cases h
/-! ### f22 loop.example/wharfdesk/laws.eqGateMendS -/
noncomputable def X22 : Cx C := { K := KK, tk := lk tks, con := lkC [(60, con60)], conw := lkC [], inl := lkA [], hold := [], mp := lk mps, meth := lkS meths, off := 1441792 }
def F22 (n : Nat) : Cf := { N := n, keep := [0, 1, 4, 5, 10, 14, 26], live := lk [(0, [0, 1, 5])] }
def dec22 (rs : List (Bool × List (Lf C))) : Option (Bool) := match rs with
  | [(false, [.bool z0])] => some z0
  | _ => none
abbrev A22_0 : Type := List (C .e83) × List (C .e83) × Int
def s22_0 : A22_0 → St C := fun (x0_0, x0_1, x0_2) => { env := [(0, .one (.row .e83 x0_0)), (1, .one (.row .e83 x0_1)), (5, .one (.int .i64 x0_2))], objs := [], base := 0 }
noncomputable def r22_0 (n : Nat)  (rec0 : A22_0 → Option (Bool)) : A22_0 → Option (Bool) := fun (x0_0, x0_1, x0_2) =>
      cond (decide (x0_2 < (x0_0.length : Int)))
      (cond (decide (0 ≤ x0_2)) (Option.bind x0_0[x0_2.toNat]? fun x1 => cond (decide (0 ≤ x0_2)) (Option.bind x0_1[x0_2.toNat]? fun x2 => Option.bind (G60 x1 x2) fun r3 =>
      cond (!r3)
      (some (false))
      (rec0 (x0_0, x0_1, IntKind.i64.wrap (x0_2 + 1)))) none) none)
      (some (true))
noncomputable def LP22_0 (n : Nat)  (x : A22_0) : Option (Bool) := lpN (r22_0 n ) n x
noncomputable def MP22_0 (n : Nat)  (x : A22_0) : Option (Bool) := iter (fun rec S => run X22 (F22 n) (codeAt (bodyOf Go.Proofs.Try.f22) [1, 1, 0, 1, 0, 0]) 0 S (lopK rec (blkK 0 (seqK (run X22 (F22 n) (codeAt (bodyOf Go.Proofs.Try.f22) [1, 1, 1]) 0) (kTop X22 Go.Proofs.Try.f22 dec22))))) [0, 1, 5] n (s22_0 x)
theorem m22_0 (n : Nat)  (x : A22_0) : MP22_0 n  x = LP22_0 n  x := by
  refine iter_eq s22_0 (r22_0 n ) (fun rec0 x => ?_) n x
  obtain ⟨x0_0, x0_1, x0_2⟩ := x
  kernel_rfl
noncomputable def G22n (n : Nat) (a0 : List (C .e83)) (a1 : List (C .e83)) : Option (Bool) :=
      cond ((a0.length : Int) != (a1.length : Int))
      (some (false))
      (LP22_0 n  (a0, a1, 0))
theorem t22 (n : Nat) (a0 : List (C .e83)) (a1 : List (C .e83)) : runFn X22 (F22 n) Go.Proofs.Try.f22 [.one (.row .e83 a0), .one (.row .e83 a1)] dec22 = G22n n a0 a1 := by
  have h : runFn X22 (F22 n) Go.Proofs.Try.f22 [.one (.row .e83 a0), .one (.row .e83 a1)] dec22 =
      cond ((a0.length : Int) != (a1.length : Int))
      (some (false))
      (MP22_0 n  (a0, a1, 0)) := by kernel_rfl
  simp only [h, G22n, m22_0]
noncomputable def G22 (a0 : List (C .e83)) (a1 : List (C .e83)) : Option (Bool) := G22n fuel a0 a1
noncomputable def con22 : Con C := { R0 := Bool, ret := fun r => [(false, [.bool r])], g := fun vs => match vs with
  | [.one (.row .e83 y0), .one (.row .e83 y1)] => G22 y0 y1
  | _ => none }
theorem x22 : XOk Go.Proofs.Try.prog X22 := ⟨tks_ok, els_ok, mps_ok, meths_ok⟩
theorem q22 : Cons Go.Proofs.Try.prog X22 := ⟨lkR_ok (l := [(60, con60)]) ⟨c60, trivial⟩, lkW_ok (l := []) trivial, lkI_ok (l := []) trivial⟩
theorem c22 : ConOk Go.Proofs.Try.prog KK 22 con22 := by
  refine con_dec x22 q22 (by kernel_rfl) (f := 22) (fn := Go.Proofs.Try.f22) (c := bodyOf Go.Proofs.Try.f22) (by kernel_rfl) (by kernel_rfl) (by kernel_rfl) (nameB (by kernel_rfl)) con22 dec22 (fun rs r0 h => ?_) (fun vs r0 h => ?_)
  · unfold dec22 at h
    split at h
    · cases h; rfl
    · cases h
  · simp only [con22] at h
    split at h
    · rename_i y0 y1
      exact ⟨Nat.le_of_ble_eq_true (by kernel_rfl), F22 fuel, (t22 fuel y0 y1).trans h⟩
    · cases h
/-! ### f80 loop.example/wharfdesk/laws.eqGateTeam -/
noncomputable def X80 : Cx C := { K := KK, tk := lk tks, con := lkC [], conw := lkC [], inl := lkA [], hold := [], mp := lk mps, meth := lkS meths, off := 5242880 }
def F80 (n : Nat) : Cf := { N := n, keep := [0, 1, 2, 3, 4, 9, 14], live := lk [] }
def dec80 (rs : List (Bool × List (Lf C))) : Option (Bool) := match rs with
  | [(false, [.bool z0])] => some z0
  | _ => none
noncomputable def G80n (n : Nat) (a0 : VGateTeam) (a1 : VGateTeam) : Option (Bool) :=
      cond (!decide (a0.Name = a1.Name))
      (some (false))
      (cond (!decide (a0.Over = a1.Over))
      (some (false))
      (some (true)))
theorem t80 (n : Nat) (a0 : VGateTeam) (a1 : VGateTeam) : runFn X80 (F80 n) Go.Proofs.Try.f80 [.agg [.str a0.Name, .str a0.Over], .agg [.str a1.Name, .str a1.Over]] dec80 = G80n n a0 a1 := by
  kernel_rfl
noncomputable def G80 (a0 : VGateTeam) (a1 : VGateTeam) : Option (Bool) := G80n fuel a0 a1
noncomputable def con80 : Con C := { R0 := Bool, ret := fun r => [(false, [.bool r])], g := fun vs => match vs with
  | [.agg [.str y0_0, .str y0_1], .agg [.str y1_0, .str y1_1]] => G80 ⟨y0_0, y0_1⟩ ⟨y1_0, y1_1⟩
  | _ => none }
theorem x80 : XOk Go.Proofs.Try.prog X80 := ⟨tks_ok, els_ok, mps_ok, meths_ok⟩
theorem q80 : Cons Go.Proofs.Try.prog X80 := ⟨lkR_ok (l := []) trivial, lkW_ok (l := []) trivial, lkI_ok (l := []) trivial⟩
theorem c80 : ConOk Go.Proofs.Try.prog KK 80 con80 := by
  refine con_dec x80 q80 (by kernel_rfl) (f := 80) (fn := Go.Proofs.Try.f80) (c := bodyOf Go.Proofs.Try.f80) (by kernel_rfl) (by kernel_rfl) (by kernel_rfl) (nameB (by kernel_rfl)) con80 dec80 (fun rs r0 h => ?_) (fun vs r0 h => ?_)
  · unfold dec80 at h
    split at h
    · cases h; rfl
    · cases h
  · simp only [con80] at h
    split at h
    · rename_i y0_0 y0_1 y1_0 y1_1
      exact ⟨Nat.le_of_ble_eq_true (by kernel_rfl), F80 fuel, (t80 fuel ⟨y0_0, y0_1⟩ ⟨y1_0, y1_1⟩).trans h⟩
    · cases h
/-! ### f43 loop.example/wharfdesk/laws.eqGateTeamS -/
noncomputable def X43 : Cx C := { K := KK, tk := lk tks, con := lkC [(80, con80)], conw := lkC [], inl := lkA [], hold := [], mp := lk mps, meth := lkS meths, off := 2818048 }
def F43 (n : Nat) : Cf := { N := n, keep := [0, 1, 4, 5, 10, 14, 26], live := lk [(0, [0, 1, 5])] }
def dec43 (rs : List (Bool × List (Lf C))) : Option (Bool) := match rs with
  | [(false, [.bool z0])] => some z0
  | _ => none
abbrev A43_0 : Type := List (C .e106) × List (C .e106) × Int
def s43_0 : A43_0 → St C := fun (x0_0, x0_1, x0_2) => { env := [(0, .one (.row .e106 x0_0)), (1, .one (.row .e106 x0_1)), (5, .one (.int .i64 x0_2))], objs := [], base := 0 }
noncomputable def r43_0 (n : Nat)  (rec0 : A43_0 → Option (Bool)) : A43_0 → Option (Bool) := fun (x0_0, x0_1, x0_2) =>
      cond (decide (x0_2 < (x0_0.length : Int)))
      (cond (decide (0 ≤ x0_2)) (Option.bind x0_0[x0_2.toNat]? fun x1 => cond (decide (0 ≤ x0_2)) (Option.bind x0_1[x0_2.toNat]? fun x2 => Option.bind (G80 x1 x2) fun r3 =>
      cond (!r3)
      (some (false))
      (rec0 (x0_0, x0_1, IntKind.i64.wrap (x0_2 + 1)))) none) none)
      (some (true))
noncomputable def LP43_0 (n : Nat)  (x : A43_0) : Option (Bool) := lpN (r43_0 n ) n x
noncomputable def MP43_0 (n : Nat)  (x : A43_0) : Option (Bool) := iter (fun rec S => run X43 (F43 n) (codeAt (bodyOf Go.Proofs.Try.f43) [1, 1, 0, 1, 0, 0]) 0 S (lopK rec (blkK 0 (seqK (run X43 (F43 n) (codeAt (bodyOf Go.Proofs.Try.f43) [1, 1, 1]) 0) (kTop X43 Go.Proofs.Try.f43 dec43))))) [0, 1, 5] n (s43_0 x)
theorem m43_0 (n : Nat)  (x : A43_0) : MP43_0 n  x = LP43_0 n  x := by
  refine iter_eq s43_0 (r43_0 n ) (fun rec0 x => ?_) n x
  obtain ⟨x0_0, x0_1, x0_2⟩ := x
  kernel_rfl
noncomputable def G43n (n : Nat) (a0 : List (C .e106)) (a1 : List (C .e106)) : Option (Bool) :=
      cond ((a0.length : Int) != (a1.length : Int))
      (some (false))
      (LP43_0 n  (a0, a1, 0))
theorem t43 (n : Nat) (a0 : List (C .e106)) (a1 : List (C .e106)) : runFn X43 (F43 n) Go.Proofs.Try.f43 [.one (.row .e106 a0), .one (.row .e106 a1)] dec43 = G43n n a0 a1 := by
  have h : runFn X43 (F43 n) Go.Proofs.Try.f43 [.one (.row .e106 a0), .one (.row .e106 a1)] dec43 =
      cond ((a0.length : Int) != (a1.length : Int))
      (some (false))
      (MP43_0 n  (a0, a1, 0)) := by kernel_rfl
  simp only [h, G43n, m43_0]
noncomputable def G43 (a0 : List (C .e106)) (a1 : List (C .e106)) : Option (Bool) := G43n fuel a0 a1
noncomputable def con43 : Con C := { R0 := Bool, ret := fun r => [(false, [.bool r])], g := fun vs => match vs with
  | [.one (.row .e106 y0), .one (.row .e106 y1)] => G43 y0 y1
  | _ => none }
theorem x43 : XOk Go.Proofs.Try.prog X43 := ⟨tks_ok, els_ok, mps_ok, meths_ok⟩
theorem q43 : Cons Go.Proofs.Try.prog X43 := ⟨lkR_ok (l := [(80, con80)]) ⟨c80, trivial⟩, lkW_ok (l := []) trivial, lkI_ok (l := []) trivial⟩
theorem c43 : ConOk Go.Proofs.Try.prog KK 43 con43 := by
  refine con_dec x43 q43 (by kernel_rfl) (f := 43) (fn := Go.Proofs.Try.f43) (c := bodyOf Go.Proofs.Try.f43) (by kernel_rfl) (by kernel_rfl) (by kernel_rfl) (nameB (by kernel_rfl)) con43 dec43 (fun rs r0 h => ?_) (fun vs r0 h => ?_)
  · unfold dec43 at h
    split at h
    · cases h; rfl
    · cases h
  · simp only [con43] at h
    split at h
    · rename_i y0 y1
      exact ⟨Nat.le_of_ble_eq_true (by kernel_rfl), F43 fuel, (t43 fuel y0 y1).trans h⟩
    · cases h
/-! ### f11 loop.example/wharfdesk/laws.eqGateLaw -/
noncomputable def X11 : Cx C := { K := KK, tk := lk tks, con := lkC [(21, con21), (22, con22), (43, con43)], conw := lkC [], inl := lkA [], hold := [], mp := lk mps, meth := lkS meths, off := 720896 }
def F11 (n : Nat) : Cf := { N := n, keep := [0, 1, 2, 3, 4, 10, 16, 22], live := lk [] }
def dec11 (rs : List (Bool × List (Lf C))) : Option (Bool) := match rs with
  | [(false, [.bool z0])] => some z0
  | _ => none
noncomputable def G11n (n : Nat) (a0 : VGateLaw) (a1 : VGateLaw) : Option (Bool) :=
      Option.bind (G21 a0.Shapes a1.Shapes) fun r1 =>
      cond (!r1)
      (some (false))
      (Option.bind (G22 a0.Mends a1.Mends) fun r2 =>
      cond (!r2)
      (some (false))
      (Option.bind (G43 a0.Teams a1.Teams) fun r3 =>
      cond (!r3)
      (some (false))
      (some (true))))
theorem t11 (n : Nat) (a0 : VGateLaw) (a1 : VGateLaw) : runFn X11 (F11 n) Go.Proofs.Try.f11 [.agg [.row .e81 a0.Shapes, .row .e83 a0.Mends, .row .e106 a0.Teams], .agg [.row .e81 a1.Shapes, .row .e83 a1.Mends, .row .e106 a1.Teams]] dec11 = G11n n a0 a1 := by
  kernel_rfl
noncomputable def G11 (a0 : VGateLaw) (a1 : VGateLaw) : Option (Bool) := G11n fuel a0 a1
noncomputable def con11 : Con C := { R0 := Bool, ret := fun r => [(false, [.bool r])], g := fun vs => match vs with
  | [.agg [.row .e81 y0_0, .row .e83 y0_1, .row .e106 y0_2], .agg [.row .e81 y1_0, .row .e83 y1_1, .row .e106 y1_2]] => G11 ⟨y0_0, y0_1, y0_2⟩ ⟨y1_0, y1_1, y1_2⟩
  | _ => none }
theorem x11 : XOk Go.Proofs.Try.prog X11 := ⟨tks_ok, els_ok, mps_ok, meths_ok⟩
theorem q11 : Cons Go.Proofs.Try.prog X11 := ⟨lkR_ok (l := [(21, con21), (22, con22), (43, con43)]) ⟨c21, c22, c43, trivial⟩, lkW_ok (l := []) trivial, lkI_ok (l := []) trivial⟩
theorem c11 : ConOk Go.Proofs.Try.prog KK 11 con11 := by
  refine con_dec x11 q11 (by kernel_rfl) (f := 11) (fn := Go.Proofs.Try.f11) (c := bodyOf Go.Proofs.Try.f11) (by kernel_rfl) (by kernel_rfl) (by kernel_rfl) (nameB (by kernel_rfl)) con11 dec11 (fun rs r0 h => ?_) (fun vs r0 h => ?_)
  · unfold dec11 at h
    split at h
    · cases h; rfl
    · cases h
  · simp only [con11] at h
    split at h
    · rename_i y0_0 y0_1 y0_2 y1_0 y1_1 y1_2
      exact ⟨Nat.le_of_ble_eq_true (by kernel_rfl), F11 fuel, (t11 fuel ⟨y0_0, y0_1, y0_2⟩ ⟨y1_0, y1_1, y1_2⟩).trans h⟩
    · cases h
/-! ### f3 loop.example/wharfdesk/laws.FnExactGateLawOk -/
noncomputable def X3 : Cx C := { K := KK, tk := lk tks, con := lkC [(7, con7), (8, con8), (9, con9), (10, con10), (11, con11)], conw := lkC [], inl := lkA [], hold := [], mp := lk mps, meth := lkS meths, off := 196608 }
def F3 (n : Nat) : Cf := { N := n, keep := [0, 1, 2, 3, 4, 5, 6, 11, 21, 26], live := lk [] }
def dec3 (rs : List (Bool × List (Lf C))) : Option (Bool) := match rs with
  | [(false, [.bool z0])] => some z0
  | _ => none
noncomputable def G3n (n : Nat) (a0 : VGateLaw) : Option (Bool) :=
      Option.bind (G7 a0 1048576) fun r1 =>
      cond (decide (r1 < 0))
      (some (true))
      (Option.bind (G9 a0) fun r2 =>
      Option.bind (G8 r2) fun r3 =>
      Option.bind (G9 a0) fun r4 =>
      Option.bind (G10 r4) fun r5 =>
      cond (!(r5 == r3))
      (some (false))
      (Option.bind (G9 a0) fun r6 =>
      Option.bind (G11 r4 r6) fun r7 =>
      cond (!r7)
      (some (false))
      (some (true))))
theorem t3 (n : Nat) (a0 : VGateLaw) : runFn X3 (F3 n) Go.Proofs.Try.f3 [.agg [.row .e74 a0.Shapes, .row .e77 a0.Mends, .row .e103 a0.Teams]] dec3 = G3n n a0 := by
  kernel_rfl
noncomputable def G3 (a0 : VGateLaw) : Option (Bool) := G3n fuel a0
noncomputable def con3 : Con C := { R0 := Bool, ret := fun r => [(false, [.bool r])], g := fun vs => match vs with
  | [.agg [.row .e74 y0_0, .row .e77 y0_1, .row .e103 y0_2]] => G3 ⟨y0_0, y0_1, y0_2⟩
  | _ => none }
theorem x3 : XOk Go.Proofs.Try.prog X3 := ⟨tks_ok, els_ok, mps_ok, meths_ok⟩
theorem q3 : Cons Go.Proofs.Try.prog X3 := ⟨lkR_ok (l := [(7, con7), (8, con8), (9, con9), (10, con10), (11, con11)]) ⟨c7, c8, c9, c10, c11, trivial⟩, lkW_ok (l := []) trivial, lkI_ok (l := []) trivial⟩
theorem c3 : ConOk Go.Proofs.Try.prog KK 3 con3 := by
  refine con_dec x3 q3 (by kernel_rfl) (f := 3) (fn := Go.Proofs.Try.f3) (c := bodyOf Go.Proofs.Try.f3) (by kernel_rfl) (by kernel_rfl) (by kernel_rfl) (nameB (by kernel_rfl)) con3 dec3 (fun rs r0 h => ?_) (fun vs r0 h => ?_)
  · unfold dec3 at h
    split at h
    · cases h; rfl
    · cases h
  · simp only [con3] at h
    split at h
    · rename_i y0_0 y0_1 y0_2
      exact ⟨Nat.le_of_ble_eq_true (by kernel_rfl), F3 fuel, (t3 fuel ⟨y0_0, y0_1, y0_2⟩).trans h⟩
    · cases h

end Go.Proofs.Ytkiognopoigbhaa.Ab
