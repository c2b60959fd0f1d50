/- The law FnExactGateSlipOk holds: for every input the Go function returns true, and each argument reads afterwards as it read before. No condition is added to the statement. -/
import Derived.Test.YtjodpeldfebhfaaGreatP6
import Derived.Test.YtjodpeldfebhfaaGreatRows
import Derived.WalkKit
import Derived.ProofKit
import Derived.OpenShut
import Derived.ShutString
import Derived.ChangeOld
import Derived.Below
import Derived.SizedLaws
set_option linter.unusedVariables false
namespace Go.Proofs.YtjodpeldfebhfaaGreat.fnExactGateSlipOk
open Go.ChangeShapes Go.WideShapes Go.ChangeAt Go.RowKit Go.Proofs.YtjodpeldfebhfaaGreat.Ab
theorem own : ownKnob Tryz.prog.godebug = none := by kernel_rfl
theorem laidOut : laidOutB Tryz.prog = true := by kernel_rfl
set_option maxRecDepth 100000 in
theorem lifted (os : Os) (started : os.Started) (H : Type) (enc : TypeId × Value → H) :
    ReturnsInHanded {} Tryz.checked os 4 .any (Rows.fnExactGateSlipOkSpec.pre6 enc Tryz.prog Tryz.f4 Rows.fnExactGateSlipOkRow.domain false) (Rows.fnExactGateSlipOkSpec.post enc Tryz.prog Tryz.f4 false true false false) := by
  refine returnsInHanded_of_change_sized (C := Tryz.checked) own started (by kernel_rfl) Tryz.func4
    (ChangeSpec.witness6 (enc := enc) (C := Tryz.checked) false ⟨#[], #[.agg #[.slice none 0 0, .slice none 0 0, .slice none 0 0], .agg #[.string ByteArray.empty, .string ByteArray.empty, .int .i64 0, .string ByteArray.empty, .string ByteArray.empty, .string ByteArray.empty, .slice none 0 0, .slice none 0 0, .int .i64 0, .string ByteArray.empty, .string ByteArray.empty, .slice none 0 0, .string ByteArray.empty, .string ByteArray.empty, .string ByteArray.empty, .int .i64 0, .int .i64 0, .slice none 0 0]], []⟩ 8 (by kernel_rfl) (by kernel_rfl) (by kernel_rfl) (by kernel_rfl)) ?_
  intro W base args ds gs before hval0 hW hcnd hsz0 _
  have hval : ∀ (j : Nat) t v, Tryz.f4.params[j]? = some t → args[j]? = some v → Value.okWide Tryz.prog W .any base t v := hval0
  have hW' := hW
  obtain ⟨p, q, hA0, hV, rfl, hfz, hnd⟩ := hW
  have hA : DataW.TrodAll enc Tryz.prog W 0 (fun _ => true) true Tryz.f4.params.toList args.toList ds p := hA0
  rw [Tryz.params4] at hA hval
  obtain ⟨v0, vs0, d0, ds0, p0, q0, hargs, rfl, rfl, h0, r0⟩ := trodAll_cons hA
  obtain ⟨v1, vs1, d1, ds1, p1, q1, rfl, rfl, rfl, h1, r1⟩ := trodAll_cons r0
  obtain ⟨rfl, rfl, rfl⟩ := trodAll_nil r1
  obtain rfl : args = #[v0, v1] := by cases args; simp_all
  obtain ⟨rfl, rfl⟩ := trodVars_none hV
  obtain ⟨ar0, e0, -, -⟩ := (show ∃ cs, v0 = .agg cs ∧ _ ∧ _ from by have h := hval 0 26 v0 rfl rfl; unfold Value.okWide at h; rw [Tryz.underlying26] at h; exact h)
  subst e0
  have k0 := h0
  have lt0 : ∀ x ∈ p0, x.block < W.heap.size := by obtain ⟨m, hm⟩ := k0; exact DataW.trod_lt m _ _ _ hm
  obtain ⟨fu0, hf0⟩ := h0
  obtain ⟨ls0_0, g0_0, len0, rep0⟩ := open_ok tab_ok fu0 26 _ _ _ hf0 rfl rfl
  obtain ⟨l0_0, ls0_1, rfl, z0_0, g0_1⟩ := kinds_cons g0_0
  obtain ⟨x0_0, rfl⟩ := kind_sli z0_0
  obtain ⟨l0_1, ls0_2, rfl, z0_1, g0_2⟩ := kinds_cons g0_1
  obtain ⟨x0_1, rfl⟩ := kind_sli z0_1
  obtain ⟨l0_2, ls0_3, rfl, z0_2, g0_3⟩ := kinds_cons g0_2
  obtain ⟨x0_2, rfl⟩ := kind_sli z0_2
  obtain rfl := kinds_nil g0_3
  obtain ⟨ar1, e1, -, -⟩ := (show ∃ cs, v1 = .agg cs ∧ _ ∧ _ from by have h := hval 1 51 v1 rfl rfl; unfold Value.okWide at h; rw [Tryz.underlying51] at h; exact h)
  subst e1
  have k1 := h1
  have lt1 : ∀ x ∈ p1, x.block < W.heap.size := by obtain ⟨m, hm⟩ := k1; exact DataW.trod_lt m _ _ _ hm
  obtain ⟨fu1, hf1⟩ := h1
  obtain ⟨ls1_0, g1_0, len1, rep1⟩ := open_ok tab_ok fu1 51 _ _ _ hf1 rfl rfl
  obtain ⟨l1_0, ls1_1, rfl, z1_0, g1_1⟩ := kinds_cons g1_0
  obtain ⟨x1_0, rfl⟩ := kind_str z1_0
  obtain ⟨l1_1, ls1_2, rfl, z1_1, g1_2⟩ := kinds_cons g1_1
  obtain ⟨x1_1, rfl⟩ := kind_str z1_1
  obtain ⟨l1_2, ls1_3, rfl, z1_2, g1_3⟩ := kinds_cons g1_2
  obtain ⟨x1_2, rfl⟩ := kind_int z1_2
  obtain ⟨l1_3, ls1_4, rfl, z1_3, g1_4⟩ := kinds_cons g1_3
  obtain ⟨x1_3, rfl⟩ := kind_str z1_3
  obtain ⟨l1_4, ls1_5, rfl, z1_4, g1_5⟩ := kinds_cons g1_4
  obtain ⟨x1_4, rfl⟩ := kind_str z1_4
  obtain ⟨l1_5, ls1_6, rfl, z1_5, g1_6⟩ := kinds_cons g1_5
  obtain ⟨x1_5, rfl⟩ := kind_str z1_5
  obtain ⟨l1_6, ls1_7, rfl, z1_6, g1_7⟩ := kinds_cons g1_6
  obtain ⟨x1_6, rfl⟩ := kind_sli z1_6
  obtain ⟨l1_7, ls1_8, rfl, z1_7, g1_8⟩ := kinds_cons g1_7
  obtain ⟨x1_7, rfl⟩ := kind_sli z1_7
  obtain ⟨l1_8, ls1_9, rfl, z1_8, g1_9⟩ := kinds_cons g1_8
  obtain ⟨x1_8, rfl⟩ := kind_int z1_8
  obtain ⟨l1_9, ls1_10, rfl, z1_9, g1_10⟩ := kinds_cons g1_9
  obtain ⟨x1_9, rfl⟩ := kind_str z1_9
  obtain ⟨l1_10, ls1_11, rfl, z1_10, g1_11⟩ := kinds_cons g1_10
  obtain ⟨x1_10, rfl⟩ := kind_str z1_10
  obtain ⟨l1_11, ls1_12, rfl, z1_11, g1_12⟩ := kinds_cons g1_11
  obtain ⟨x1_11, rfl⟩ := kind_sli z1_11
  obtain ⟨l1_12, ls1_13, rfl, z1_12, g1_13⟩ := kinds_cons g1_12
  obtain ⟨x1_12, rfl⟩ := kind_str z1_12
  obtain ⟨l1_13, ls1_14, rfl, z1_13, g1_14⟩ := kinds_cons g1_13
  obtain ⟨x1_13, rfl⟩ := kind_str z1_13
  obtain ⟨l1_14, ls1_15, rfl, z1_14, g1_15⟩ := kinds_cons g1_14
  obtain ⟨x1_14, rfl⟩ := kind_str z1_14
  obtain ⟨l1_15, ls1_16, rfl, z1_15, g1_16⟩ := kinds_cons g1_15
  obtain ⟨x1_15, rfl⟩ := kind_int z1_15
  obtain ⟨l1_16, ls1_17, rfl, z1_16, g1_17⟩ := kinds_cons g1_16
  obtain ⟨x1_16, rfl⟩ := kind_int z1_16
  obtain ⟨l1_17, ls1_18, rfl, z1_17, g1_18⟩ := kinds_cons g1_17
  obtain ⟨x1_17, rfl⟩ := kind_sli z1_17
  obtain rfl := kinds_nil g1_18
  clear hA0 hval0 hsz0
  have hres := c4.2 W [.agg [.row .e90 x0_0, .row .e93 x0_1, .row .e96 x0_2], .agg [.str x1_0, .str x1_1, .int .i64 x1_2, .str x1_3, .str x1_4, .str x1_5, .row .e9 x1_6, .row .e9 x1_7, .int .i64 x1_8, .str x1_9, .str x1_10, .row .e3 x1_11, .str x1_12, .str x1_13, .str x1_14, .int .i64 x1_15, .int .i64 x1_16, .row .e127 x1_17]] [.agg ar0, .agg ar1] true (by rfl) (fun i sv hi => ?_) (pure4 ⟨x0_0, x0_1, x0_2⟩ ⟨x1_0, x1_1, x1_2, x1_3, x1_4, x1_5, x1_6, x1_7, x1_8, x1_9, x1_10, x1_11, x1_12, x1_13, x1_14, x1_15, x1_16, x1_17⟩ (rep0 0 _ rfl).2 (rep0 1 _ rfl).2 (rep0 2 _ rfl).2 (rep1 0 _ rfl).2 (rep1 1 _ rfl).2 (rep1 2 _ rfl).2 (rep1 3 _ rfl).2 (rep1 4 _ rfl).2 (rep1 5 _ rfl).2 (rep1 6 _ rfl).2 (rep1 7 _ rfl).2 (rep1 8 _ rfl).2 (rep1 9 _ rfl).2 (rep1 10 _ rfl).2 (rep1 11 _ rfl).2 (rep1 12 _ rfl).2 (rep1 13 _ rfl).2 (rep1 14 _ rfl).2 (rep1 15 _ rfl).2 (rep1 16 _ rfl).2 (rep1 17 _ rfl).2)
  · refine hres.mono fun e W' ⟨v, he, bel, us, G, q1, q2, q3, q4, q5, q6⟩ => ?_
    have hv : v = .bool true := by
      have hlen : us.length = 1 := q2
      obtain ⟨u, rfl⟩ := List.length_eq_one_iff.1 hlen
      have hu := q6 0 (.bool true) rfl
      cases hu
      exact q1
    subst he
    subst hv
    exact ⟨_, rfl, _, _, _, [], _, [], hW', trodAll_mk1 (shut_bool Tryz.underlying4 _), (trodAll_cons_mk (Below.trod laidOut (by kernel_rfl) (of_decide_eq_true (by kernel_rfl)) k0 bel lt0) (trodAll_cons_mk (Below.trod laidOut (by kernel_rfl) (of_decide_eq_true (by kernel_rfl)) k1 bel lt1) trodAll_mk0)), rfl, bel.frame _, fun h => by cases h⟩
  · match i with
    | 0 => cases hi; exact ⟨ar0.toList, by simp, by simpa [Value.cells] using len0.symm, fun j l hj => (rep0 j l hj).1⟩
    | 1 => cases hi; exact ⟨ar1.toList, by simp, by simpa [Value.cells] using len1.symm, fun j l hj => (rep1 j l hj).1⟩
    | n + 2 => simp at hi
theorem over : Rows.fnExactGateSlipOkRow.holds Tryz.pinned (OpenSpec.ofChange Rows.fnExactGateSlipOkSpec) :=
  OpenClaim.holds_of_wide 4 Tryz.f4 rfl rfl rfl rfl rfl rfl rfl ⟨rfl, rfl, rfl, rfl, rfl⟩ rfl rfl rfl rfl rfl (by kernel_rfl) Tryz.func4 (by kernel_rfl)
    (of_decide_eq_true (by kernel_rfl)) (by unfold Func.isWrapper; first | (rw [if_pos (by decide +kernel)]; kernel_rfl) | (rw [if_neg (by decide +kernel)]; exact ⟨rfl, rfl⟩))
    (fun os started H enc _ => lifted os started H enc)
theorem proved : Rows.FnExactGateSlipOkSaid := over
#print axioms proved
end Go.Proofs.YtjodpeldfebhfaaGreat.fnExactGateSlipOk
namespace Go.Proofs.YtjodpeldfebhfaaGreat
theorem fnExactGateSlipOk_holds : Rows.FnExactGateSlipOkSaid := fnExactGateSlipOk.proved
end Go.Proofs.YtjodpeldfebhfaaGreat
