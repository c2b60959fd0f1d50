/- The law FnExactStewApply holds: for every input the Go function returns true, and each argument reads afterwards as it read before. No condition is added to the statement. -/
import Derived.Test.YtakakoogpmhhkaaP7
import Derived.Test.YtakakoogpmhhkaaRows
import Derived.WalkKit
import Derived.ProofKit
import Derived.OpenShut
import Derived.ShutString
import Derived.ChangeOld
import Derived.Below
import Derived.SizedLaws
set_option linter.unusedVariables false
namespace Go.Proofs.Ytakakoogpmhhkaa.fnExactStewApply
open Go.ChangeShapes Go.WideShapes Go.ChangeAt Go.RowKit Go.Proofs.Ytakakoogpmhhkaa.Ab
theorem own : ownKnob Try.prog.godebug = none := by kernel_rfl
theorem laidOut : laidOutB Try.prog = true := by kernel_rfl
set_option maxRecDepth 100000 in
theorem lifted (os : Os) (started : os.Started) (H : Type) (enc : TypeId × Value → H) :
    ReturnsInHanded {} Try.checked os 3 .any (Rows.fnExactStewApplySpec.pre6 enc Try.prog Try.f3 Rows.fnExactStewApplyRow.domain false) (Rows.fnExactStewApplySpec.post enc Try.prog Try.f3 false true false false) := by
  refine returnsInHanded_of_change_sized (C := Try.checked) own started (by kernel_rfl) Try.func3
    (ChangeSpec.witness6 (enc := enc) (C := Try.checked) false ⟨#[], #[.agg #[.int .i64 0, .slice none 0 0, .slice none 0 0, .slice none 0 0], .agg #[.string ByteArray.empty, .int .i64 0, .int .i64 0, .int .i64 0, .int .i64 0, .bool false, .slice none 0 0, .bool false]], []⟩ 8 (by kernel_rfl) (by kernel_rfl) (by kernel_rfl) (by kernel_rfl)) ?_
  intro W base args ds gs before hval0 hW hcnd hsz0 _
  have hval : ∀ (j : Nat) t v, Try.f3.params[j]? = some t → args[j]? = some v → Value.okWide Try.prog W .any base t v := hval0
  have hW' := hW
  obtain ⟨p, q, hA0, hV, rfl, hfz, hnd⟩ := hW
  have hA : DataW.TrodAll enc Try.prog W 0 (fun _ => true) true Try.f3.params.toList args.toList ds p := hA0
  rw [Try.params3] at hA hval
  obtain ⟨v0, vs0, d0, ds0, p0, q0, hargs, rfl, rfl, h0, r0⟩ := trodAll_cons hA
  obtain ⟨v1, vs1, d1, ds1, p1, q1, rfl, rfl, rfl, h1, r1⟩ := trodAll_cons r0
  obtain ⟨rfl, rfl, rfl⟩ := trodAll_nil r1
  obtain rfl : args = #[v0, v1] := by cases args; simp_all
  obtain ⟨rfl, rfl⟩ := trodVars_none hV
  obtain ⟨ar0, e0, -, -⟩ := (show ∃ cs, v0 = .agg cs ∧ _ ∧ _ from by have h := hval 0 26 v0 rfl rfl; unfold Value.okWide at h; rw [Try.underlying26] at h; exact h)
  subst e0
  have k0 := h0
  have lt0 : ∀ x ∈ p0, x.block < W.heap.size := by obtain ⟨m, hm⟩ := k0; exact DataW.trod_lt m _ _ _ hm
  obtain ⟨fu0, hf0⟩ := h0
  obtain ⟨ls0_0, g0_0, len0, rep0⟩ := open_ok tab_ok fu0 26 _ _ _ hf0 rfl rfl
  obtain ⟨l0_0, ls0_1, rfl, z0_0, g0_1⟩ := kinds_cons g0_0
  obtain ⟨x0_0, rfl⟩ := kind_int z0_0
  obtain ⟨l0_1, ls0_2, rfl, z0_1, g0_2⟩ := kinds_cons g0_1
  obtain ⟨x0_1, rfl⟩ := kind_sli z0_1
  obtain ⟨l0_2, ls0_3, rfl, z0_2, g0_3⟩ := kinds_cons g0_2
  obtain ⟨x0_2, rfl⟩ := kind_sli z0_2
  obtain ⟨l0_3, ls0_4, rfl, z0_3, g0_4⟩ := kinds_cons g0_3
  obtain ⟨x0_3, rfl⟩ := kind_sli z0_3
  obtain rfl := kinds_nil g0_4
  obtain ⟨ar1, e1, -, -⟩ := (show ∃ cs, v1 = .agg cs ∧ _ ∧ _ from by have h := hval 1 29 v1 rfl rfl; unfold Value.okWide at h; rw [Try.underlying29] at h; exact h)
  subst e1
  have k1 := h1
  have lt1 : ∀ x ∈ p1, x.block < W.heap.size := by obtain ⟨m, hm⟩ := k1; exact DataW.trod_lt m _ _ _ hm
  obtain ⟨fu1, hf1⟩ := h1
  obtain ⟨ls1_0, g1_0, len1, rep1⟩ := open_ok tab_ok fu1 29 _ _ _ hf1 rfl rfl
  obtain ⟨l1_0, ls1_1, rfl, z1_0, g1_1⟩ := kinds_cons g1_0
  obtain ⟨x1_0, rfl⟩ := kind_str z1_0
  obtain ⟨l1_1, ls1_2, rfl, z1_1, g1_2⟩ := kinds_cons g1_1
  obtain ⟨x1_1, rfl⟩ := kind_int z1_1
  obtain ⟨l1_2, ls1_3, rfl, z1_2, g1_3⟩ := kinds_cons g1_2
  obtain ⟨x1_2, rfl⟩ := kind_int z1_2
  obtain ⟨l1_3, ls1_4, rfl, z1_3, g1_4⟩ := kinds_cons g1_3
  obtain ⟨x1_3, rfl⟩ := kind_int z1_3
  obtain ⟨l1_4, ls1_5, rfl, z1_4, g1_5⟩ := kinds_cons g1_4
  obtain ⟨x1_4, rfl⟩ := kind_int z1_4
  obtain ⟨l1_5, ls1_6, rfl, z1_5, g1_6⟩ := kinds_cons g1_5
  obtain ⟨x1_5, rfl⟩ := kind_bool z1_5
  obtain ⟨l1_6, ls1_7, rfl, z1_6, g1_7⟩ := kinds_cons g1_6
  obtain ⟨x1_6, rfl⟩ := kind_sli z1_6
  obtain ⟨l1_7, ls1_8, rfl, z1_7, g1_8⟩ := kinds_cons g1_7
  obtain ⟨x1_7, rfl⟩ := kind_bool z1_7
  obtain rfl := kinds_nil g1_8
  clear hA0 hval0 hsz0
  have hres := c3.2 W [.agg [.int .i64 x0_0, .row .e70 x0_1, .row .e73 x0_2, .row .e76 x0_3], .agg [.str x1_0, .int .i64 x1_1, .int .i64 x1_2, .int .i64 x1_3, .int .i64 x1_4, .bool x1_5, .row .e98 x1_6, .bool x1_7]] [.agg ar0, .agg ar1] true trivial (by rfl) (fun i sv hi => ?_) (pure3 ⟨x0_0, x0_1, x0_2, x0_3⟩ ⟨x1_0, x1_1, x1_2, x1_3, x1_4, x1_5, x1_6, x1_7⟩ (rep0 0 _ rfl).2 (rep0 1 _ rfl).2 (rep0 2 _ rfl).2 (rep0 3 _ rfl).2 (rep1 0 _ rfl).2 (rep1 1 _ rfl).2 (rep1 2 _ rfl).2 (rep1 3 _ rfl).2 (rep1 4 _ rfl).2 (rep1 6 _ rfl).2)
  · refine hres.mono fun e W' ⟨v, he, bel, ⟨us, G, q1, q2, q3, q4, q5, q6⟩, _⟩ => ?_
    have hv : v = .bool true := by
      have hlen : us.length = 1 := q2
      obtain ⟨u, rfl⟩ := List.length_eq_one_iff.1 hlen
      have hu := q6 0 (.bool true) rfl
      cases hu
      exact q1
    subst he
    subst hv
    exact ⟨_, rfl, _, _, _, [], _, [], hW', trodAll_mk1 (shut_bool Try.underlying4 _), (trodAll_cons_mk (Below.trod laidOut (by kernel_rfl) (of_decide_eq_true (by kernel_rfl)) k0 bel lt0) (trodAll_cons_mk (Below.trod laidOut (by kernel_rfl) (of_decide_eq_true (by kernel_rfl)) k1 bel lt1) trodAll_mk0)), rfl, bel.frame _, fun h => by cases h⟩
  · match i with
    | 0 => cases hi; exact ⟨ar0.toList, by simp, by simpa [Value.cells] using len0.symm, fun j l hj => (rep0 j l hj).1⟩
    | 1 => cases hi; exact ⟨ar1.toList, by simp, by simpa [Value.cells] using len1.symm, fun j l hj => (rep1 j l hj).1⟩
    | n + 2 => simp at hi
theorem over : Rows.fnExactStewApplyRow.holds Try.pinned (OpenSpec.ofChange Rows.fnExactStewApplySpec) :=
  OpenClaim.holds_of_wide 3 Try.f3 rfl rfl rfl rfl rfl rfl rfl ⟨rfl, rfl, rfl, rfl, rfl⟩ rfl rfl rfl rfl rfl (by kernel_rfl) Try.func3 (by kernel_rfl)
    (of_decide_eq_true (by kernel_rfl)) (by unfold Func.isWrapper; first | (rw [if_pos (by decide +kernel)]; kernel_rfl) | (rw [if_neg (by decide +kernel)]; exact ⟨rfl, rfl⟩))
    (fun os started H enc _ => lifted os started H enc)
theorem proved : Rows.FnExactStewApplySaid := over
#print axioms proved
end Go.Proofs.Ytakakoogpmhhkaa.fnExactStewApply
namespace Go.Proofs.Ytakakoogpmhhkaa
theorem fnExactStewApply_holds : Rows.FnExactStewApplySaid := fnExactStewApply.proved
end Go.Proofs.Ytakakoogpmhhkaa
