/- The law FnExactGateShaped holds: for every input the Go function returns true, and each argument reads afterwards as it read before. No condition is added to the statement. -/
import Derived.Test.YtkiognopoigbhaaP6
import Derived.Test.YtkiognopoigbhaaRows
import Derived.WalkKit
import Derived.ProofKit
import Derived.OpenShut
import Derived.ShutString
import Derived.ChangeOld
import Derived.Below
import Derived.SizedLaws
set_option linter.unusedVariables false
namespace Go.Proofs.Ytkiognopoigbhaa.fnExactGateShaped
open Go.ChangeShapes Go.WideShapes Go.ChangeAt Go.RowKit Go.Proofs.Ytkiognopoigbhaa.Ab
theorem own : ownKnob Try.prog.godebug = none := by kernel_rfl
theorem laidOut : laidOutB Try.prog = true := by kernel_rfl
set_option maxRecDepth 100000 in
theorem lifted (os : Os) (started : os.Started) (H : Type) (enc : TypeId × Value → H) :
    ReturnsInHanded {} Try.checked os 5 .any (Rows.fnExactGateShapedSpec.pre6 enc Try.prog Try.f5 Rows.fnExactGateShapedRow.domain false) (Rows.fnExactGateShapedSpec.post enc Try.prog Try.f5 false true false false) := by
  refine returnsInHanded_of_change_sized (C := Try.checked) own started (by kernel_rfl) Try.func5
    (ChangeSpec.witness6 (enc := enc) (C := Try.checked) false ⟨#[], #[.slice none 0 0, .slice none 0 0, .agg #[.string ByteArray.empty, .string ByteArray.empty, .string ByteArray.empty, .slice none 0 0, .bool false, .slice none 0 0, .int .i64 0]], []⟩ 8 (by kernel_rfl) (by kernel_rfl) (by kernel_rfl) (by kernel_rfl)) ?_
  intro W base args ds gs before hval0 hW hcnd hsz0 _
  have hval : ∀ (j : Nat) t v, Try.f5.params[j]? = some t → args[j]? = some v → Value.okWide Try.prog W .any base t v := hval0
  have hW' := hW
  obtain ⟨p, q, hA0, hV, rfl, hfz, hnd⟩ := hW
  have hA : DataW.TrodAll enc Try.prog W 0 (fun _ => true) true Try.f5.params.toList args.toList ds p := hA0
  rw [Try.params5] at hA hval
  obtain ⟨v0, vs0, d0, ds0, p0, q0, hargs, rfl, rfl, h0, r0⟩ := trodAll_cons hA
  obtain ⟨v1, vs1, d1, ds1, p1, q1, rfl, rfl, rfl, h1, r1⟩ := trodAll_cons r0
  obtain ⟨v2, vs2, d2, ds2, p2, q2, rfl, rfl, rfl, h2, r2⟩ := trodAll_cons r1
  obtain ⟨rfl, rfl, rfl⟩ := trodAll_nil r2
  obtain rfl : args = #[v0, v1, v2] := by cases args; simp_all
  obtain ⟨rfl, rfl⟩ := trodVars_none hV
  obtain ⟨ya0, yl0, yc0, rfl⟩ := Go.WideShapes.okWide_slice Try.underlying22 (hval 0 22 _ rfl rfl)
  have k0 := h0
  have lt0 : ∀ x ∈ p0, x.block < W.heap.size := by obtain ⟨m, hm⟩ := k0; exact DataW.trod_lt m _ _ _ hm
  obtain ⟨fu0, hf0⟩ := h0
  obtain ⟨ls0_0, g0_0, len0, rep0⟩ := open_ok tab_ok fu0 22 _ _ _ hf0 rfl rfl
  obtain ⟨l0_0, ls0_1, rfl, z0_0, g0_1⟩ := kinds_cons g0_0
  obtain ⟨x0_0, rfl⟩ := kind_sli z0_0
  obtain rfl := kinds_nil g0_1
  obtain ⟨ya1, yl1, yc1, rfl⟩ := Go.WideShapes.okWide_slice Try.underlying23 (hval 1 23 _ rfl rfl)
  have k1 := h1
  have lt1 : ∀ x ∈ p1, x.block < W.heap.size := by obtain ⟨m, hm⟩ := k1; exact DataW.trod_lt m _ _ _ hm
  obtain ⟨fu1, hf1⟩ := h1
  obtain ⟨ls1_0, g1_0, len1, rep1⟩ := open_ok tab_ok fu1 23 _ _ _ hf1 rfl rfl
  obtain ⟨l1_0, ls1_1, rfl, z1_0, g1_1⟩ := kinds_cons g1_0
  obtain ⟨x1_0, rfl⟩ := kind_sli z1_0
  obtain rfl := kinds_nil g1_1
  obtain ⟨ar2, e2, -, -⟩ := (show ∃ cs, v2 = .agg cs ∧ _ ∧ _ from by have h := hval 2 39 v2 rfl rfl; unfold Value.okWide at h; rw [Try.underlying39] at h; exact h)
  subst e2
  have k2 := h2
  have lt2 : ∀ x ∈ p2, x.block < W.heap.size := by obtain ⟨m, hm⟩ := k2; exact DataW.trod_lt m _ _ _ hm
  obtain ⟨fu2, hf2⟩ := h2
  obtain ⟨ls2_0, g2_0, len2, rep2⟩ := open_ok tab_ok fu2 39 _ _ _ hf2 rfl rfl
  obtain ⟨l2_0, ls2_1, rfl, z2_0, g2_1⟩ := kinds_cons g2_0
  obtain ⟨x2_0, rfl⟩ := kind_str z2_0
  obtain ⟨l2_1, ls2_2, rfl, z2_1, g2_2⟩ := kinds_cons g2_1
  obtain ⟨x2_1, rfl⟩ := kind_str z2_1
  obtain ⟨l2_2, ls2_3, rfl, z2_2, g2_3⟩ := kinds_cons g2_2
  obtain ⟨x2_2, rfl⟩ := kind_str z2_2
  obtain ⟨l2_3, ls2_4, rfl, z2_3, g2_4⟩ := kinds_cons g2_3
  obtain ⟨x2_3, rfl⟩ := kind_sli z2_3
  obtain ⟨l2_4, ls2_5, rfl, z2_4, g2_5⟩ := kinds_cons g2_4
  obtain ⟨x2_4, rfl⟩ := kind_bool z2_4
  obtain ⟨l2_5, ls2_6, rfl, z2_5, g2_6⟩ := kinds_cons g2_5
  obtain ⟨x2_5, rfl⟩ := kind_sli z2_5
  obtain ⟨l2_6, ls2_7, rfl, z2_6, g2_7⟩ := kinds_cons g2_6
  obtain ⟨x2_6, rfl⟩ := kind_int z2_6
  obtain rfl := kinds_nil g2_7
  clear hA0 hval0 hsz0
  have hres := c5.2 W [.one (.row .e74 x0_0), .one (.row .e77 x1_0), .agg [.str x2_0, .str x2_1, .str x2_2, .row .e9 x2_3, .bool x2_4, .row .e9 x2_5, .int .i64 x2_6]] [.slice ya0 yl0 yc0, .slice ya1 yl1 yc1, .agg ar2] true (by rfl) (fun i sv hi => ?_) (pure5 x0_0 x1_0 ⟨x2_0, x2_1, x2_2, x2_3, x2_4, x2_5, x2_6⟩ (rep0 0 _ rfl).2 (rep1 0 _ rfl).2 (rep2 0 _ rfl).2 (rep2 1 _ rfl).2 (rep2 2 _ rfl).2 (rep2 3 _ rfl).2 (rep2 5 _ rfl).2 (rep2 6 _ rfl).2)
  · refine hres.mono fun e W' ⟨v, he, bel, us, G, q1, q2, q3, q4, q5, q6⟩ => ?_
    have hv : v = .bool true := by
      have hlen : us.length = 1 := q2
      obtain ⟨u, rfl⟩ := List.length_eq_one_iff.1 hlen
      have hu := q6 0 (.bool true) rfl
      cases hu
      exact q1
    subst he
    subst hv
    exact ⟨_, rfl, _, _, _, [], _, [], hW', trodAll_mk1 (shut_bool Try.underlying4 _), (trodAll_cons_mk (Below.trod laidOut (by kernel_rfl) (of_decide_eq_true (by kernel_rfl)) k0 bel lt0) (trodAll_cons_mk (Below.trod laidOut (by kernel_rfl) (of_decide_eq_true (by kernel_rfl)) k1 bel lt1) (trodAll_cons_mk (Below.trod laidOut (by kernel_rfl) (of_decide_eq_true (by kernel_rfl)) k2 bel lt2) trodAll_mk0))), rfl, bel.frame _, fun h => by cases h⟩
  · match i with
    | 0 => cases hi; exact ⟨rfl, (rep0 0 _ rfl).1⟩
    | 1 => cases hi; exact ⟨rfl, (rep1 0 _ rfl).1⟩
    | 2 => cases hi; exact ⟨ar2.toList, by simp, by simpa [Value.cells] using len2.symm, fun j l hj => (rep2 j l hj).1⟩
    | n + 3 => simp at hi
theorem over : Rows.fnExactGateShapedRow.holds Try.pinned (OpenSpec.ofChange Rows.fnExactGateShapedSpec) :=
  OpenClaim.holds_of_wide 5 Try.f5 rfl rfl rfl rfl rfl rfl rfl ⟨rfl, rfl, rfl, rfl, rfl⟩ rfl rfl rfl rfl rfl (by kernel_rfl) Try.func5 (by kernel_rfl)
    (of_decide_eq_true (by kernel_rfl)) (by unfold Func.isWrapper; first | (rw [if_pos (by decide +kernel)]; kernel_rfl) | (rw [if_neg (by decide +kernel)]; exact ⟨rfl, rfl⟩))
    (fun os started H enc _ => lifted os started H enc)
theorem proved : Rows.FnExactGateShapedSaid := over
#print axioms proved
end Go.Proofs.Ytkiognopoigbhaa.fnExactGateShaped
namespace Go.Proofs.Ytkiognopoigbhaa
theorem fnExactGateShaped_holds : Rows.FnExactGateShapedSaid := fnExactGateShaped.proved
end Go.Proofs.Ytkiognopoigbhaa
