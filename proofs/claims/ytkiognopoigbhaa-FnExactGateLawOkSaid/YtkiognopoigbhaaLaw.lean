/- The law FnExactGateLawOk holds: for every input the Go function returns true, and each argument reads afterwards as it read before. No condition is added to the statement. -/
import Derived.Test.YtkiognopoigbhaaRows
import Derived.Test.YtkiognopoigbhaaPc
import Derived.WalkKit
import Derived.ProofKit
import Derived.OpenShut
import Derived.ShutString
import Derived.ChangeOld
import Derived.Below
import Derived.SizedLaws
set_option linter.unusedVariables false
namespace Go.Proofs.Ytkiognopoigbhaa.fnExactGateLawOk
open Go.ChangeShapes Go.WideShapes Go.ChangeAt Go.RowKit Go.Proofs.Ytkiognopoigbhaa.Ab
theorem own : ownKnob Try.prog.godebug = none := by kernel_rfl
theorem laidOut : laidOutB Try.prog = true := by kernel_rfl
set_option maxRecDepth 100000 in
theorem lifted (os : Os) (started : os.Started) (H : Type) (enc : TypeId × Value → H) :
    ReturnsInHanded {} Try.checked os 3 .any (Rows.fnExactGateLawOkSpec.pre6 enc Try.prog Try.f3 Rows.fnExactGateLawOkRow.domain false) (Rows.fnExactGateLawOkSpec.post enc Try.prog Try.f3 false true false false) := by
  refine returnsInHanded_of_change_sized (C := Try.checked) own started (by kernel_rfl) Try.func3
    (ChangeSpec.witness6 (enc := enc) (C := Try.checked) false ⟨#[], #[.agg #[.slice none 0 0, .slice none 0 0, .slice none 0 0]], []⟩ 8 (by kernel_rfl) (by kernel_rfl) (by kernel_rfl) (by kernel_rfl)) ?_
  intro W base args ds gs before hval0 hW hcnd hsz0 _
  have hval : ∀ (j : Nat) t v, Try.f3.params[j]? = some t → args[j]? = some v → Value.okWide Try.prog W .any base t v := hval0
  have hW' := hW
  obtain ⟨p, q, hA0, hV, rfl, hfz, hnd⟩ := hW
  have hA : DataW.TrodAll enc Try.prog W 0 (fun _ => true) true Try.f3.params.toList args.toList ds p := hA0
  rw [Try.params3] at hA hval
  obtain ⟨v0, vs0, d0, ds0, p0, q0, hargs, rfl, rfl, h0, r0⟩ := trodAll_cons hA
  obtain ⟨rfl, rfl, rfl⟩ := trodAll_nil r0
  obtain rfl : args = #[v0] := by cases args; simp_all
  obtain ⟨rfl, rfl⟩ := trodVars_none hV
  obtain ⟨ar0, e0, -, -⟩ := (show ∃ cs, v0 = .agg cs ∧ _ ∧ _ from by have h := hval 0 26 v0 rfl rfl; unfold Value.okWide at h; rw [Try.underlying26] at h; exact h)
  subst e0
  have k0 := h0
  have lt0 : ∀ x ∈ p0, x.block < W.heap.size := by obtain ⟨m, hm⟩ := k0; exact DataW.trod_lt m _ _ _ hm
  obtain ⟨fu0, hf0⟩ := h0
  obtain ⟨ls0_0, g0_0, len0, rep0⟩ := open_ok tab_ok fu0 26 _ _ _ hf0 rfl rfl
  obtain ⟨l0_0, ls0_1, rfl, z0_0, g0_1⟩ := kinds_cons g0_0
  obtain ⟨x0_0, rfl⟩ := kind_sli z0_0
  obtain ⟨l0_1, ls0_2, rfl, z0_1, g0_2⟩ := kinds_cons g0_1
  obtain ⟨x0_1, rfl⟩ := kind_sli z0_1
  obtain ⟨l0_2, ls0_3, rfl, z0_2, g0_3⟩ := kinds_cons g0_2
  obtain ⟨x0_2, rfl⟩ := kind_sli z0_2
  obtain rfl := kinds_nil g0_3
  clear hA0 hval0 hsz0
  have hres := c3.2 W [.agg [.row .e74 x0_0, .row .e77 x0_1, .row .e103 x0_2]] [.agg ar0] true (by rfl) (fun i sv hi => ?_) (pure3 ⟨x0_0, x0_1, x0_2⟩ (rep0 0 _ rfl).2 (rep0 1 _ rfl).2 (rep0 2 _ rfl).2)
  · refine hres.mono fun e W' ⟨v, he, bel, us, G, q1, q2, q3, q4, q5, q6⟩ => ?_
    have hv : v = .bool true := by
      have hlen : us.length = 1 := q2
      obtain ⟨u, rfl⟩ := List.length_eq_one_iff.1 hlen
      have hu := q6 0 (.bool true) rfl
      cases hu
      exact q1
    subst he
    subst hv
    exact ⟨_, rfl, _, _, _, [], _, [], hW', trodAll_mk1 (shut_bool Try.underlying4 _), (trodAll_cons_mk (Below.trod laidOut (by kernel_rfl) (of_decide_eq_true (by kernel_rfl)) k0 bel lt0) trodAll_mk0), rfl, bel.frame _, fun h => by cases h⟩
  · match i with
    | 0 => cases hi; exact ⟨ar0.toList, by simp, by simpa [Value.cells] using len0.symm, fun j l hj => (rep0 j l hj).1⟩
    | n + 1 => simp at hi
theorem over : Rows.fnExactGateLawOkRow.holds Try.pinned (OpenSpec.ofChange Rows.fnExactGateLawOkSpec) :=
  OpenClaim.holds_of_wide 3 Try.f3 rfl rfl rfl rfl rfl rfl rfl ⟨rfl, rfl, rfl, rfl, rfl⟩ rfl rfl rfl rfl rfl (by kernel_rfl) Try.func3 (by kernel_rfl)
    (of_decide_eq_true (by kernel_rfl)) (by unfold Func.isWrapper; first | (rw [if_pos (by decide +kernel)]; kernel_rfl) | (rw [if_neg (by decide +kernel)]; exact ⟨rfl, rfl⟩))
    (fun os started H enc _ => lifted os started H enc)
theorem proved : Rows.FnExactGateLawOkSaid := over
#print axioms proved
end Go.Proofs.Ytkiognopoigbhaa.fnExactGateLawOk
namespace Go.Proofs.Ytkiognopoigbhaa
theorem fnExactGateLawOk_holds : Rows.FnExactGateLawOkSaid := fnExactGateLawOk.proved
end Go.Proofs.Ytkiognopoigbhaa
