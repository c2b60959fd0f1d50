/- The law FnExactSheetDiff holds: for every input the Go function returns true, and each argument reads afterwards as it read before. No condition is added to the statement. -/
import Derived.Test.YtadopcpehgblcaaDoorP6
import Derived.Test.YtadopcpehgblcaaDoorRows
import Derived.WalkKit
import Derived.ProofKit
import Derived.OpenShut
import Derived.ShutString
import Derived.ChangeOld
import Derived.Below
import Derived.SizedLaws
import Derived.Lay
import Derived.LaidOnce
import Derived.LaidMore
import Derived.SevenTiedAt
import Derived.Test.YtadopcpehgblcaaDoorCards
import Derived.Test.YtadopcpehgblcaaDoorTie
set_option linter.unusedVariables false
namespace Go.Proofs.YtadopcpehgblcaaDoor.fnExactSheetDiff
open Go.ChangeShapes Go.WideShapes Go.ChangeAt Go.RowKit Go.Proofs.YtadopcpehgblcaaDoor.Ab
theorem own : ownKnob Tryd.prog.godebug = none := by kernel_rfl
theorem laidOut : laidOutB Tryd.prog = true := by kernel_rfl
set_option maxRecDepth 100000 in
theorem lifted (os : Os) (started : os.Started) (H : Type) (enc : TypeId × Value → H) :
    ReturnsInHanded {} Tryd.checked os 3 .any (fun w args => (Rows.fnExactSheetDiffSpec.pre enc Tryd.prog Tryd.f3 [] false w args ∧ laidMetH Tryd.prog Rows.fnExactSheetDiffRow.laid w) ∧ sizedMet enc Tryd.prog Tryd.f3 (OpenSpec.ofChange Rows.fnExactSheetDiffSpec) false w args)
      (Rows.fnExactSheetDiffSpec.post enc Tryd.prog Tryd.f3 false true false false) := by
  refine returnsInHanded_of_change_and (C := Tryd.checked) (X := fun w _ => laidMetH Tryd.prog Rows.fnExactSheetDiffRow.laid w) (fun _ _ _ hh h => h.of_heap hh) own started (by kernel_rfl) Tryd.func3
    (ChangeSpec.witness_shaped (enc := enc) (C := Tryd.checked) (os := os) (X := fun w _ => laidMetH Tryd.prog Rows.fnExactSheetDiffRow.laid w) false (World.laidAll Tryd.prog os Rows.fnExactSheetDiffRow.laid) #[.agg #[.slice none 0 0], .agg #[.slice none 0 0]] 8 (World.laidAll_os _ _ _)
      (World.shaped_of_ZipB (by kernel_rfl) (by kernel_rfl)) (by kernel_rfl) (by kernel_rfl) (by kernel_rfl)
      (by rw [MakeChecks.laidMetH_plain _ _ _ (by kernel_rfl)]; exact laidMet_laidAll _ (by kernel_rfl) (by kernel_rfl))) ?_
  intro W base args ds gs before hval0 hW _ _ _ hsz0
  have hval : ∀ (j : Nat) t v, Tryd.f3.params[j]? = some t → args[j]? = some v → Value.okWide Tryd.prog W .any base t v := hval0
  have hW' := hW
  obtain ⟨p, q, hA0, hV, rfl, hfz, hnd⟩ := hW
  have hA : DataW.TrodAll enc Tryd.prog W 0 (fun _ => true) true Tryd.f3.params.toList args.toList ds p := hA0
  rw [Tryd.params3] at hA hval
  obtain ⟨v0, vs0, d0, ds0, p0, q0, hargs, rfl, rfl, h0, r0⟩ := trodAll_cons hA
  obtain ⟨v1, vs1, d1, ds1, p1, q1, rfl, rfl, rfl, h1, r1⟩ := trodAll_cons r0
  obtain ⟨rfl, rfl, rfl⟩ := trodAll_nil r1
  obtain rfl : args = #[v0, v1] := by cases args; simp_all
  obtain ⟨rfl, rfl⟩ := trodVars_none hV
  obtain ⟨ar0, e0, -, -⟩ := (show ∃ cs, v0 = .agg cs ∧ _ ∧ _ from by have h := hval 0 24 v0 rfl rfl; unfold Value.okWide at h; rw [Tryd.underlying24] at h; exact h)
  subst e0
  have k0 := h0
  have lt0 : ∀ x ∈ p0, x.block < W.heap.size := by obtain ⟨m, hm⟩ := k0; exact DataW.trod_lt m _ _ _ hm
  obtain ⟨fu0, hf0⟩ := h0
  obtain ⟨ls0_0, g0_0, len0, rep0⟩ := open_ok tab_ok fu0 24 _ _ _ hf0 rfl rfl
  obtain ⟨l0_0, ls0_1, rfl, z0_0, g0_1⟩ := kinds_cons g0_0
  obtain ⟨x0_0, rfl⟩ := kind_sli z0_0
  obtain rfl := kinds_nil g0_1
  obtain ⟨ar1, e1, -, -⟩ := (show ∃ cs, v1 = .agg cs ∧ _ ∧ _ from by have h := hval 1 24 v1 rfl rfl; unfold Value.okWide at h; rw [Tryd.underlying24] at h; exact h)
  subst e1
  have k1 := h1
  have lt1 : ∀ x ∈ p1, x.block < W.heap.size := by obtain ⟨m, hm⟩ := k1; exact DataW.trod_lt m _ _ _ hm
  obtain ⟨fu1, hf1⟩ := h1
  obtain ⟨ls1_0, g1_0, len1, rep1⟩ := open_ok tab_ok fu1 24 _ _ _ hf1 rfl rfl
  obtain ⟨l1_0, ls1_1, rfl, z1_0, g1_1⟩ := kinds_cons g1_0
  obtain ⟨x1_0, rfl⟩ := kind_sli z1_0
  obtain rfl := kinds_nil g1_1
  clear hA0 hval0 hsz0
  have hres := c3.2 W [.agg [.row .e65 x0_0], .agg [.row .e65 x1_0]] [.agg ar0, .agg ar1] true trivial (by rfl) (fun i sv hi => ?_) (pure3 ⟨x0_0⟩ ⟨x1_0⟩ (rep0 0 _ rfl).2 (rep1 0 _ rfl).2)
  · refine hres.mono fun e W' ⟨v, he, bel, ⟨us, G, q1, q2, q3, q4, q5, q6⟩, _⟩ => ?_
    have hv : v = .bool true := by
      have hlen : us.length = 1 := q2
      obtain ⟨u, rfl⟩ := List.length_eq_one_iff.1 hlen
      have hu := q6 0 (.bool true) rfl
      cases hu
      exact q1
    subst he
    subst hv
    exact ⟨_, rfl, _, _, _, [], _, [], hW', trodAll_mk1 (shut_bool Tryd.underlying4 _), (trodAll_cons_mk (Below.trod laidOut (by kernel_rfl) (of_decide_eq_true (by kernel_rfl)) k0 bel lt0) (trodAll_cons_mk (Below.trod laidOut (by kernel_rfl) (of_decide_eq_true (by kernel_rfl)) k1 bel lt1) trodAll_mk0)), rfl, bel.frame _, fun h => by cases h⟩
  · match i with
    | 0 => cases hi; exact ⟨ar0.toList, by simp, by simpa [Value.cells] using len0.symm, fun j l hj => (rep0 j l hj).1⟩
    | 1 => cases hi; exact ⟨ar1.toList, by simp, by simpa [Value.cells] using len1.symm, fun j l hj => (rep1 j l hj).1⟩
    | n + 2 => simp at hi
theorem over : Rows.fnExactSheetDiffRow.holds Tryd.pinned (OpenSpec.ofChange Rows.fnExactSheetDiffSpec) :=
  OpenClaim.holds_of_wide 3 Tryd.f3 rfl rfl rfl rfl rfl rfl rfl ⟨rfl, rfl, rfl, rfl, rfl⟩ rfl rfl rfl rfl rfl (by kernel_rfl) Tryd.func3 (by kernel_rfl)
    (of_decide_eq_true (by kernel_rfl)) (by unfold Func.isWrapper; first | (rw [if_pos (by decide +kernel)]; kernel_rfl) | (rw [if_neg (by decide +kernel)]; exact ⟨rfl, rfl⟩))
    (fun os started H enc _ => lifted os started H enc)
theorem proved : Rows.FnExactSheetDiffSaid := over
theorem card : Rows.FnExactSheetDiffCardSaid :=
  Claim7.holds_tied_plain_at .later [] [.data, .pinned] true (true, "6fed28287d1aa3751cc83a30614b93ecb9d923c24caf10d7b00063ca8938da37") false
    over (fun _ h => by cases h) (by kernel_rfl) (fun _ h => by cases h) fnExactSheetDiff_row_tie rfl ⟨rfl, rfl⟩ (by kernel_rfl) rfl
    (fun f fn hf hfn => by
      obtain rfl : f = 3 := Option.some.inj ((show Tryd.prog.funcNamed "loop.example/wharfdesk/laws.FnExactSheetDiff" = some 3 by kernel_rfl).symm.trans hf) |>.symm
      obtain rfl : fn = Tryd.f3 := (Option.some.inj (Tryd.func3.symm.trans hfn)).symm
      exact ⟨by kernel_rfl, fun j t ht => by
        rw [Tryd.params3] at ht
        have hm : t ∈ [24, 24] := by simpa using Array.mem_of_getElem? ht
        have hall : ([24, 24].all fun u => !Tryd.prog.wantsStandIn u) = true := by kernel_rfl
        exact (show Tryd.prog.wantsStandIn t = false by simpa using List.all_eq_true.1 hall t hm)⟩)
    (by kernel_rfl)
#print axioms card
end Go.Proofs.YtadopcpehgblcaaDoor.fnExactSheetDiff
namespace Go.Proofs.YtadopcpehgblcaaDoor
theorem fnExactSheetDiff_holds : Rows.FnExactSheetDiffCardSaid := fnExactSheetDiff.card
end Go.Proofs.YtadopcpehgblcaaDoor
