/- A codec, printed by codec.py: what a kind tells. -/
import Derived.Test.YtpdindhlnehfcaaKd
import Derived.Test.YtpdindhlnehfcaaAo1
set_option linter.unusedVariables false
namespace Go.Proofs.Ytpdindhlnehfcaa.Ab
open Go Go.RowKit
theorem ek3 : ∀ ls : List (Lf C), kindsB [.int .i64] ls = true → ∃ x, d3 ls = some x := by
  intro ls0 g0
  obtain ⟨l0, ls1, rfl, h0, g1⟩ := kinds_cons g0
  obtain ⟨x0, rfl⟩ := kind_int h0
  obtain rfl := kinds_nil g1
  exact ⟨_, rfl⟩
theorem ek5 : ∀ ls : List (Lf C), kindsB [.int .u8] ls = true → ∃ x, d5 ls = some x := by
  intro ls0 g0
  obtain ⟨l0, ls1, rfl, h0, g1⟩ := kinds_cons g0
  obtain ⟨x0, rfl⟩ := kind_int h0
  obtain rfl := kinds_nil g1
  exact ⟨_, rfl⟩
theorem ek9 : ∀ ls : List (Lf C), kindsB [.str] ls = true → ∃ x, d9 ls = some x := by
  intro ls0 g0
  obtain ⟨l0, ls1, rfl, h0, g1⟩ := kinds_cons g0
  obtain ⟨x0, rfl⟩ := kind_str h0
  obtain rfl := kinds_nil g1
  exact ⟨_, rfl⟩
theorem ek67 : ∀ ls : List (Lf C), kindsB [.str, .str] ls = true → ∃ x, d67 ls = some x := by
  intro ls0 g0
  obtain ⟨l0, ls1, rfl, h0, g1⟩ := kinds_cons g0
  obtain ⟨x0, rfl⟩ := kind_str h0
  obtain ⟨l1, ls2, rfl, h1, g2⟩ := kinds_cons g1
  obtain ⟨x1, rfl⟩ := kind_str h1
  obtain rfl := kinds_nil g2
  exact ⟨_, rfl⟩
theorem ek73 : ∀ ls : List (Lf C), kindsB [.int .i64, .str, .str, .sli .e3, .str, .str, .str] ls = true → ∃ x, d73 ls = some x := by
  intro ls0 g0
  obtain ⟨l0, ls1, rfl, h0, g1⟩ := kinds_cons g0
  obtain ⟨x0, rfl⟩ := kind_int h0
  obtain ⟨l1, ls2, rfl, h1, g2⟩ := kinds_cons g1
  obtain ⟨x1, rfl⟩ := kind_str h1
  obtain ⟨l2, ls3, rfl, h2, g3⟩ := kinds_cons g2
  obtain ⟨x2, rfl⟩ := kind_str h2
  obtain ⟨l3, ls4, rfl, h3, g4⟩ := kinds_cons g3
  obtain ⟨x3, rfl⟩ := kind_sli h3
  obtain ⟨l4, ls5, rfl, h4, g5⟩ := kinds_cons g4
  obtain ⟨x4, rfl⟩ := kind_str h4
  obtain ⟨l5, ls6, rfl, h5, g6⟩ := kinds_cons g5
  obtain ⟨x5, rfl⟩ := kind_str h5
  obtain ⟨l6, ls7, rfl, h6, g7⟩ := kinds_cons g6
  obtain ⟨x6, rfl⟩ := kind_str h6
  obtain rfl := kinds_nil g7
  exact ⟨_, rfl⟩
theorem ek77 : ∀ ls : List (Lf C), kindsB [.int .i64, .str, .str, .sli .e3, .str, .str, .str] ls = true → ∃ x, d77 ls = some x := by
  intro ls0 g0
  obtain ⟨l0, ls1, rfl, h0, g1⟩ := kinds_cons g0
  obtain ⟨x0, rfl⟩ := kind_int h0
  obtain ⟨l1, ls2, rfl, h1, g2⟩ := kinds_cons g1
  obtain ⟨x1, rfl⟩ := kind_str h1
  obtain ⟨l2, ls3, rfl, h2, g3⟩ := kinds_cons g2
  obtain ⟨x2, rfl⟩ := kind_str h2
  obtain ⟨l3, ls4, rfl, h3, g4⟩ := kinds_cons g3
  obtain ⟨x3, rfl⟩ := kind_sli h3
  obtain ⟨l4, ls5, rfl, h4, g5⟩ := kinds_cons g4
  obtain ⟨x4, rfl⟩ := kind_str h4
  obtain ⟨l5, ls6, rfl, h5, g6⟩ := kinds_cons g5
  obtain ⟨x5, rfl⟩ := kind_str h5
  obtain ⟨l6, ls7, rfl, h6, g7⟩ := kinds_cons g6
  obtain ⟨x6, rfl⟩ := kind_str h6
  obtain rfl := kinds_nil g7
  exact ⟨_, rfl⟩
theorem ek82 : ∀ ls : List (Lf C), kindsB [.str, .str, .str, .sli .e9, .bool, .sli .e9, .int .i64] ls = true → ∃ x, d82 ls = some x := by
  intro ls0 g0
  obtain ⟨l0, ls1, rfl, h0, g1⟩ := kinds_cons g0
  obtain ⟨x0, rfl⟩ := kind_str h0
  obtain ⟨l1, ls2, rfl, h1, g2⟩ := kinds_cons g1
  obtain ⟨x1, rfl⟩ := kind_str h1
  obtain ⟨l2, ls3, rfl, h2, g3⟩ := kinds_cons g2
  obtain ⟨x2, rfl⟩ := kind_str h2
  obtain ⟨l3, ls4, rfl, h3, g4⟩ := kinds_cons g3
  obtain ⟨x3, rfl⟩ := kind_sli h3
  obtain ⟨l4, ls5, rfl, h4, g5⟩ := kinds_cons g4
  obtain ⟨x4, rfl⟩ := kind_bool h4
  obtain ⟨l5, ls6, rfl, h5, g6⟩ := kinds_cons g5
  obtain ⟨x5, rfl⟩ := kind_sli h5
  obtain ⟨l6, ls7, rfl, h6, g7⟩ := kinds_cons g6
  obtain ⟨x6, rfl⟩ := kind_int h6
  obtain rfl := kinds_nil g7
  exact ⟨_, rfl⟩
theorem ek85 : ∀ ls : List (Lf C), kindsB [.str, .str] ls = true → ∃ x, d85 ls = some x := by
  intro ls0 g0
  obtain ⟨l0, ls1, rfl, h0, g1⟩ := kinds_cons g0
  obtain ⟨x0, rfl⟩ := kind_str h0
  obtain ⟨l1, ls2, rfl, h1, g2⟩ := kinds_cons g1
  obtain ⟨x1, rfl⟩ := kind_str h1
  obtain rfl := kinds_nil g2
  exact ⟨_, rfl⟩
theorem ek115 : ∀ ls : List (Lf C), kindsB [.str, .str, .int .i64, .int .i64] ls = true → ∃ x, d115 ls = some x := by
  intro ls0 g0
  obtain ⟨l0, ls1, rfl, h0, g1⟩ := kinds_cons g0
  obtain ⟨x0, rfl⟩ := kind_str h0
  obtain ⟨l1, ls2, rfl, h1, g2⟩ := kinds_cons g1
  obtain ⟨x1, rfl⟩ := kind_str h1
  obtain ⟨l2, ls3, rfl, h2, g3⟩ := kinds_cons g2
  obtain ⟨x2, rfl⟩ := kind_int h2
  obtain ⟨l3, ls4, rfl, h3, g4⟩ := kinds_cons g3
  obtain ⟨x3, rfl⟩ := kind_int h3
  obtain rfl := kinds_nil g4
  exact ⟨_, rfl⟩
theorem ek118 : ∀ ls : List (Lf C), kindsB [.str, .str, .str, .int .i64, .int .i64] ls = true → ∃ x, d118 ls = some x := by
  intro ls0 g0
  obtain ⟨l0, ls1, rfl, h0, g1⟩ := kinds_cons g0
  obtain ⟨x0, rfl⟩ := kind_str h0
  obtain ⟨l1, ls2, rfl, h1, g2⟩ := kinds_cons g1
  obtain ⟨x1, rfl⟩ := kind_str h1
  obtain ⟨l2, ls3, rfl, h2, g3⟩ := kinds_cons g2
  obtain ⟨x2, rfl⟩ := kind_str h2
  obtain ⟨l3, ls4, rfl, h3, g4⟩ := kinds_cons g3
  obtain ⟨x3, rfl⟩ := kind_int h3
  obtain ⟨l4, ls5, rfl, h4, g5⟩ := kinds_cons g4
  obtain ⟨x4, rfl⟩ := kind_int h4
  obtain rfl := kinds_nil g5
  exact ⟨_, rfl⟩
theorem ek121 : ∀ ls : List (Lf C), kindsB [.str, .int .i64, .bool, .int .i64, .int .i64, .int .i64, .int .i64, .int .i64, .int .i64, .int .i64, .int .i64, .int .i64, .int .i64] ls = true → ∃ x, d121 ls = some x := by
  intro ls0 g0
  obtain ⟨l0, ls1, rfl, h0, g1⟩ := kinds_cons g0
  obtain ⟨x0, rfl⟩ := kind_str h0
  obtain ⟨l1, ls2, rfl, h1, g2⟩ := kinds_cons g1
  obtain ⟨x1, rfl⟩ := kind_int h1
  obtain ⟨l2, ls3, rfl, h2, g3⟩ := kinds_cons g2
  obtain ⟨x2, rfl⟩ := kind_bool h2
  obtain ⟨l3, ls4, rfl, h3, g4⟩ := kinds_cons g3
  obtain ⟨x3, rfl⟩ := kind_int h3
  obtain ⟨l4, ls5, rfl, h4, g5⟩ := kinds_cons g4
  obtain ⟨x4, rfl⟩ := kind_int h4
  obtain ⟨l5, ls6, rfl, h5, g6⟩ := kinds_cons g5
  obtain ⟨x5, rfl⟩ := kind_int h5
  obtain ⟨l6, ls7, rfl, h6, g7⟩ := kinds_cons g6
  obtain ⟨x6, rfl⟩ := kind_int h6
  obtain ⟨l7, ls8, rfl, h7, g8⟩ := kinds_cons g7
  obtain ⟨x7, rfl⟩ := kind_int h7
  obtain ⟨l8, ls9, rfl, h8, g9⟩ := kinds_cons g8
  obtain ⟨x8, rfl⟩ := kind_int h8
  obtain ⟨l9, ls10, rfl, h9, g10⟩ := kinds_cons g9
  obtain ⟨x9, rfl⟩ := kind_int h9
  obtain ⟨l10, ls11, rfl, h10, g11⟩ := kinds_cons g10
  obtain ⟨x10, rfl⟩ := kind_int h10
  obtain ⟨l11, ls12, rfl, h11, g12⟩ := kinds_cons g11
  obtain ⟨x11, rfl⟩ := kind_int h11
  obtain ⟨l12, ls13, rfl, h12, g13⟩ := kinds_cons g12
  obtain ⟨x12, rfl⟩ := kind_int h12
  obtain rfl := kinds_nil g13
  exact ⟨_, rfl⟩
theorem ek124 : ∀ ls : List (Lf C), kindsB [.str, .int .i64, .int .i64, .int .i64, .int .i64, .bool, .str] ls = true → ∃ x, d124 ls = some x := by
  intro ls0 g0
  obtain ⟨l0, ls1, rfl, h0, g1⟩ := kinds_cons g0
  obtain ⟨x0, rfl⟩ := kind_str h0
  obtain ⟨l1, ls2, rfl, h1, g2⟩ := kinds_cons g1
  obtain ⟨x1, rfl⟩ := kind_int h1
  obtain ⟨l2, ls3, rfl, h2, g3⟩ := kinds_cons g2
  obtain ⟨x2, rfl⟩ := kind_int h2
  obtain ⟨l3, ls4, rfl, h3, g4⟩ := kinds_cons g3
  obtain ⟨x3, rfl⟩ := kind_int h3
  obtain ⟨l4, ls5, rfl, h4, g5⟩ := kinds_cons g4
  obtain ⟨x4, rfl⟩ := kind_int h4
  obtain ⟨l5, ls6, rfl, h5, g6⟩ := kinds_cons g5
  obtain ⟨x5, rfl⟩ := kind_bool h5
  obtain ⟨l6, ls7, rfl, h6, g7⟩ := kinds_cons g6
  obtain ⟨x6, rfl⟩ := kind_str h6
  obtain rfl := kinds_nil g7
  exact ⟨_, rfl⟩
theorem ek127 : ∀ ls : List (Lf C), kindsB [.str, .bool] ls = true → ∃ x, d127 ls = some x := by
  intro ls0 g0
  obtain ⟨l0, ls1, rfl, h0, g1⟩ := kinds_cons g0
  obtain ⟨x0, rfl⟩ := kind_str h0
  obtain ⟨l1, ls2, rfl, h1, g2⟩ := kinds_cons g1
  obtain ⟨x1, rfl⟩ := kind_bool h1
  obtain rfl := kinds_nil g2
  exact ⟨_, rfl⟩
theorem tab_ok : Tab Go.Proofs.Try.prog KK (lk tks) := by
  refine tab_of tks_ok els_ok (by kernel_rfl) fun t => ?_
  cases t
  · exact ⟨_, rfl, rfl, ek3⟩
  · exact ⟨_, rfl, rfl, ek5⟩
  · exact ⟨_, rfl, rfl, ek9⟩
  · exact ⟨_, rfl, rfl, ek67⟩
  · exact ⟨_, rfl, rfl, ek73⟩
  · exact ⟨_, rfl, rfl, ek77⟩
  · exact ⟨_, rfl, rfl, ek82⟩
  · exact ⟨_, rfl, rfl, ek85⟩
  · exact ⟨_, rfl, rfl, ek115⟩
  · exact ⟨_, rfl, rfl, ek118⟩
  · exact ⟨_, rfl, rfl, ek121⟩
  · exact ⟨_, rfl, rfl, ek124⟩
  · exact ⟨_, rfl, rfl, ek127⟩
end Go.Proofs.Ytpdindhlnehfcaa.Ab
