/- A codec, printed by codec.py: what a kind tells. -/
import Derived.Test.YtgpopgfidphheaaKd
import Derived.Test.YtgpopgfidphheaaAo1
set_option linter.unusedVariables false
namespace Go.Proofs.Ytgpopgfidphheaa.Ab
open Go Go.RowKit
theorem ek3 : ∀ ls : List (Lf C), kindsB [.int .i64] ls = true → ∃ x, d3 ls = some x := by
  intro ls0 g0
  obtain ⟨l0, ls1, rfl, h0, g1⟩ := kinds_cons g0
  obtain ⟨x0, rfl⟩ := kind_int h0
  obtain rfl := kinds_nil g1
  exact ⟨_, rfl⟩
theorem ek5 : ∀ ls : List (Lf C), kindsB [.int .u8] ls = true → ∃ x, d5 ls = some x := by
  intro ls0 g0
  obtain ⟨l0, ls1, rfl, h0, g1⟩ := kinds_cons g0
  obtain ⟨x0, rfl⟩ := kind_int h0
  obtain rfl := kinds_nil g1
  exact ⟨_, rfl⟩
theorem ek9 : ∀ ls : List (Lf C), kindsB [.str] ls = true → ∃ x, d9 ls = some x := by
  intro ls0 g0
  obtain ⟨l0, ls1, rfl, h0, g1⟩ := kinds_cons g0
  obtain ⟨x0, rfl⟩ := kind_str h0
  obtain rfl := kinds_nil g1
  exact ⟨_, rfl⟩
theorem ek64 : ∀ ls : List (Lf C), kindsB [.str, .str] ls = true → ∃ x, d64 ls = some x := by
  intro ls0 g0
  obtain ⟨l0, ls1, rfl, h0, g1⟩ := kinds_cons g0
  obtain ⟨x0, rfl⟩ := kind_str h0
  obtain ⟨l1, ls2, rfl, h1, g2⟩ := kinds_cons g1
  obtain ⟨x1, rfl⟩ := kind_str h1
  obtain rfl := kinds_nil g2
  exact ⟨_, rfl⟩
theorem ek70 : ∀ ls : List (Lf C), kindsB [.int .i64, .str, .str, .sli .e3, .str, .str, .str] ls = true → ∃ x, d70 ls = some x := by
  intro ls0 g0
  obtain ⟨l0, ls1, rfl, h0, g1⟩ := kinds_cons g0
  obtain ⟨x0, rfl⟩ := kind_int h0
  obtain ⟨l1, ls2, rfl, h1, g2⟩ := kinds_cons g1
  obtain ⟨x1, rfl⟩ := kind_str h1
  obtain ⟨l2, ls3, rfl, h2, g3⟩ := kinds_cons g2
  obtain ⟨x2, rfl⟩ := kind_str h2
  obtain ⟨l3, ls4, rfl, h3, g4⟩ := kinds_cons g3
  obtain ⟨x3, rfl⟩ := kind_sli h3
  obtain ⟨l4, ls5, rfl, h4, g5⟩ := kinds_cons g4
  obtain ⟨x4, rfl⟩ := kind_str h4
  obtain ⟨l5, ls6, rfl, h5, g6⟩ := kinds_cons g5
  obtain ⟨x5, rfl⟩ := kind_str h5
  obtain ⟨l6, ls7, rfl, h6, g7⟩ := kinds_cons g6
  obtain ⟨x6, rfl⟩ := kind_str h6
  obtain rfl := kinds_nil g7
  exact ⟨_, rfl⟩
theorem ek74 : ∀ ls : List (Lf C), kindsB [.int .i64, .str, .str, .sli .e3, .str, .str, .str] ls = true → ∃ x, d74 ls = some x := by
  intro ls0 g0
  obtain ⟨l0, ls1, rfl, h0, g1⟩ := kinds_cons g0
  obtain ⟨x0, rfl⟩ := kind_int h0
  obtain ⟨l1, ls2, rfl, h1, g2⟩ := kinds_cons g1
  obtain ⟨x1, rfl⟩ := kind_str h1
  obtain ⟨l2, ls3, rfl, h2, g3⟩ := kinds_cons g2
  obtain ⟨x2, rfl⟩ := kind_str h2
  obtain ⟨l3, ls4, rfl, h3, g4⟩ := kinds_cons g3
  obtain ⟨x3, rfl⟩ := kind_sli h3
  obtain ⟨l4, ls5, rfl, h4, g5⟩ := kinds_cons g4
  obtain ⟨x4, rfl⟩ := kind_str h4
  obtain ⟨l5, ls6, rfl, h5, g6⟩ := kinds_cons g5
  obtain ⟨x5, rfl⟩ := kind_str h5
  obtain ⟨l6, ls7, rfl, h6, g7⟩ := kinds_cons g6
  obtain ⟨x6, rfl⟩ := kind_str h6
  obtain rfl := kinds_nil g7
  exact ⟨_, rfl⟩
theorem ek84 : ∀ ls : List (Lf C), kindsB [.int .i64, .int .i64, .bool, .int .i64, .int .i64, .sli .e132, .int .i64, .int .i64, .sli .e132, .sli .e116, .sli .e9, .bool, .bool, .int .i64, .sli .e3, .sli .e132, .sli .e134, .int .i64] ls = true → ∃ x, d84 ls = some x := by
  intro ls0 g0
  obtain ⟨l0, ls1, rfl, h0, g1⟩ := kinds_cons g0
  obtain ⟨x0, rfl⟩ := kind_int h0
  obtain ⟨l1, ls2, rfl, h1, g2⟩ := kinds_cons g1
  obtain ⟨x1, rfl⟩ := kind_int h1
  obtain ⟨l2, ls3, rfl, h2, g3⟩ := kinds_cons g2
  obtain ⟨x2, rfl⟩ := kind_bool h2
  obtain ⟨l3, ls4, rfl, h3, g4⟩ := kinds_cons g3
  obtain ⟨x3, rfl⟩ := kind_int h3
  obtain ⟨l4, ls5, rfl, h4, g5⟩ := kinds_cons g4
  obtain ⟨x4, rfl⟩ := kind_int h4
  obtain ⟨l5, ls6, rfl, h5, g6⟩ := kinds_cons g5
  obtain ⟨x5, rfl⟩ := kind_sli h5
  obtain ⟨l6, ls7, rfl, h6, g7⟩ := kinds_cons g6
  obtain ⟨x6, rfl⟩ := kind_int h6
  obtain ⟨l7, ls8, rfl, h7, g8⟩ := kinds_cons g7
  obtain ⟨x7, rfl⟩ := kind_int h7
  obtain ⟨l8, ls9, rfl, h8, g9⟩ := kinds_cons g8
  obtain ⟨x8, rfl⟩ := kind_sli h8
  obtain ⟨l9, ls10, rfl, h9, g10⟩ := kinds_cons g9
  obtain ⟨x9, rfl⟩ := kind_sli h9
  obtain ⟨l10, ls11, rfl, h10, g11⟩ := kinds_cons g10
  obtain ⟨x10, rfl⟩ := kind_sli h10
  obtain ⟨l11, ls12, rfl, h11, g12⟩ := kinds_cons g11
  obtain ⟨x11, rfl⟩ := kind_bool h11
  obtain ⟨l12, ls13, rfl, h12, g13⟩ := kinds_cons g12
  obtain ⟨x12, rfl⟩ := kind_bool h12
  obtain ⟨l13, ls14, rfl, h13, g14⟩ := kinds_cons g13
  obtain ⟨x13, rfl⟩ := kind_int h13
  obtain ⟨l14, ls15, rfl, h14, g15⟩ := kinds_cons g14
  obtain ⟨x14, rfl⟩ := kind_sli h14
  obtain ⟨l15, ls16, rfl, h15, g16⟩ := kinds_cons g15
  obtain ⟨x15, rfl⟩ := kind_sli h15
  obtain ⟨l16, ls17, rfl, h16, g17⟩ := kinds_cons g16
  obtain ⟨x16, rfl⟩ := kind_sli h16
  obtain ⟨l17, ls18, rfl, h17, g18⟩ := kinds_cons g17
  obtain ⟨x17, rfl⟩ := kind_int h17
  obtain rfl := kinds_nil g18
  exact ⟨_, rfl⟩
theorem ek86 : ∀ ls : List (Lf C), kindsB [.str, .str] ls = true → ∃ x, d86 ls = some x := by
  intro ls0 g0
  obtain ⟨l0, ls1, rfl, h0, g1⟩ := kinds_cons g0
  obtain ⟨x0, rfl⟩ := kind_str h0
  obtain ⟨l1, ls2, rfl, h1, g2⟩ := kinds_cons g1
  obtain ⟨x1, rfl⟩ := kind_str h1
  obtain rfl := kinds_nil g2
  exact ⟨_, rfl⟩
theorem ek98 : ∀ ls : List (Lf C), kindsB [.str, .int .i64, .int .i64, .int .i64, .int .i64, .int .i64] ls = true → ∃ x, d98 ls = some x := by
  intro ls0 g0
  obtain ⟨l0, ls1, rfl, h0, g1⟩ := kinds_cons g0
  obtain ⟨x0, rfl⟩ := kind_str h0
  obtain ⟨l1, ls2, rfl, h1, g2⟩ := kinds_cons g1
  obtain ⟨x1, rfl⟩ := kind_int h1
  obtain ⟨l2, ls3, rfl, h2, g3⟩ := kinds_cons g2
  obtain ⟨x2, rfl⟩ := kind_int h2
  obtain ⟨l3, ls4, rfl, h3, g4⟩ := kinds_cons g3
  obtain ⟨x3, rfl⟩ := kind_int h3
  obtain ⟨l4, ls5, rfl, h4, g5⟩ := kinds_cons g4
  obtain ⟨x4, rfl⟩ := kind_int h4
  obtain ⟨l5, ls6, rfl, h5, g6⟩ := kinds_cons g5
  obtain ⟨x5, rfl⟩ := kind_int h5
  obtain rfl := kinds_nil g6
  exact ⟨_, rfl⟩
theorem ek116 : ∀ ls : List (Lf C), kindsB [.int .i64, .int .i64, .int .i64, .int .i64, .int .i64, .int .i64, .str, .sli .e132] ls = true → ∃ x, d116 ls = some x := by
  intro ls0 g0
  obtain ⟨l0, ls1, rfl, h0, g1⟩ := kinds_cons g0
  obtain ⟨x0, rfl⟩ := kind_int h0
  obtain ⟨l1, ls2, rfl, h1, g2⟩ := kinds_cons g1
  obtain ⟨x1, rfl⟩ := kind_int h1
  obtain ⟨l2, ls3, rfl, h2, g3⟩ := kinds_cons g2
  obtain ⟨x2, rfl⟩ := kind_int h2
  obtain ⟨l3, ls4, rfl, h3, g4⟩ := kinds_cons g3
  obtain ⟨x3, rfl⟩ := kind_int h3
  obtain ⟨l4, ls5, rfl, h4, g5⟩ := kinds_cons g4
  obtain ⟨x4, rfl⟩ := kind_int h4
  obtain ⟨l5, ls6, rfl, h5, g6⟩ := kinds_cons g5
  obtain ⟨x5, rfl⟩ := kind_int h5
  obtain ⟨l6, ls7, rfl, h6, g7⟩ := kinds_cons g6
  obtain ⟨x6, rfl⟩ := kind_str h6
  obtain ⟨l7, ls8, rfl, h7, g8⟩ := kinds_cons g7
  obtain ⟨x7, rfl⟩ := kind_sli h7
  obtain rfl := kinds_nil g8
  exact ⟨_, rfl⟩
theorem ek119 : ∀ ls : List (Lf C), kindsB [.int .i64, .str] ls = true → ∃ x, d119 ls = some x := by
  intro ls0 g0
  obtain ⟨l0, ls1, rfl, h0, g1⟩ := kinds_cons g0
  obtain ⟨x0, rfl⟩ := kind_int h0
  obtain ⟨l1, ls2, rfl, h1, g2⟩ := kinds_cons g1
  obtain ⟨x1, rfl⟩ := kind_str h1
  obtain rfl := kinds_nil g2
  exact ⟨_, rfl⟩
theorem ek132 : ∀ ls : List (Lf C), kindsB [.int .i64, .str] ls = true → ∃ x, d132 ls = some x := by
  intro ls0 g0
  obtain ⟨l0, ls1, rfl, h0, g1⟩ := kinds_cons g0
  obtain ⟨x0, rfl⟩ := kind_int h0
  obtain ⟨l1, ls2, rfl, h1, g2⟩ := kinds_cons g1
  obtain ⟨x1, rfl⟩ := kind_str h1
  obtain rfl := kinds_nil g2
  exact ⟨_, rfl⟩
theorem ek134 : ∀ ls : List (Lf C), kindsB [.int .i64, .sli .e3] ls = true → ∃ x, d134 ls = some x := by
  intro ls0 g0
  obtain ⟨l0, ls1, rfl, h0, g1⟩ := kinds_cons g0
  obtain ⟨x0, rfl⟩ := kind_int h0
  obtain ⟨l1, ls2, rfl, h1, g2⟩ := kinds_cons g1
  obtain ⟨x1, rfl⟩ := kind_sli h1
  obtain rfl := kinds_nil g2
  exact ⟨_, rfl⟩
theorem tab_ok : Tab Go.Proofs.Try.prog KK (lk tks) := by
  refine tab_of tks_ok els_ok (by kernel_rfl) fun t => ?_
  cases t
  · exact ⟨_, rfl, rfl, ek3⟩
  · exact ⟨_, rfl, rfl, ek5⟩
  · exact ⟨_, rfl, rfl, ek9⟩
  · exact ⟨_, rfl, rfl, ek64⟩
  · exact ⟨_, rfl, rfl, ek70⟩
  · exact ⟨_, rfl, rfl, ek74⟩
  · exact ⟨_, rfl, rfl, ek84⟩
  · exact ⟨_, rfl, rfl, ek86⟩
  · exact ⟨_, rfl, rfl, ek98⟩
  · exact ⟨_, rfl, rfl, ek116⟩
  · exact ⟨_, rfl, rfl, ek119⟩
  · exact ⟨_, rfl, rfl, ek132⟩
  · exact ⟨_, rfl, rfl, ek134⟩
end Go.Proofs.Ytgpopgfidphheaa.Ab
