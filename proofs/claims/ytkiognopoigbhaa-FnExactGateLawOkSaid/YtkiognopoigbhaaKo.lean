/- A codec, printed by codec.py: what a kind tells. -/
import Derived.Test.YtkiognopoigbhaaKd
import Derived.Test.YtkiognopoigbhaaAo1
set_option linter.unusedVariables false
namespace Go.Proofs.Ytkiognopoigbhaa.Ab
open Go Go.RowKit
theorem ek3 : ∀ ls : List (Lf C), kindsB [.int .i64] ls = true → ∃ x, d3 ls = some x := by
  intro ls0 g0
  obtain ⟨l0, ls1, rfl, h0, g1⟩ := kinds_cons g0
  obtain ⟨x0, rfl⟩ := kind_int h0
  obtain rfl := kinds_nil g1
  exact ⟨_, rfl⟩
theorem ek5 : ∀ ls : List (Lf C), kindsB [.int .u8] ls = true → ∃ x, d5 ls = some x := by
  intro ls0 g0
  obtain ⟨l0, ls1, rfl, h0, g1⟩ := kinds_cons g0
  obtain ⟨x0, rfl⟩ := kind_int h0
  obtain rfl := kinds_nil g1
  exact ⟨_, rfl⟩
theorem ek9 : ∀ ls : List (Lf C), kindsB [.str] ls = true → ∃ x, d9 ls = some x := by
  intro ls0 g0
  obtain ⟨l0, ls1, rfl, h0, g1⟩ := kinds_cons g0
  obtain ⟨x0, rfl⟩ := kind_str h0
  obtain rfl := kinds_nil g1
  exact ⟨_, rfl⟩
theorem ek29 : ∀ ls : List (Lf C), kindsB [.sli .e81] ls = true → ∃ x, d29 ls = some x := by
  intro ls0 g0
  obtain ⟨l0, ls1, rfl, h0, g1⟩ := kinds_cons g0
  obtain ⟨x0, rfl⟩ := kind_sli h0
  obtain rfl := kinds_nil g1
  exact ⟨_, rfl⟩
theorem ek30 : ∀ ls : List (Lf C), kindsB [.sli .e83] ls = true → ∃ x, d30 ls = some x := by
  intro ls0 g0
  obtain ⟨l0, ls1, rfl, h0, g1⟩ := kinds_cons g0
  obtain ⟨x0, rfl⟩ := kind_sli h0
  obtain rfl := kinds_nil g1
  exact ⟨_, rfl⟩
theorem ek37 : ∀ ls : List (Lf C), kindsB [.sli .e9] ls = true → ∃ x, d37 ls = some x := by
  intro ls0 g0
  obtain ⟨l0, ls1, rfl, h0, g1⟩ := kinds_cons g0
  obtain ⟨x0, rfl⟩ := kind_sli h0
  obtain rfl := kinds_nil g1
  exact ⟨_, rfl⟩
theorem ek43 : ∀ ls : List (Lf C), kindsB [.str, .str, .str, .sli .e9, .bool, .sli .e9, .int .i64] ls = true → ∃ x, d43 ls = some x := by
  intro ls0 g0
  obtain ⟨l0, ls1, rfl, h0, g1⟩ := kinds_cons g0
  obtain ⟨x0, rfl⟩ := kind_str h0
  obtain ⟨l1, ls2, rfl, h1, g2⟩ := kinds_cons g1
  obtain ⟨x1, rfl⟩ := kind_str h1
  obtain ⟨l2, ls3, rfl, h2, g3⟩ := kinds_cons g2
  obtain ⟨x2, rfl⟩ := kind_str h2
  obtain ⟨l3, ls4, rfl, h3, g4⟩ := kinds_cons g3
  obtain ⟨x3, rfl⟩ := kind_sli h3
  obtain ⟨l4, ls5, rfl, h4, g5⟩ := kinds_cons g4
  obtain ⟨x4, rfl⟩ := kind_bool h4
  obtain ⟨l5, ls6, rfl, h5, g6⟩ := kinds_cons g5
  obtain ⟨x5, rfl⟩ := kind_sli h5
  obtain ⟨l6, ls7, rfl, h6, g7⟩ := kinds_cons g6
  obtain ⟨x6, rfl⟩ := kind_int h6
  obtain rfl := kinds_nil g7
  exact ⟨_, rfl⟩
theorem ek60 : ∀ ls : List (Lf C), kindsB [.sli .e100] ls = true → ∃ x, d60 ls = some x := by
  intro ls0 g0
  obtain ⟨l0, ls1, rfl, h0, g1⟩ := kinds_cons g0
  obtain ⟨x0, rfl⟩ := kind_sli h0
  obtain rfl := kinds_nil g1
  exact ⟨_, rfl⟩
theorem ek74 : ∀ ls : List (Lf C), kindsB [.str, .sli .e134] ls = true → ∃ x, d74 ls = some x := by
  intro ls0 g0
  obtain ⟨l0, ls1, rfl, h0, g1⟩ := kinds_cons g0
  obtain ⟨x0, rfl⟩ := kind_str h0
  obtain ⟨l1, ls2, rfl, h1, g2⟩ := kinds_cons g1
  obtain ⟨x1, rfl⟩ := kind_sli h1
  obtain rfl := kinds_nil g2
  exact ⟨_, rfl⟩
theorem ek77 : ∀ ls : List (Lf C), kindsB [.str, .str, .str, .str, .str, .str] ls = true → ∃ x, d77 ls = some x := by
  intro ls0 g0
  obtain ⟨l0, ls1, rfl, h0, g1⟩ := kinds_cons g0
  obtain ⟨x0, rfl⟩ := kind_str h0
  obtain ⟨l1, ls2, rfl, h1, g2⟩ := kinds_cons g1
  obtain ⟨x1, rfl⟩ := kind_str h1
  obtain ⟨l2, ls3, rfl, h2, g3⟩ := kinds_cons g2
  obtain ⟨x2, rfl⟩ := kind_str h2
  obtain ⟨l3, ls4, rfl, h3, g4⟩ := kinds_cons g3
  obtain ⟨x3, rfl⟩ := kind_str h3
  obtain ⟨l4, ls5, rfl, h4, g5⟩ := kinds_cons g4
  obtain ⟨x4, rfl⟩ := kind_str h4
  obtain ⟨l5, ls6, rfl, h5, g6⟩ := kinds_cons g5
  obtain ⟨x5, rfl⟩ := kind_str h5
  obtain rfl := kinds_nil g6
  exact ⟨_, rfl⟩
theorem ek81 : ∀ ls : List (Lf C), kindsB [.str, .sli .e100] ls = true → ∃ x, d81 ls = some x := by
  intro ls0 g0
  obtain ⟨l0, ls1, rfl, h0, g1⟩ := kinds_cons g0
  obtain ⟨x0, rfl⟩ := kind_str h0
  obtain ⟨l1, ls2, rfl, h1, g2⟩ := kinds_cons g1
  obtain ⟨x1, rfl⟩ := kind_sli h1
  obtain rfl := kinds_nil g2
  exact ⟨_, rfl⟩
theorem ek83 : ∀ ls : List (Lf C), kindsB [.str, .str, .str, .str, .str, .str] ls = true → ∃ x, d83 ls = some x := by
  intro ls0 g0
  obtain ⟨l0, ls1, rfl, h0, g1⟩ := kinds_cons g0
  obtain ⟨x0, rfl⟩ := kind_str h0
  obtain ⟨l1, ls2, rfl, h1, g2⟩ := kinds_cons g1
  obtain ⟨x1, rfl⟩ := kind_str h1
  obtain ⟨l2, ls3, rfl, h2, g3⟩ := kinds_cons g2
  obtain ⟨x2, rfl⟩ := kind_str h2
  obtain ⟨l3, ls4, rfl, h3, g4⟩ := kinds_cons g3
  obtain ⟨x3, rfl⟩ := kind_str h3
  obtain ⟨l4, ls5, rfl, h4, g5⟩ := kinds_cons g4
  obtain ⟨x4, rfl⟩ := kind_str h4
  obtain ⟨l5, ls6, rfl, h5, g6⟩ := kinds_cons g5
  obtain ⟨x5, rfl⟩ := kind_str h5
  obtain rfl := kinds_nil g6
  exact ⟨_, rfl⟩
theorem ek100 : ∀ ls : List (Lf C), kindsB [.str, .int .i64, .int .i64, .int .i64, .sli .e9, .str, .int .i64, .bool, .bool, .str, .str] ls = true → ∃ x, d100 ls = some x := by
  intro ls0 g0
  obtain ⟨l0, ls1, rfl, h0, g1⟩ := kinds_cons g0
  obtain ⟨x0, rfl⟩ := kind_str h0
  obtain ⟨l1, ls2, rfl, h1, g2⟩ := kinds_cons g1
  obtain ⟨x1, rfl⟩ := kind_int h1
  obtain ⟨l2, ls3, rfl, h2, g3⟩ := kinds_cons g2
  obtain ⟨x2, rfl⟩ := kind_int h2
  obtain ⟨l3, ls4, rfl, h3, g4⟩ := kinds_cons g3
  obtain ⟨x3, rfl⟩ := kind_int h3
  obtain ⟨l4, ls5, rfl, h4, g5⟩ := kinds_cons g4
  obtain ⟨x4, rfl⟩ := kind_sli h4
  obtain ⟨l5, ls6, rfl, h5, g6⟩ := kinds_cons g5
  obtain ⟨x5, rfl⟩ := kind_str h5
  obtain ⟨l6, ls7, rfl, h6, g7⟩ := kinds_cons g6
  obtain ⟨x6, rfl⟩ := kind_int h6
  obtain ⟨l7, ls8, rfl, h7, g8⟩ := kinds_cons g7
  obtain ⟨x7, rfl⟩ := kind_bool h7
  obtain ⟨l8, ls9, rfl, h8, g9⟩ := kinds_cons g8
  obtain ⟨x8, rfl⟩ := kind_bool h8
  obtain ⟨l9, ls10, rfl, h9, g10⟩ := kinds_cons g9
  obtain ⟨x9, rfl⟩ := kind_str h9
  obtain ⟨l10, ls11, rfl, h10, g11⟩ := kinds_cons g10
  obtain ⟨x10, rfl⟩ := kind_str h10
  obtain rfl := kinds_nil g11
  exact ⟨_, rfl⟩
theorem ek103 : ∀ ls : List (Lf C), kindsB [.str, .str] ls = true → ∃ x, d103 ls = some x := by
  intro ls0 g0
  obtain ⟨l0, ls1, rfl, h0, g1⟩ := kinds_cons g0
  obtain ⟨x0, rfl⟩ := kind_str h0
  obtain ⟨l1, ls2, rfl, h1, g2⟩ := kinds_cons g1
  obtain ⟨x1, rfl⟩ := kind_str h1
  obtain rfl := kinds_nil g2
  exact ⟨_, rfl⟩
theorem ek106 : ∀ ls : List (Lf C), kindsB [.str, .str] ls = true → ∃ x, d106 ls = some x := by
  intro ls0 g0
  obtain ⟨l0, ls1, rfl, h0, g1⟩ := kinds_cons g0
  obtain ⟨x0, rfl⟩ := kind_str h0
  obtain ⟨l1, ls2, rfl, h1, g2⟩ := kinds_cons g1
  obtain ⟨x1, rfl⟩ := kind_str h1
  obtain rfl := kinds_nil g2
  exact ⟨_, rfl⟩
theorem ek134 : ∀ ls : List (Lf C), kindsB [.str, .int .i64, .int .i64, .int .i64, .sli .e9, .str, .int .i64, .bool, .bool, .str, .str] ls = true → ∃ x, d134 ls = some x := by
  intro ls0 g0
  obtain ⟨l0, ls1, rfl, h0, g1⟩ := kinds_cons g0
  obtain ⟨x0, rfl⟩ := kind_str h0
  obtain ⟨l1, ls2, rfl, h1, g2⟩ := kinds_cons g1
  obtain ⟨x1, rfl⟩ := kind_int h1
  obtain ⟨l2, ls3, rfl, h2, g3⟩ := kinds_cons g2
  obtain ⟨x2, rfl⟩ := kind_int h2
  obtain ⟨l3, ls4, rfl, h3, g4⟩ := kinds_cons g3
  obtain ⟨x3, rfl⟩ := kind_int h3
  obtain ⟨l4, ls5, rfl, h4, g5⟩ := kinds_cons g4
  obtain ⟨x4, rfl⟩ := kind_sli h4
  obtain ⟨l5, ls6, rfl, h5, g6⟩ := kinds_cons g5
  obtain ⟨x5, rfl⟩ := kind_str h5
  obtain ⟨l6, ls7, rfl, h6, g7⟩ := kinds_cons g6
  obtain ⟨x6, rfl⟩ := kind_int h6
  obtain ⟨l7, ls8, rfl, h7, g8⟩ := kinds_cons g7
  obtain ⟨x7, rfl⟩ := kind_bool h7
  obtain ⟨l8, ls9, rfl, h8, g9⟩ := kinds_cons g8
  obtain ⟨x8, rfl⟩ := kind_bool h8
  obtain ⟨l9, ls10, rfl, h9, g10⟩ := kinds_cons g9
  obtain ⟨x9, rfl⟩ := kind_str h9
  obtain ⟨l10, ls11, rfl, h10, g11⟩ := kinds_cons g10
  obtain ⟨x10, rfl⟩ := kind_str h10
  obtain rfl := kinds_nil g11
  exact ⟨_, rfl⟩
theorem ek199 : ∀ ls : List (Lf C), kindsB [.int .i64, .str, .str, .sli .e3, .str, .str, .str] ls = true → ∃ x, d199 ls = some x := by
  intro ls0 g0
  obtain ⟨l0, ls1, rfl, h0, g1⟩ := kinds_cons g0
  obtain ⟨x0, rfl⟩ := kind_int h0
  obtain ⟨l1, ls2, rfl, h1, g2⟩ := kinds_cons g1
  obtain ⟨x1, rfl⟩ := kind_str h1
  obtain ⟨l2, ls3, rfl, h2, g3⟩ := kinds_cons g2
  obtain ⟨x2, rfl⟩ := kind_str h2
  obtain ⟨l3, ls4, rfl, h3, g4⟩ := kinds_cons g3
  obtain ⟨x3, rfl⟩ := kind_sli h3
  obtain ⟨l4, ls5, rfl, h4, g5⟩ := kinds_cons g4
  obtain ⟨x4, rfl⟩ := kind_str h4
  obtain ⟨l5, ls6, rfl, h5, g6⟩ := kinds_cons g5
  obtain ⟨x5, rfl⟩ := kind_str h5
  obtain ⟨l6, ls7, rfl, h6, g7⟩ := kinds_cons g6
  obtain ⟨x6, rfl⟩ := kind_str h6
  obtain rfl := kinds_nil g7
  exact ⟨_, rfl⟩
theorem ek201 : ∀ ls : List (Lf C), kindsB [.str, .str, .int .i64, .int .i64] ls = true → ∃ x, d201 ls = some x := by
  intro ls0 g0
  obtain ⟨l0, ls1, rfl, h0, g1⟩ := kinds_cons g0
  obtain ⟨x0, rfl⟩ := kind_str h0
  obtain ⟨l1, ls2, rfl, h1, g2⟩ := kinds_cons g1
  obtain ⟨x1, rfl⟩ := kind_str h1
  obtain ⟨l2, ls3, rfl, h2, g3⟩ := kinds_cons g2
  obtain ⟨x2, rfl⟩ := kind_int h2
  obtain ⟨l3, ls4, rfl, h3, g4⟩ := kinds_cons g3
  obtain ⟨x3, rfl⟩ := kind_int h3
  obtain rfl := kinds_nil g4
  exact ⟨_, rfl⟩
theorem ek203 : ∀ ls : List (Lf C), kindsB [.str, .str, .str, .int .i64, .int .i64] ls = true → ∃ x, d203 ls = some x := by
  intro ls0 g0
  obtain ⟨l0, ls1, rfl, h0, g1⟩ := kinds_cons g0
  obtain ⟨x0, rfl⟩ := kind_str h0
  obtain ⟨l1, ls2, rfl, h1, g2⟩ := kinds_cons g1
  obtain ⟨x1, rfl⟩ := kind_str h1
  obtain ⟨l2, ls3, rfl, h2, g3⟩ := kinds_cons g2
  obtain ⟨x2, rfl⟩ := kind_str h2
  obtain ⟨l3, ls4, rfl, h3, g4⟩ := kinds_cons g3
  obtain ⟨x3, rfl⟩ := kind_int h3
  obtain ⟨l4, ls5, rfl, h4, g5⟩ := kinds_cons g4
  obtain ⟨x4, rfl⟩ := kind_int h4
  obtain rfl := kinds_nil g5
  exact ⟨_, rfl⟩
def okT : Ty → Bool
  | .e3 => true
  | .e5 => true
  | .e9 => true
  | .e29 => true
  | .e30 => true
  | .e37 => true
  | .e43 => true
  | .e60 => true
  | .e74 => true
  | .e77 => true
  | .e81 => true
  | .e83 => true
  | .e100 => true
  | .e103 => true
  | .e106 => true
  | .e134 => true
  | .e173 => false
  | .e199 => true
  | .e201 => true
  | .e203 => true
set_option maxRecDepth 100000 in
theorem tab_ok : Tab Go.Proofs.Try.prog KK (lk tks) okT := by
  refine tab_of tks_ok els_ok (by kernel_rfl) fun t ht => ?_
  cases t
  · exact ⟨_, rfl, rfl, ek3⟩
  · exact ⟨_, rfl, rfl, ek5⟩
  · exact ⟨_, rfl, rfl, ek9⟩
  · exact ⟨_, rfl, rfl, ek29⟩
  · exact ⟨_, rfl, rfl, ek30⟩
  · exact ⟨_, rfl, rfl, ek37⟩
  · exact ⟨_, rfl, rfl, ek43⟩
  · exact ⟨_, rfl, rfl, ek60⟩
  · exact ⟨_, rfl, rfl, ek74⟩
  · exact ⟨_, rfl, rfl, ek77⟩
  · exact ⟨_, rfl, rfl, ek81⟩
  · exact ⟨_, rfl, rfl, ek83⟩
  · exact ⟨_, rfl, rfl, ek100⟩
  · exact ⟨_, rfl, rfl, ek103⟩
  · exact ⟨_, rfl, rfl, ek106⟩
  · exact ⟨_, rfl, rfl, ek134⟩
  · cases ht
  · exact ⟨_, rfl, rfl, ek199⟩
  · exact ⟨_, rfl, rfl, ek201⟩
  · exact ⟨_, rfl, rfl, ek203⟩
end Go.Proofs.Ytkiognopoigbhaa.Ab
