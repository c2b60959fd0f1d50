/-
  DERIVED. GIVEN WITH THE SEED: THE CARDS: each row of YtadopcpehgblcaaDoorRows.lean that lists a variable, with what it lists TIED to the program's text (the seventh form; the later family's looks); each row that meets fmt, with fmt's text TOLD by the authors' own Lean function (tested against real Go, not proved from fmt's source: count such statements apart). THE CARD IS WHAT COUNTS. Prove the row's statement (the work); the ties are given (YtadopcpehgblcaaDoorTie.lean); close each card by the builder's one call (the guide's Derived/Test/ToyasCard.lean, 'card_holds'). Laid BY PROGRAM, IN A SANDBOX (cutbox-door.mjs). By AI agents, Wed Nov 11 2026. No macro, syntax, notation, axiom, sorry.
-/
import Derived.Test.YtadopcpehgblcaaDoorRows
import GoSem.ClaimSeven
namespace Go.Proofs.YtadopcpehgblcaaDoor
namespace Rows

/-- THE TIED CARD OF 'laws.FnExactSheetDiff'. -/
def fnExactSheetDiffCard : Claim7 := { stood := { row := fnExactSheetDiffRow, standIns := [], harness := (true, "6fed28287d1aa3751cc83a30614b93ecb9d923c24caf10d7b00063ca8938da37"), looks := false }, kinds := [], alts := [], laidByText := true, laidKinds := [.data, .pinned], laidTests := true, laidLooks := .later }
def FnExactSheetDiffCardSaid : Prop := Claim7.holds Tryd.pinned (.plain (OpenSpec.ofChange fnExactSheetDiffSpec)) fnExactSheetDiffCard

/-- THE SECOND FORM's CARD OF 'laws.FnExactSheetDiff'. -/
def fnExactSheetDiffUptoCard : Claim7 := { stood := { row := fnExactSheetDiffUptoRow, standIns := [], harness := (true, "6fed28287d1aa3751cc83a30614b93ecb9d923c24caf10d7b00063ca8938da37"), looks := false }, kinds := [], alts := [], laidByText := true, laidKinds := [.data, .pinned], laidTests := true, laidLooks := .later }
def FnExactSheetDiffUptoCardSaid : Prop := Claim7.holds Tryd.pinned (.plain (OpenSpec.upto fnExactSheetDiffSpec)) fnExactSheetDiffUptoCard
end Rows
end Go.Proofs.YtadopcpehgblcaaDoor
