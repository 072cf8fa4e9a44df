/-
  DERIVED. GIVEN WITH THE SEED: THE CARDS: each row of YtjnljjbmmmpdiaaDoorRows.lean that lists a variable, with what it lists TIED to the program's text (the seventh form; the later family's looks); each row that meets fmt, with fmt's text TOLD by the authors' own Lean function (tested against real Go, not proved from fmt's source: count such statements apart). THE CARD IS WHAT COUNTS. Prove the row's statement (the work); the ties are given (YtjnljjbmmmpdiaaDoorTie.lean); close each card by the builder's one call (the guide's Derived/Test/ToyasCard.lean, 'card_holds'). Laid BY PROGRAM, IN A SANDBOX (cutbox-door.mjs). By AI agents, Wed Nov 11 2026. No macro, syntax, notation, axiom, sorry.
-/
import Derived.Test.YtjnljjbmmmpdiaaDoorRows
import GoSem.ClaimSeven
namespace Go.Proofs.YtjnljjbmmmpdiaaDoor
namespace Rows

/-- THE TIED CARD OF 'laws.FnExactReport'. -/
def fnExactReportCard : Claim7 := { stood := { row := fnExactReportRow, standIns := [], harness := (true, "3288b661c3c9254ba01940991354399be91ae02247e2212b403761092c3f762b"), looks := false }, kinds := [], alts := [], laidByText := true, laidKinds := [.data, .pinned], laidTests := true, laidLooks := .later }
def FnExactReportCardSaid : Prop := Claim7.holds Tryd.pinned (.plain (OpenSpec.ofChange fnExactReportSpec)) fnExactReportCard

/-- THE SECOND FORM's CARD OF 'laws.FnExactReport'. -/
def fnExactReportUptoCard : Claim7 := { stood := { row := fnExactReportUptoRow, standIns := [], harness := (true, "3288b661c3c9254ba01940991354399be91ae02247e2212b403761092c3f762b"), looks := false }, kinds := [], alts := [], laidByText := true, laidKinds := [.data, .pinned], laidTests := true, laidLooks := .later }
def FnExactReportUptoCardSaid : Prop := Claim7.holds Tryd.pinned (.plain (OpenSpec.upto fnExactReportSpec)) fnExactReportUptoCard
end Rows
end Go.Proofs.YtjnljjbmmmpdiaaDoor
