/-
  DERIVED. GIVEN WITH THE SEED: THE CARDS: each row of YtpnnhgminiihnaaDoorRows.lean that lists a variable, with what it lists TIED to the program's text (the seventh form; the later family's looks); each row that meets fmt, with fmt's text TOLD by the authors' own Lean function (tested against real Go, not proved from fmt's source: count such statements apart). THE CARD IS WHAT COUNTS. Prove the row's statement (the work); the ties are given (YtpnnhgminiihnaaDoorTie.lean); close each card by the builder's one call (the guide's Derived/Test/ToyasCard.lean, 'card_holds'). Laid BY PROGRAM, IN A SANDBOX (cutbox-door.mjs). By AI agents, Wed Nov 11 2026. No macro, syntax, notation, axiom, sorry.
-/
import Derived.Test.YtpnnhgminiihnaaDoorRows
import GoSem.ClaimSeven
namespace Go.Proofs.YtpnnhgminiihnaaDoor
namespace Rows

/-- THE TIED CARD OF 'laws.FnExactFault'. -/
def fnExactFaultCard : Claim7 := { stood := { row := fnExactFaultRow, standIns := [], harness := (true, "4a0c6d572ea6475710627b0d769e8e9c8aeefd8766266e66e0aba023ab99d4cd"), looks := false }, kinds := [], alts := [], laidByText := true, laidKinds := [.data, .pinned], laidTests := true, laidLooks := .later }
def FnExactFaultCardSaid : Prop := Claim7.holds Tryd.pinned (.plain (OpenSpec.ofChange fnExactFaultSpec)) fnExactFaultCard

/-- THE TIED CARD OF 'laws.FnExactReadInputs'. -/
def fnExactReadInputsCard : Claim7 := { stood := { row := fnExactReadInputsRow, standIns := [], harness := (true, "4a0c6d572ea6475710627b0d769e8e9c8aeefd8766266e66e0aba023ab99d4cd"), looks := false }, kinds := [], alts := [], laidByText := true, laidKinds := [.data, .pinned], laidTests := true, laidLooks := .later }
def FnExactReadInputsCardSaid : Prop := Claim7.holds Tryd.pinned (.plain (OpenSpec.ofChange fnExactReadInputsSpec)) fnExactReadInputsCard

/-- THE TIED CARD OF 'laws.FnExactReport'. -/
def fnExactReportCard : Claim7 := { stood := { row := fnExactReportRow, standIns := [], harness := (true, "4a0c6d572ea6475710627b0d769e8e9c8aeefd8766266e66e0aba023ab99d4cd"), looks := false }, kinds := [], alts := [], laidByText := true, laidKinds := [.data, .pinned], laidTests := true, laidLooks := .later }
def FnExactReportCardSaid : Prop := Claim7.holds Tryd.pinned (.plain (OpenSpec.ofChange fnExactReportSpec)) fnExactReportCard

/-- THE SECOND FORM's CARD OF 'laws.FnExactFault'. -/
def fnExactFaultUptoCard : Claim7 := { stood := { row := fnExactFaultUptoRow, standIns := [], harness := (true, "4a0c6d572ea6475710627b0d769e8e9c8aeefd8766266e66e0aba023ab99d4cd"), looks := false }, kinds := [], alts := [], laidByText := true, laidKinds := [.data, .pinned], laidTests := true, laidLooks := .later }
def FnExactFaultUptoCardSaid : Prop := Claim7.holds Tryd.pinned (.plain (OpenSpec.upto fnExactFaultSpec)) fnExactFaultUptoCard

/-- THE SECOND FORM's CARD OF 'laws.FnExactReadInputs'. -/
def fnExactReadInputsUptoCard : Claim7 := { stood := { row := fnExactReadInputsUptoRow, standIns := [], harness := (true, "4a0c6d572ea6475710627b0d769e8e9c8aeefd8766266e66e0aba023ab99d4cd"), looks := false }, kinds := [], alts := [], laidByText := true, laidKinds := [.data, .pinned], laidTests := true, laidLooks := .later }
def FnExactReadInputsUptoCardSaid : Prop := Claim7.holds Tryd.pinned (.plain (OpenSpec.upto fnExactReadInputsSpec)) fnExactReadInputsUptoCard

/-- THE SECOND FORM's CARD OF 'laws.FnExactReport'. -/
def fnExactReportUptoCard : Claim7 := { stood := { row := fnExactReportUptoRow, standIns := [], harness := (true, "4a0c6d572ea6475710627b0d769e8e9c8aeefd8766266e66e0aba023ab99d4cd"), looks := false }, kinds := [], alts := [], laidByText := true, laidKinds := [.data, .pinned], laidTests := true, laidLooks := .later }
def FnExactReportUptoCardSaid : Prop := Claim7.holds Tryd.pinned (.plain (OpenSpec.upto fnExactReportSpec)) fnExactReportUptoCard
end Rows
end Go.Proofs.YtpnnhgminiihnaaDoor
