/-
  DERIVED. GIVEN WITH THE SEED: THE CARDS: each row of YtpkenccgjlhnlaaDoorRows.lean that lists a variable, with what it lists TIED to the program's text (the seventh form; the later family's looks); each row that meets fmt, with fmt's text TOLD by the authors' own Lean function (tested against real Go, not proved from fmt's source: count such statements apart). THE CARD IS WHAT COUNTS. Prove the row's statement (the work); the ties are given (YtpkenccgjlhnlaaDoorTie.lean); close each card by the builder's one call (the guide's Derived/Test/ToyasCard.lean, 'card_holds'). Laid BY PROGRAM, IN A SANDBOX (cutbox-door.mjs). By AI agents, Wed Nov 11 2026. No macro, syntax, notation, axiom, sorry.
-/
import Derived.Test.YtpkenccgjlhnlaaDoorRows
import GoSem.ClaimSeven
namespace Go.Proofs.YtpkenccgjlhnlaaDoor
namespace Rows

/-- THE TIED CARD OF 'laws.FnDeskDo'. -/
def fnDeskDoCard : Claim7 := { stood := { row := fnDeskDoRow, standIns := [], harness := (true, "6671069f5c8bf083dc06c285b8cff0c057ebaf355381ed8c9c4dec2bbaa11f84"), looks := false }, kinds := [], alts := [], laidByText := true, laidKinds := [.data, .data], laidTests := true, laidLooks := .later }
def FnDeskDoCardSaid : Prop := Claim7.holds Tryd.pinned (.plain (OpenSpec.ofChange fnDeskDoSpec)) fnDeskDoCard

/-- THE TIED CARD OF 'laws.FnExactAllWays'. -/
def fnExactAllWaysCard : Claim7 := { stood := { row := fnExactAllWaysRow, standIns := [], harness := (true, "6671069f5c8bf083dc06c285b8cff0c057ebaf355381ed8c9c4dec2bbaa11f84"), looks := false }, kinds := [], alts := [], laidByText := true, laidKinds := [.data], laidTests := true, laidLooks := .later }
def FnExactAllWaysCardSaid : Prop := Claim7.holds Tryd.pinned (.plain (OpenSpec.ofChange fnExactAllWaysSpec)) fnExactAllWaysCard

/-- THE TIED CARD OF 'laws.FnDeskRun'. -/
def fnDeskRunCard : Claim7 := { stood := { row := fnDeskRunRow, standIns := [], harness := (true, "6671069f5c8bf083dc06c285b8cff0c057ebaf355381ed8c9c4dec2bbaa11f84"), looks := false }, kinds := [], alts := [], laidByText := true, laidKinds := [.data, .data], laidTests := true, laidLooks := .later }
def FnDeskRunCardSaid : Prop := Claim7.holds Tryd.pinned (.plain (OpenSpec.ofChange fnDeskRunSpec)) fnDeskRunCard

/-- THE TIED CARD OF 'laws.FnAllWays'. -/
def fnAllWaysCard : Claim7 := { stood := { row := fnAllWaysRow, standIns := [], harness := (true, "6671069f5c8bf083dc06c285b8cff0c057ebaf355381ed8c9c4dec2bbaa11f84"), looks := false }, kinds := [], alts := [], laidByText := true, laidKinds := [.data], laidTests := true, laidLooks := .later }
def FnAllWaysCardSaid : Prop := Claim7.holds Tryd.pinned (.plain (OpenSpec.ofChange fnAllWaysSpec)) fnAllWaysCard

/-- THE TIED CARD OF 'laws.FnJournalText'. -/
def fnJournalTextCard : Claim7 := { stood := { row := fnJournalTextRow, standIns := [], harness := (true, "6671069f5c8bf083dc06c285b8cff0c057ebaf355381ed8c9c4dec2bbaa11f84"), looks := false }, kinds := [], alts := [], laidByText := true, laidKinds := [.data, .data, .data, .data], laidTests := true, laidLooks := .later }
def FnJournalTextCardSaid : Prop := Claim7.holds Tryd.pinned (.plain (OpenSpec.ofChange fnJournalTextSpec)) fnJournalTextCard

/-- THE SECOND FORM's CARD OF 'laws.FnDeskDo'. -/
def fnDeskDoUptoCard : Claim7 := { stood := { row := fnDeskDoUptoRow, standIns := [], harness := (true, "6671069f5c8bf083dc06c285b8cff0c057ebaf355381ed8c9c4dec2bbaa11f84"), looks := false }, kinds := [], alts := [], laidByText := true, laidKinds := [.data, .data], laidTests := true, laidLooks := .later }
def FnDeskDoUptoCardSaid : Prop := Claim7.holds Tryd.pinned (.plain (OpenSpec.upto fnDeskDoSpec)) fnDeskDoUptoCard

/-- THE SECOND FORM's CARD OF 'laws.FnExactAllWays'. -/
def fnExactAllWaysUptoCard : Claim7 := { stood := { row := fnExactAllWaysUptoRow, standIns := [], harness := (true, "6671069f5c8bf083dc06c285b8cff0c057ebaf355381ed8c9c4dec2bbaa11f84"), looks := false }, kinds := [], alts := [], laidByText := true, laidKinds := [.data], laidTests := true, laidLooks := .later }
def FnExactAllWaysUptoCardSaid : Prop := Claim7.holds Tryd.pinned (.plain (OpenSpec.upto fnExactAllWaysSpec)) fnExactAllWaysUptoCard

/-- THE SECOND FORM's CARD OF 'laws.FnDeskRun'. -/
def fnDeskRunUptoCard : Claim7 := { stood := { row := fnDeskRunUptoRow, standIns := [], harness := (true, "6671069f5c8bf083dc06c285b8cff0c057ebaf355381ed8c9c4dec2bbaa11f84"), looks := false }, kinds := [], alts := [], laidByText := true, laidKinds := [.data, .data], laidTests := true, laidLooks := .later }
def FnDeskRunUptoCardSaid : Prop := Claim7.holds Tryd.pinned (.plain (OpenSpec.upto fnDeskRunSpec)) fnDeskRunUptoCard

/-- THE SECOND FORM's CARD OF 'laws.FnAllWays'. -/
def fnAllWaysUptoCard : Claim7 := { stood := { row := fnAllWaysUptoRow, standIns := [], harness := (true, "6671069f5c8bf083dc06c285b8cff0c057ebaf355381ed8c9c4dec2bbaa11f84"), looks := false }, kinds := [], alts := [], laidByText := true, laidKinds := [.data], laidTests := true, laidLooks := .later }
def FnAllWaysUptoCardSaid : Prop := Claim7.holds Tryd.pinned (.plain (OpenSpec.upto fnAllWaysSpec)) fnAllWaysUptoCard

/-- THE SECOND FORM's CARD OF 'laws.FnJournalText'. -/
def fnJournalTextUptoCard : Claim7 := { stood := { row := fnJournalTextUptoRow, standIns := [], harness := (true, "6671069f5c8bf083dc06c285b8cff0c057ebaf355381ed8c9c4dec2bbaa11f84"), looks := false }, kinds := [], alts := [], laidByText := true, laidKinds := [.data, .data, .data, .data], laidTests := true, laidLooks := .later }
def FnJournalTextUptoCardSaid : Prop := Claim7.holds Tryd.pinned (.plain (OpenSpec.upto fnJournalTextSpec)) fnJournalTextUptoCard
end Rows
end Go.Proofs.YtpkenccgjlhnlaaDoor
