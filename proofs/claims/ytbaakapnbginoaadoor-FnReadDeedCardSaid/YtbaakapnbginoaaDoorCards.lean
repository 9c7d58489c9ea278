/-
  DERIVED. GIVEN WITH THE SEED: THE CARDS: each row of YtbaakapnbginoaaDoorRows.lean that lists a variable, with what it lists TIED to the program's text (the seventh form; the later family's looks); each row that meets fmt, with fmt's text TOLD by the authors' own Lean function (tested against real Go, not proved from fmt's source: count such statements apart). THE CARD IS WHAT COUNTS. Prove the row's statement (the work); the ties are given (YtbaakapnbginoaaDoorTie.lean); close each card by the builder's one call (the guide's Derived/Test/ToyasCard.lean, 'card_holds'). Laid BY PROGRAM, IN A SANDBOX (cutbox-door.mjs). By AI agents, Wed Nov 11 2026. No macro, syntax, notation, axiom, sorry.
-/
import Derived.Test.YtbaakapnbginoaaDoorRows
import GoSem.ClaimSeven
namespace Go.Proofs.YtbaakapnbginoaaDoor
namespace Rows

/-- THE TIED CARD OF 'laws.FnExactReadDeed'. -/
def fnExactReadDeedCard : Claim7 := { stood := { row := fnExactReadDeedRow, standIns := [], harness := (true, "d6185ab8df6eb16e697de78ed78f25bcabd1ae697eade96e32e733a387e1feb1"), looks := false }, kinds := [], alts := [], laidByText := true, laidKinds := [.data], laidTests := true, laidLooks := .later }
def FnExactReadDeedCardSaid : Prop := Claim7.holds Tryd.pinned (.plain (OpenSpec.ofChange fnExactReadDeedSpec)) fnExactReadDeedCard

/-- THE TIED CARD OF 'laws.FnExactReadJournal'. -/
def fnExactReadJournalCard : Claim7 := { stood := { row := fnExactReadJournalRow, standIns := [], harness := (true, "d6185ab8df6eb16e697de78ed78f25bcabd1ae697eade96e32e733a387e1feb1"), looks := false }, kinds := [], alts := [], laidByText := true, laidKinds := [.data], laidTests := true, laidLooks := .later }
def FnExactReadJournalCardSaid : Prop := Claim7.holds Tryd.pinned (.plain (OpenSpec.ofChange fnExactReadJournalSpec)) fnExactReadJournalCard

/-- THE TIED CARD OF 'laws.FnExactDeskDo'. -/
def fnExactDeskDoCard : Claim7 := { stood := { row := fnExactDeskDoRow, standIns := [], harness := (true, "d6185ab8df6eb16e697de78ed78f25bcabd1ae697eade96e32e733a387e1feb1"), looks := false }, kinds := [], alts := [], laidByText := true, laidKinds := [.data, .data], laidTests := true, laidLooks := .later }
def FnExactDeskDoCardSaid : Prop := Claim7.holds Tryd.pinned (.plain (OpenSpec.ofChange fnExactDeskDoSpec)) fnExactDeskDoCard

/-- THE TIED CARD OF 'laws.FnExactDeskRun'. -/
def fnExactDeskRunCard : Claim7 := { stood := { row := fnExactDeskRunRow, standIns := [], harness := (true, "d6185ab8df6eb16e697de78ed78f25bcabd1ae697eade96e32e733a387e1feb1"), looks := false }, kinds := [], alts := [], laidByText := true, laidKinds := [.data, .data], laidTests := true, laidLooks := .later }
def FnExactDeskRunCardSaid : Prop := Claim7.holds Tryd.pinned (.plain (OpenSpec.ofChange fnExactDeskRunSpec)) fnExactDeskRunCard

/-- THE TIED CARD OF 'laws.FnDeskDo'. -/
def fnDeskDoCard : Claim7 := { stood := { row := fnDeskDoRow, standIns := [], harness := (true, "d6185ab8df6eb16e697de78ed78f25bcabd1ae697eade96e32e733a387e1feb1"), looks := false }, kinds := [], alts := [], laidByText := true, laidKinds := [.data, .data], laidTests := true, laidLooks := .later }
def FnDeskDoCardSaid : Prop := Claim7.holds Tryd.pinned (.plain (OpenSpec.ofChange fnDeskDoSpec)) fnDeskDoCard

/-- THE TIED CARD OF 'laws.FnExactAllWays'. -/
def fnExactAllWaysCard : Claim7 := { stood := { row := fnExactAllWaysRow, standIns := [], harness := (true, "d6185ab8df6eb16e697de78ed78f25bcabd1ae697eade96e32e733a387e1feb1"), looks := false }, kinds := [], alts := [], laidByText := true, laidKinds := [.data], laidTests := true, laidLooks := .later }
def FnExactAllWaysCardSaid : Prop := Claim7.holds Tryd.pinned (.plain (OpenSpec.ofChange fnExactAllWaysSpec)) fnExactAllWaysCard

/-- THE TIED CARD OF 'laws.FnDeskRun'. -/
def fnDeskRunCard : Claim7 := { stood := { row := fnDeskRunRow, standIns := [], harness := (true, "d6185ab8df6eb16e697de78ed78f25bcabd1ae697eade96e32e733a387e1feb1"), looks := false }, kinds := [], alts := [], laidByText := true, laidKinds := [.data, .data], laidTests := true, laidLooks := .later }
def FnDeskRunCardSaid : Prop := Claim7.holds Tryd.pinned (.plain (OpenSpec.ofChange fnDeskRunSpec)) fnDeskRunCard

/-- THE TIED CARD OF 'laws.FnDeedText'. -/
def fnDeedTextCard : Claim7 := { stood := { row := fnDeedTextRow, standIns := [], harness := (true, "d6185ab8df6eb16e697de78ed78f25bcabd1ae697eade96e32e733a387e1feb1"), looks := false }, kinds := [], alts := [], laidByText := true, laidKinds := [.data, .data, .data, .data], laidTests := true, laidLooks := .later }
def FnDeedTextCardSaid : Prop := Claim7.holds Tryd.pinned (.plain (OpenSpec.ofChange fnDeedTextSpec)) fnDeedTextCard

/-- THE TIED CARD OF 'laws.FnReadDeed'. -/
def fnReadDeedCard : Claim7 := { stood := { row := fnReadDeedRow, standIns := [], harness := (true, "d6185ab8df6eb16e697de78ed78f25bcabd1ae697eade96e32e733a387e1feb1"), looks := false }, kinds := [], alts := [], laidByText := true, laidKinds := [.data, .data, .data, .data], laidTests := true, laidLooks := .later }
def FnReadDeedCardSaid : Prop := Claim7.holds Tryd.pinned (.plain (OpenSpec.ofChange fnReadDeedSpec)) fnReadDeedCard

/-- THE TIED CARD OF 'laws.FnAllWays'. -/
def fnAllWaysCard : Claim7 := { stood := { row := fnAllWaysRow, standIns := [], harness := (true, "d6185ab8df6eb16e697de78ed78f25bcabd1ae697eade96e32e733a387e1feb1"), looks := false }, kinds := [], alts := [], laidByText := true, laidKinds := [.data], laidTests := true, laidLooks := .later }
def FnAllWaysCardSaid : Prop := Claim7.holds Tryd.pinned (.plain (OpenSpec.ofChange fnAllWaysSpec)) fnAllWaysCard

/-- THE TIED CARD OF 'laws.FnJournalText'. -/
def fnJournalTextCard : Claim7 := { stood := { row := fnJournalTextRow, standIns := [], harness := (true, "d6185ab8df6eb16e697de78ed78f25bcabd1ae697eade96e32e733a387e1feb1"), looks := false }, kinds := [], alts := [], laidByText := true, laidKinds := [.data, .data, .data, .data], laidTests := true, laidLooks := .later }
def FnJournalTextCardSaid : Prop := Claim7.holds Tryd.pinned (.plain (OpenSpec.ofChange fnJournalTextSpec)) fnJournalTextCard

/-- THE SECOND FORM's CARD OF 'laws.FnExactReadDeed'. -/
def fnExactReadDeedUptoCard : Claim7 := { stood := { row := fnExactReadDeedUptoRow, standIns := [], harness := (true, "d6185ab8df6eb16e697de78ed78f25bcabd1ae697eade96e32e733a387e1feb1"), looks := false }, kinds := [], alts := [], laidByText := true, laidKinds := [.data], laidTests := true, laidLooks := .later }
def FnExactReadDeedUptoCardSaid : Prop := Claim7.holds Tryd.pinned (.plain (OpenSpec.upto fnExactReadDeedSpec)) fnExactReadDeedUptoCard

/-- THE SECOND FORM's CARD OF 'laws.FnExactReadJournal'. -/
def fnExactReadJournalUptoCard : Claim7 := { stood := { row := fnExactReadJournalUptoRow, standIns := [], harness := (true, "d6185ab8df6eb16e697de78ed78f25bcabd1ae697eade96e32e733a387e1feb1"), looks := false }, kinds := [], alts := [], laidByText := true, laidKinds := [.data], laidTests := true, laidLooks := .later }
def FnExactReadJournalUptoCardSaid : Prop := Claim7.holds Tryd.pinned (.plain (OpenSpec.upto fnExactReadJournalSpec)) fnExactReadJournalUptoCard

/-- THE SECOND FORM's CARD OF 'laws.FnExactDeskDo'. -/
def fnExactDeskDoUptoCard : Claim7 := { stood := { row := fnExactDeskDoUptoRow, standIns := [], harness := (true, "d6185ab8df6eb16e697de78ed78f25bcabd1ae697eade96e32e733a387e1feb1"), looks := false }, kinds := [], alts := [], laidByText := true, laidKinds := [.data, .data], laidTests := true, laidLooks := .later }
def FnExactDeskDoUptoCardSaid : Prop := Claim7.holds Tryd.pinned (.plain (OpenSpec.upto fnExactDeskDoSpec)) fnExactDeskDoUptoCard

/-- THE SECOND FORM's CARD OF 'laws.FnExactDeskRun'. -/
def fnExactDeskRunUptoCard : Claim7 := { stood := { row := fnExactDeskRunUptoRow, standIns := [], harness := (true, "d6185ab8df6eb16e697de78ed78f25bcabd1ae697eade96e32e733a387e1feb1"), looks := false }, kinds := [], alts := [], laidByText := true, laidKinds := [.data, .data], laidTests := true, laidLooks := .later }
def FnExactDeskRunUptoCardSaid : Prop := Claim7.holds Tryd.pinned (.plain (OpenSpec.upto fnExactDeskRunSpec)) fnExactDeskRunUptoCard

/-- THE SECOND FORM's CARD OF 'laws.FnDeskDo'. -/
def fnDeskDoUptoCard : Claim7 := { stood := { row := fnDeskDoUptoRow, standIns := [], harness := (true, "d6185ab8df6eb16e697de78ed78f25bcabd1ae697eade96e32e733a387e1feb1"), looks := false }, kinds := [], alts := [], laidByText := true, laidKinds := [.data, .data], laidTests := true, laidLooks := .later }
def FnDeskDoUptoCardSaid : Prop := Claim7.holds Tryd.pinned (.plain (OpenSpec.upto fnDeskDoSpec)) fnDeskDoUptoCard

/-- THE SECOND FORM's CARD OF 'laws.FnExactAllWays'. -/
def fnExactAllWaysUptoCard : Claim7 := { stood := { row := fnExactAllWaysUptoRow, standIns := [], harness := (true, "d6185ab8df6eb16e697de78ed78f25bcabd1ae697eade96e32e733a387e1feb1"), looks := false }, kinds := [], alts := [], laidByText := true, laidKinds := [.data], laidTests := true, laidLooks := .later }
def FnExactAllWaysUptoCardSaid : Prop := Claim7.holds Tryd.pinned (.plain (OpenSpec.upto fnExactAllWaysSpec)) fnExactAllWaysUptoCard

/-- THE SECOND FORM's CARD OF 'laws.FnDeskRun'. -/
def fnDeskRunUptoCard : Claim7 := { stood := { row := fnDeskRunUptoRow, standIns := [], harness := (true, "d6185ab8df6eb16e697de78ed78f25bcabd1ae697eade96e32e733a387e1feb1"), looks := false }, kinds := [], alts := [], laidByText := true, laidKinds := [.data, .data], laidTests := true, laidLooks := .later }
def FnDeskRunUptoCardSaid : Prop := Claim7.holds Tryd.pinned (.plain (OpenSpec.upto fnDeskRunSpec)) fnDeskRunUptoCard

/-- THE SECOND FORM's CARD OF 'laws.FnDeedText'. -/
def fnDeedTextUptoCard : Claim7 := { stood := { row := fnDeedTextUptoRow, standIns := [], harness := (true, "d6185ab8df6eb16e697de78ed78f25bcabd1ae697eade96e32e733a387e1feb1"), looks := false }, kinds := [], alts := [], laidByText := true, laidKinds := [.data, .data, .data, .data], laidTests := true, laidLooks := .later }
def FnDeedTextUptoCardSaid : Prop := Claim7.holds Tryd.pinned (.plain (OpenSpec.upto fnDeedTextSpec)) fnDeedTextUptoCard

/-- THE SECOND FORM's CARD OF 'laws.FnReadDeed'. -/
def fnReadDeedUptoCard : Claim7 := { stood := { row := fnReadDeedUptoRow, standIns := [], harness := (true, "d6185ab8df6eb16e697de78ed78f25bcabd1ae697eade96e32e733a387e1feb1"), looks := false }, kinds := [], alts := [], laidByText := true, laidKinds := [.data, .data, .data, .data], laidTests := true, laidLooks := .later }
def FnReadDeedUptoCardSaid : Prop := Claim7.holds Tryd.pinned (.plain (OpenSpec.upto fnReadDeedSpec)) fnReadDeedUptoCard

/-- THE SECOND FORM's CARD OF 'laws.FnAllWays'. -/
def fnAllWaysUptoCard : Claim7 := { stood := { row := fnAllWaysUptoRow, standIns := [], harness := (true, "d6185ab8df6eb16e697de78ed78f25bcabd1ae697eade96e32e733a387e1feb1"), looks := false }, kinds := [], alts := [], laidByText := true, laidKinds := [.data], laidTests := true, laidLooks := .later }
def FnAllWaysUptoCardSaid : Prop := Claim7.holds Tryd.pinned (.plain (OpenSpec.upto fnAllWaysSpec)) fnAllWaysUptoCard

/-- THE SECOND FORM's CARD OF 'laws.FnJournalText'. -/
def fnJournalTextUptoCard : Claim7 := { stood := { row := fnJournalTextUptoRow, standIns := [], harness := (true, "d6185ab8df6eb16e697de78ed78f25bcabd1ae697eade96e32e733a387e1feb1"), looks := false }, kinds := [], alts := [], laidByText := true, laidKinds := [.data, .data, .data, .data], laidTests := true, laidLooks := .later }
def FnJournalTextUptoCardSaid : Prop := Claim7.holds Tryd.pinned (.plain (OpenSpec.upto fnJournalTextSpec)) fnJournalTextUptoCard
end Rows
end Go.Proofs.YtbaakapnbginoaaDoor
