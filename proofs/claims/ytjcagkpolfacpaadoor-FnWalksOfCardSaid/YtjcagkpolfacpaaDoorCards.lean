/-
  DERIVED. GIVEN WITH THE SEED: THE CARDS: each row of YtjcagkpolfacpaaDoorRows.lean that lists a variable, with what it lists TIED to the program's text (the seventh form; the later family's looks); each row that meets fmt, with fmt's text TOLD by the authors' own Lean function (tested against real Go, not proved from fmt's source: count such statements apart). THE CARD IS WHAT COUNTS. Prove the row's statement (the work); the ties are given (YtjcagkpolfacpaaDoorTie.lean); close each card by the builder's one call (the guide's Derived/Test/ToyasCard.lean, 'card_holds'). Laid BY PROGRAM, IN A SANDBOX (cutbox-door.mjs). By AI agents, Wed Nov 11 2026. No macro, syntax, notation, axiom, sorry.
-/
import Derived.Test.YtjcagkpolfacpaaDoorRows
import GoSem.ClaimSeven
namespace Go.Proofs.YtjcagkpolfacpaaDoor
namespace Rows

/-- THE TIED CARD OF 'laws.FnExactCountOf'. -/
def fnExactCountOfCard : Claim7 := { stood := { row := fnExactCountOfRow, standIns := [], harness := (true, "46c9c12a9f5062a21ec6cd08b5903171ff833568d31c6b554ca9528bf5f804b3"), looks := false }, kinds := [], alts := [], laidByText := true, laidKinds := [.data], laidTests := true, laidLooks := .later }
def FnExactCountOfCardSaid : Prop := Claim7.holds Tryd.pinned (.plain (OpenSpec.ofChange fnExactCountOfSpec)) fnExactCountOfCard

/-- THE TIED CARD OF 'laws.FnExactWalksOf'. -/
def fnExactWalksOfCard : Claim7 := { stood := { row := fnExactWalksOfRow, standIns := [], harness := (true, "46c9c12a9f5062a21ec6cd08b5903171ff833568d31c6b554ca9528bf5f804b3"), looks := false }, kinds := [], alts := [], laidByText := true, laidKinds := [.data], laidTests := true, laidLooks := .later }
def FnExactWalksOfCardSaid : Prop := Claim7.holds Tryd.pinned (.plain (OpenSpec.ofChange fnExactWalksOfSpec)) fnExactWalksOfCard

/-- THE TIED CARD OF 'laws.FnCountOf'. -/
def fnCountOfCard : Claim7 := { stood := { row := fnCountOfRow, standIns := [], harness := (true, "46c9c12a9f5062a21ec6cd08b5903171ff833568d31c6b554ca9528bf5f804b3"), looks := false }, kinds := [], alts := [], laidByText := true, laidKinds := [.data], laidTests := true, laidLooks := .later }
def FnCountOfCardSaid : Prop := Claim7.holds Tryd.pinned (.plain (OpenSpec.ofChange fnCountOfSpec)) fnCountOfCard

/-- THE TIED CARD OF 'laws.FnWalksOf'. -/
def fnWalksOfCard : Claim7 := { stood := { row := fnWalksOfRow, standIns := [], harness := (true, "46c9c12a9f5062a21ec6cd08b5903171ff833568d31c6b554ca9528bf5f804b3"), looks := false }, kinds := [], alts := [], laidByText := true, laidKinds := [.data], laidTests := true, laidLooks := .later }
def FnWalksOfCardSaid : Prop := Claim7.holds Tryd.pinned (.plain (OpenSpec.ofChange fnWalksOfSpec)) fnWalksOfCard

/-- THE TIED CARD OF 'laws.FnAllWays'. -/
def fnAllWaysCard : Claim7 := { stood := { row := fnAllWaysRow, standIns := [], harness := (true, "46c9c12a9f5062a21ec6cd08b5903171ff833568d31c6b554ca9528bf5f804b3"), looks := false }, kinds := [], alts := [], laidByText := true, laidKinds := [.data], laidTests := true, laidLooks := .later }
def FnAllWaysCardSaid : Prop := Claim7.holds Tryd.pinned (.plain (OpenSpec.ofChange fnAllWaysSpec)) fnAllWaysCard

/-- THE SECOND FORM's CARD OF 'laws.FnExactCountOf'. -/
def fnExactCountOfUptoCard : Claim7 := { stood := { row := fnExactCountOfUptoRow, standIns := [], harness := (true, "46c9c12a9f5062a21ec6cd08b5903171ff833568d31c6b554ca9528bf5f804b3"), looks := false }, kinds := [], alts := [], laidByText := true, laidKinds := [.data], laidTests := true, laidLooks := .later }
def FnExactCountOfUptoCardSaid : Prop := Claim7.holds Tryd.pinned (.plain (OpenSpec.upto fnExactCountOfSpec)) fnExactCountOfUptoCard

/-- THE SECOND FORM's CARD OF 'laws.FnExactWalksOf'. -/
def fnExactWalksOfUptoCard : Claim7 := { stood := { row := fnExactWalksOfUptoRow, standIns := [], harness := (true, "46c9c12a9f5062a21ec6cd08b5903171ff833568d31c6b554ca9528bf5f804b3"), looks := false }, kinds := [], alts := [], laidByText := true, laidKinds := [.data], laidTests := true, laidLooks := .later }
def FnExactWalksOfUptoCardSaid : Prop := Claim7.holds Tryd.pinned (.plain (OpenSpec.upto fnExactWalksOfSpec)) fnExactWalksOfUptoCard

/-- THE SECOND FORM's CARD OF 'laws.FnCountOf'. -/
def fnCountOfUptoCard : Claim7 := { stood := { row := fnCountOfUptoRow, standIns := [], harness := (true, "46c9c12a9f5062a21ec6cd08b5903171ff833568d31c6b554ca9528bf5f804b3"), looks := false }, kinds := [], alts := [], laidByText := true, laidKinds := [.data], laidTests := true, laidLooks := .later }
def FnCountOfUptoCardSaid : Prop := Claim7.holds Tryd.pinned (.plain (OpenSpec.upto fnCountOfSpec)) fnCountOfUptoCard

/-- THE SECOND FORM's CARD OF 'laws.FnWalksOf'. -/
def fnWalksOfUptoCard : Claim7 := { stood := { row := fnWalksOfUptoRow, standIns := [], harness := (true, "46c9c12a9f5062a21ec6cd08b5903171ff833568d31c6b554ca9528bf5f804b3"), looks := false }, kinds := [], alts := [], laidByText := true, laidKinds := [.data], laidTests := true, laidLooks := .later }
def FnWalksOfUptoCardSaid : Prop := Claim7.holds Tryd.pinned (.plain (OpenSpec.upto fnWalksOfSpec)) fnWalksOfUptoCard

/-- THE SECOND FORM's CARD OF 'laws.FnAllWays'. -/
def fnAllWaysUptoCard : Claim7 := { stood := { row := fnAllWaysUptoRow, standIns := [], harness := (true, "46c9c12a9f5062a21ec6cd08b5903171ff833568d31c6b554ca9528bf5f804b3"), looks := false }, kinds := [], alts := [], laidByText := true, laidKinds := [.data], laidTests := true, laidLooks := .later }
def FnAllWaysUptoCardSaid : Prop := Claim7.holds Tryd.pinned (.plain (OpenSpec.upto fnAllWaysSpec)) fnAllWaysUptoCard
end Rows
end Go.Proofs.YtjcagkpolfacpaaDoor
