/-
  DERIVED. GIVEN WITH THE SEED: THE CARDS: each row of YtaafaangfocbcaaDoorRows.lean that lists a variable, with what it lists TIED to the program's text (the seventh form; the later family's looks); each row that meets fmt, with fmt's text TOLD by the authors' own Lean function (tested against real Go, not proved from fmt's source: count such statements apart). THE CARD IS WHAT COUNTS. Prove the row's statement (the work); the ties are given (YtaafaangfocbcaaDoorTie.lean); close each card by the builder's one call (the guide's Derived/Test/ToyasCard.lean, 'card_holds'). Laid BY PROGRAM, IN A SANDBOX (cutbox-door.mjs). By AI agents, Wed Nov 11 2026. No macro, syntax, notation, axiom, sorry.
-/
import Derived.Test.YtaafaangfocbcaaDoorRows
import GoSem.ClaimSeven
namespace Go.Proofs.YtaafaangfocbcaaDoor
namespace Rows

/-- THE TIED CARD OF 'laws.FnAvoidsOk'. -/
def fnAvoidsOkCard : Claim7 := { stood := { row := fnAvoidsOkRow, standIns := [], harness := (true, "ddeaad03ee6811e60aa7941367ba73e55d2f488efa8eeef4aa1a3831f8511d40"), looks := false }, kinds := [], alts := [], laidByText := true, laidKinds := [.data], laidTests := true, laidLooks := .later }
def FnAvoidsOkCardSaid : Prop := Claim7.holds Tryd.pinned (.plain (OpenSpec.ofChange fnAvoidsOkSpec)) fnAvoidsOkCard

/-- THE TIED CARD OF 'laws.FnGoesOn'. -/
def fnGoesOnCard : Claim7 := { stood := { row := fnGoesOnRow, standIns := [], harness := (true, "ddeaad03ee6811e60aa7941367ba73e55d2f488efa8eeef4aa1a3831f8511d40"), looks := false }, kinds := [], alts := [], laidByText := true, laidKinds := [.data], laidTests := true, laidLooks := .later }
def FnGoesOnCardSaid : Prop := Claim7.holds Tryd.pinned (.plain (OpenSpec.ofChange fnGoesOnSpec)) fnGoesOnCard

/-- THE TIED CARD OF 'laws.FnUnfoldedOf'. -/
def fnUnfoldedOfCard : Claim7 := { stood := { row := fnUnfoldedOfRow, standIns := [], harness := (true, "ddeaad03ee6811e60aa7941367ba73e55d2f488efa8eeef4aa1a3831f8511d40"), looks := false }, kinds := [], alts := [], laidByText := true, laidKinds := [.data, .data], laidTests := true, laidLooks := .later }
def FnUnfoldedOfCardSaid : Prop := Claim7.holds Tryd.pinned (.plain (OpenSpec.ofChange fnUnfoldedOfSpec)) fnUnfoldedOfCard

/-- THE TIED CARD OF 'laws.FnCaughtOk'. -/
def fnCaughtOkCard : Claim7 := { stood := { row := fnCaughtOkRow, standIns := [], harness := (true, "ddeaad03ee6811e60aa7941367ba73e55d2f488efa8eeef4aa1a3831f8511d40"), looks := false }, kinds := [], alts := [], laidByText := true, laidKinds := [.data], laidTests := true, laidLooks := .later }
def FnCaughtOkCardSaid : Prop := Claim7.holds Tryd.pinned (.plain (OpenSpec.ofChange fnCaughtOkSpec)) fnCaughtOkCard

/-- THE TIED CARD OF 'laws.FnWaysSame'. -/
def fnWaysSameCard : Claim7 := { stood := { row := fnWaysSameRow, standIns := [], harness := (true, "ddeaad03ee6811e60aa7941367ba73e55d2f488efa8eeef4aa1a3831f8511d40"), looks := false }, kinds := [], alts := [], laidByText := true, laidKinds := [.data], laidTests := true, laidLooks := .later }
def FnWaysSameCardSaid : Prop := Claim7.holds Tryd.pinned (.plain (OpenSpec.ofChange fnWaysSameSpec)) fnWaysSameCard

/-- THE TIED CARD OF 'laws.FnInWay'. -/
def fnInWayCard : Claim7 := { stood := { row := fnInWayRow, standIns := [], harness := (true, "ddeaad03ee6811e60aa7941367ba73e55d2f488efa8eeef4aa1a3831f8511d40"), looks := false }, kinds := [], alts := [], laidByText := true, laidKinds := [.data, .data], laidTests := true, laidLooks := .later }
def FnInWayCardSaid : Prop := Claim7.holds Tryd.pinned (.plain (OpenSpec.ofChange fnInWaySpec)) fnInWayCard

/-- THE TIED CARD OF 'laws.FnFirstOf'. -/
def fnFirstOfCard : Claim7 := { stood := { row := fnFirstOfRow, standIns := [], harness := (true, "ddeaad03ee6811e60aa7941367ba73e55d2f488efa8eeef4aa1a3831f8511d40"), looks := false }, kinds := [], alts := [], laidByText := true, laidKinds := [.data, .data], laidTests := true, laidLooks := .later }
def FnFirstOfCardSaid : Prop := Claim7.holds Tryd.pinned (.plain (OpenSpec.ofChange fnFirstOfSpec)) fnFirstOfCard

/-- THE TIED CARD OF 'laws.FnSameShape'. -/
def fnSameShapeCard : Claim7 := { stood := { row := fnSameShapeRow, standIns := [], harness := (true, "ddeaad03ee6811e60aa7941367ba73e55d2f488efa8eeef4aa1a3831f8511d40"), looks := false }, kinds := [], alts := [], laidByText := true, laidKinds := [.data, .data], laidTests := true, laidLooks := .later }
def FnSameShapeCardSaid : Prop := Claim7.holds Tryd.pinned (.plain (OpenSpec.ofChange fnSameShapeSpec)) fnSameShapeCard

/-- THE SECOND FORM's CARD OF 'laws.FnAvoidsOk'. -/
def fnAvoidsOkUptoCard : Claim7 := { stood := { row := fnAvoidsOkUptoRow, standIns := [], harness := (true, "ddeaad03ee6811e60aa7941367ba73e55d2f488efa8eeef4aa1a3831f8511d40"), looks := false }, kinds := [], alts := [], laidByText := true, laidKinds := [.data], laidTests := true, laidLooks := .later }
def FnAvoidsOkUptoCardSaid : Prop := Claim7.holds Tryd.pinned (.plain (OpenSpec.upto fnAvoidsOkSpec)) fnAvoidsOkUptoCard

/-- THE SECOND FORM's CARD OF 'laws.FnGoesOn'. -/
def fnGoesOnUptoCard : Claim7 := { stood := { row := fnGoesOnUptoRow, standIns := [], harness := (true, "ddeaad03ee6811e60aa7941367ba73e55d2f488efa8eeef4aa1a3831f8511d40"), looks := false }, kinds := [], alts := [], laidByText := true, laidKinds := [.data], laidTests := true, laidLooks := .later }
def FnGoesOnUptoCardSaid : Prop := Claim7.holds Tryd.pinned (.plain (OpenSpec.upto fnGoesOnSpec)) fnGoesOnUptoCard

/-- THE SECOND FORM's CARD OF 'laws.FnUnfoldedOf'. -/
def fnUnfoldedOfUptoCard : Claim7 := { stood := { row := fnUnfoldedOfUptoRow, standIns := [], harness := (true, "ddeaad03ee6811e60aa7941367ba73e55d2f488efa8eeef4aa1a3831f8511d40"), looks := false }, kinds := [], alts := [], laidByText := true, laidKinds := [.data, .data], laidTests := true, laidLooks := .later }
def FnUnfoldedOfUptoCardSaid : Prop := Claim7.holds Tryd.pinned (.plain (OpenSpec.upto fnUnfoldedOfSpec)) fnUnfoldedOfUptoCard

/-- THE SECOND FORM's CARD OF 'laws.FnCaughtOk'. -/
def fnCaughtOkUptoCard : Claim7 := { stood := { row := fnCaughtOkUptoRow, standIns := [], harness := (true, "ddeaad03ee6811e60aa7941367ba73e55d2f488efa8eeef4aa1a3831f8511d40"), looks := false }, kinds := [], alts := [], laidByText := true, laidKinds := [.data], laidTests := true, laidLooks := .later }
def FnCaughtOkUptoCardSaid : Prop := Claim7.holds Tryd.pinned (.plain (OpenSpec.upto fnCaughtOkSpec)) fnCaughtOkUptoCard

/-- THE SECOND FORM's CARD OF 'laws.FnWaysSame'. -/
def fnWaysSameUptoCard : Claim7 := { stood := { row := fnWaysSameUptoRow, standIns := [], harness := (true, "ddeaad03ee6811e60aa7941367ba73e55d2f488efa8eeef4aa1a3831f8511d40"), looks := false }, kinds := [], alts := [], laidByText := true, laidKinds := [.data], laidTests := true, laidLooks := .later }
def FnWaysSameUptoCardSaid : Prop := Claim7.holds Tryd.pinned (.plain (OpenSpec.upto fnWaysSameSpec)) fnWaysSameUptoCard

/-- THE SECOND FORM's CARD OF 'laws.FnInWay'. -/
def fnInWayUptoCard : Claim7 := { stood := { row := fnInWayUptoRow, standIns := [], harness := (true, "ddeaad03ee6811e60aa7941367ba73e55d2f488efa8eeef4aa1a3831f8511d40"), looks := false }, kinds := [], alts := [], laidByText := true, laidKinds := [.data, .data], laidTests := true, laidLooks := .later }
def FnInWayUptoCardSaid : Prop := Claim7.holds Tryd.pinned (.plain (OpenSpec.upto fnInWaySpec)) fnInWayUptoCard

/-- THE SECOND FORM's CARD OF 'laws.FnFirstOf'. -/
def fnFirstOfUptoCard : Claim7 := { stood := { row := fnFirstOfUptoRow, standIns := [], harness := (true, "ddeaad03ee6811e60aa7941367ba73e55d2f488efa8eeef4aa1a3831f8511d40"), looks := false }, kinds := [], alts := [], laidByText := true, laidKinds := [.data, .data], laidTests := true, laidLooks := .later }
def FnFirstOfUptoCardSaid : Prop := Claim7.holds Tryd.pinned (.plain (OpenSpec.upto fnFirstOfSpec)) fnFirstOfUptoCard

/-- THE SECOND FORM's CARD OF 'laws.FnSameShape'. -/
def fnSameShapeUptoCard : Claim7 := { stood := { row := fnSameShapeUptoRow, standIns := [], harness := (true, "ddeaad03ee6811e60aa7941367ba73e55d2f488efa8eeef4aa1a3831f8511d40"), looks := false }, kinds := [], alts := [], laidByText := true, laidKinds := [.data, .data], laidTests := true, laidLooks := .later }
def FnSameShapeUptoCardSaid : Prop := Claim7.holds Tryd.pinned (.plain (OpenSpec.upto fnSameShapeSpec)) fnSameShapeUptoCard
end Rows
end Go.Proofs.YtaafaangfocbcaaDoor
