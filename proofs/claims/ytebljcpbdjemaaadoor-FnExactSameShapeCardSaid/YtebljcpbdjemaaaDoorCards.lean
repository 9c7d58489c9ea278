/-
  DERIVED. GIVEN WITH THE SEED: THE CARDS: each row of YtebljcpbdjemaaaDoorRows.lean that lists a variable, with what it lists TIED to the program's text (the seventh form; the later family's looks); each row that meets fmt, with fmt's text TOLD by the authors' own Lean function (tested against real Go, not proved from fmt's source: count such statements apart). THE CARD IS WHAT COUNTS. Prove the row's statement (the work); the ties are given (YtebljcpbdjemaaaDoorTie.lean); close each card by the builder's one call (the guide's Derived/Test/ToyasCard.lean, 'card_holds'). Laid BY PROGRAM, IN A SANDBOX (cutbox-door.mjs). By AI agents, Wed Nov 11 2026. No macro, syntax, notation, axiom, sorry.
-/
import Derived.Test.YtebljcpbdjemaaaDoorRows
import GoSem.ClaimSeven
namespace Go.Proofs.YtebljcpbdjemaaaDoor
namespace Rows

/-- THE TIED CARD OF 'laws.FnExactUnfoldedOf'. -/
def fnExactUnfoldedOfCard : Claim7 := { stood := { row := fnExactUnfoldedOfRow, standIns := [], harness := (true, "8a92902e943c25386122d1661a32d48166125cc0c3a2a511a508339e71361264"), looks := false }, kinds := [], alts := [], laidByText := true, laidKinds := [.data, .data], laidTests := true, laidLooks := .later }
def FnExactUnfoldedOfCardSaid : Prop := Claim7.holds Tryd.pinned (.plain (OpenSpec.ofChange fnExactUnfoldedOfSpec)) fnExactUnfoldedOfCard

/-- THE TIED CARD OF 'laws.FnExactGoesOn'. -/
def fnExactGoesOnCard : Claim7 := { stood := { row := fnExactGoesOnRow, standIns := [], harness := (true, "8a92902e943c25386122d1661a32d48166125cc0c3a2a511a508339e71361264"), looks := false }, kinds := [], alts := [], laidByText := true, laidKinds := [.data], laidTests := true, laidLooks := .later }
def FnExactGoesOnCardSaid : Prop := Claim7.holds Tryd.pinned (.plain (OpenSpec.ofChange fnExactGoesOnSpec)) fnExactGoesOnCard

/-- THE TIED CARD OF 'laws.FnExactCaughtOk'. -/
def fnExactCaughtOkCard : Claim7 := { stood := { row := fnExactCaughtOkRow, standIns := [], harness := (true, "8a92902e943c25386122d1661a32d48166125cc0c3a2a511a508339e71361264"), looks := false }, kinds := [], alts := [], laidByText := true, laidKinds := [.data], laidTests := true, laidLooks := .later }
def FnExactCaughtOkCardSaid : Prop := Claim7.holds Tryd.pinned (.plain (OpenSpec.ofChange fnExactCaughtOkSpec)) fnExactCaughtOkCard

/-- THE TIED CARD OF 'laws.FnExactFirstOf'. -/
def fnExactFirstOfCard : Claim7 := { stood := { row := fnExactFirstOfRow, standIns := [], harness := (true, "8a92902e943c25386122d1661a32d48166125cc0c3a2a511a508339e71361264"), looks := false }, kinds := [], alts := [], laidByText := true, laidKinds := [.data, .data], laidTests := true, laidLooks := .later }
def FnExactFirstOfCardSaid : Prop := Claim7.holds Tryd.pinned (.plain (OpenSpec.ofChange fnExactFirstOfSpec)) fnExactFirstOfCard

/-- THE TIED CARD OF 'laws.FnExactSameShape'. -/
def fnExactSameShapeCard : Claim7 := { stood := { row := fnExactSameShapeRow, standIns := [], harness := (true, "8a92902e943c25386122d1661a32d48166125cc0c3a2a511a508339e71361264"), looks := false }, kinds := [], alts := [], laidByText := true, laidKinds := [.data, .data], laidTests := true, laidLooks := .later }
def FnExactSameShapeCardSaid : Prop := Claim7.holds Tryd.pinned (.plain (OpenSpec.ofChange fnExactSameShapeSpec)) fnExactSameShapeCard

/-- THE SECOND FORM's CARD OF 'laws.FnExactUnfoldedOf'. -/
def fnExactUnfoldedOfUptoCard : Claim7 := { stood := { row := fnExactUnfoldedOfUptoRow, standIns := [], harness := (true, "8a92902e943c25386122d1661a32d48166125cc0c3a2a511a508339e71361264"), looks := false }, kinds := [], alts := [], laidByText := true, laidKinds := [.data, .data], laidTests := true, laidLooks := .later }
def FnExactUnfoldedOfUptoCardSaid : Prop := Claim7.holds Tryd.pinned (.plain (OpenSpec.upto fnExactUnfoldedOfSpec)) fnExactUnfoldedOfUptoCard

/-- THE SECOND FORM's CARD OF 'laws.FnExactGoesOn'. -/
def fnExactGoesOnUptoCard : Claim7 := { stood := { row := fnExactGoesOnUptoRow, standIns := [], harness := (true, "8a92902e943c25386122d1661a32d48166125cc0c3a2a511a508339e71361264"), looks := false }, kinds := [], alts := [], laidByText := true, laidKinds := [.data], laidTests := true, laidLooks := .later }
def FnExactGoesOnUptoCardSaid : Prop := Claim7.holds Tryd.pinned (.plain (OpenSpec.upto fnExactGoesOnSpec)) fnExactGoesOnUptoCard

/-- THE SECOND FORM's CARD OF 'laws.FnExactCaughtOk'. -/
def fnExactCaughtOkUptoCard : Claim7 := { stood := { row := fnExactCaughtOkUptoRow, standIns := [], harness := (true, "8a92902e943c25386122d1661a32d48166125cc0c3a2a511a508339e71361264"), looks := false }, kinds := [], alts := [], laidByText := true, laidKinds := [.data], laidTests := true, laidLooks := .later }
def FnExactCaughtOkUptoCardSaid : Prop := Claim7.holds Tryd.pinned (.plain (OpenSpec.upto fnExactCaughtOkSpec)) fnExactCaughtOkUptoCard

/-- THE SECOND FORM's CARD OF 'laws.FnExactFirstOf'. -/
def fnExactFirstOfUptoCard : Claim7 := { stood := { row := fnExactFirstOfUptoRow, standIns := [], harness := (true, "8a92902e943c25386122d1661a32d48166125cc0c3a2a511a508339e71361264"), looks := false }, kinds := [], alts := [], laidByText := true, laidKinds := [.data, .data], laidTests := true, laidLooks := .later }
def FnExactFirstOfUptoCardSaid : Prop := Claim7.holds Tryd.pinned (.plain (OpenSpec.upto fnExactFirstOfSpec)) fnExactFirstOfUptoCard

/-- THE SECOND FORM's CARD OF 'laws.FnExactSameShape'. -/
def fnExactSameShapeUptoCard : Claim7 := { stood := { row := fnExactSameShapeUptoRow, standIns := [], harness := (true, "8a92902e943c25386122d1661a32d48166125cc0c3a2a511a508339e71361264"), looks := false }, kinds := [], alts := [], laidByText := true, laidKinds := [.data, .data], laidTests := true, laidLooks := .later }
def FnExactSameShapeUptoCardSaid : Prop := Claim7.holds Tryd.pinned (.plain (OpenSpec.upto fnExactSameShapeSpec)) fnExactSameShapeUptoCard
end Rows
end Go.Proofs.YtebljcpbdjemaaaDoor
