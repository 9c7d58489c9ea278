/-
  DERIVED. GIVEN WITH THE SEED: THE CARDS: each row of YtejbjfkoofhaoaaDoorRows.lean that lists a variable, with what it lists TIED to the program's text (the seventh form; the later family's looks); each row that meets fmt, with fmt's text TOLD by the authors' own Lean function (tested against real Go, not proved from fmt's source: count such statements apart). THE CARD IS WHAT COUNTS. Prove the row's statement (the work); the ties are given (YtejbjfkoofhaoaaDoorTie.lean); close each card by the builder's one call (the guide's Derived/Test/ToyasCard.lean, 'card_holds'). Laid BY PROGRAM, IN A SANDBOX (cutbox-door.mjs). By AI agents, Wed Nov 11 2026. No macro, syntax, notation, axiom, sorry.
-/
import Derived.Test.YtejbjfkoofhaoaaDoorRows
import GoSem.ClaimSeven
namespace Go.Proofs.YtejbjfkoofhaoaaDoor
namespace Rows

/-- THE TIED CARD OF 'laws.FnExactInWay'. -/
def fnExactInWayCard : Claim7 := { stood := { row := fnExactInWayRow, standIns := [], harness := (true, "784c9939b331c333a9839aafcfa9a299b07c79b48a9e27ebd5a2b27ea2f410b7"), looks := false }, kinds := [], alts := [], laidByText := true, laidKinds := [.data], laidTests := true, laidLooks := .later }
def FnExactInWayCardSaid : Prop := Claim7.holds Tryd.pinned (.plain (OpenSpec.ofChange fnExactInWaySpec)) fnExactInWayCard

/-- THE TIED CARD OF 'laws.FnExactAvoidsOk'. -/
def fnExactAvoidsOkCard : Claim7 := { stood := { row := fnExactAvoidsOkRow, standIns := [], harness := (true, "784c9939b331c333a9839aafcfa9a299b07c79b48a9e27ebd5a2b27ea2f410b7"), looks := false }, kinds := [], alts := [], laidByText := true, laidKinds := [.data], laidTests := true, laidLooks := .later }
def FnExactAvoidsOkCardSaid : Prop := Claim7.holds Tryd.pinned (.plain (OpenSpec.ofChange fnExactAvoidsOkSpec)) fnExactAvoidsOkCard

/-- THE TIED CARD OF 'laws.FnExactWaysSame'. -/
def fnExactWaysSameCard : Claim7 := { stood := { row := fnExactWaysSameRow, standIns := [], harness := (true, "784c9939b331c333a9839aafcfa9a299b07c79b48a9e27ebd5a2b27ea2f410b7"), looks := false }, kinds := [], alts := [], laidByText := true, laidKinds := [.data], laidTests := true, laidLooks := .later }
def FnExactWaysSameCardSaid : Prop := Claim7.holds Tryd.pinned (.plain (OpenSpec.ofChange fnExactWaysSameSpec)) fnExactWaysSameCard

/-- THE SECOND FORM's CARD OF 'laws.FnExactInWay'. -/
def fnExactInWayUptoCard : Claim7 := { stood := { row := fnExactInWayUptoRow, standIns := [], harness := (true, "784c9939b331c333a9839aafcfa9a299b07c79b48a9e27ebd5a2b27ea2f410b7"), looks := false }, kinds := [], alts := [], laidByText := true, laidKinds := [.data], laidTests := true, laidLooks := .later }
def FnExactInWayUptoCardSaid : Prop := Claim7.holds Tryd.pinned (.plain (OpenSpec.upto fnExactInWaySpec)) fnExactInWayUptoCard

/-- THE SECOND FORM's CARD OF 'laws.FnExactAvoidsOk'. -/
def fnExactAvoidsOkUptoCard : Claim7 := { stood := { row := fnExactAvoidsOkUptoRow, standIns := [], harness := (true, "784c9939b331c333a9839aafcfa9a299b07c79b48a9e27ebd5a2b27ea2f410b7"), looks := false }, kinds := [], alts := [], laidByText := true, laidKinds := [.data], laidTests := true, laidLooks := .later }
def FnExactAvoidsOkUptoCardSaid : Prop := Claim7.holds Tryd.pinned (.plain (OpenSpec.upto fnExactAvoidsOkSpec)) fnExactAvoidsOkUptoCard

/-- THE SECOND FORM's CARD OF 'laws.FnExactWaysSame'. -/
def fnExactWaysSameUptoCard : Claim7 := { stood := { row := fnExactWaysSameUptoRow, standIns := [], harness := (true, "784c9939b331c333a9839aafcfa9a299b07c79b48a9e27ebd5a2b27ea2f410b7"), looks := false }, kinds := [], alts := [], laidByText := true, laidKinds := [.data], laidTests := true, laidLooks := .later }
def FnExactWaysSameUptoCardSaid : Prop := Claim7.holds Tryd.pinned (.plain (OpenSpec.upto fnExactWaysSameSpec)) fnExactWaysSameUptoCard
end Rows
end Go.Proofs.YtejbjfkoofhaoaaDoor
