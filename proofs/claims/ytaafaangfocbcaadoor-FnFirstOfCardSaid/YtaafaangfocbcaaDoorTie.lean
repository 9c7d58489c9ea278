/-
  DERIVED. GIVEN WITH THE SEED: THE PROGRAM's TIES (one call each: nine closed facts by the kernel) AND EACH ROW's TIE, after the 31st guide's Derived/Test/Toyas{Tie, Card}.lean. No idea stands in it: it is a product of the set-up. Laid BY PROGRAM, IN A SANDBOX (cutbox-door.mjs). By AI agents, Wed Nov 11 2026. No macro, syntax, notation, axiom, sorry.
-/
import Derived.Test.YtaafaangfocbcaaDoorRows
import Derived.LaidByTextLater
import Derived.SevenTiedAt
import Derived.LaidSub
import Derived.LaidOnce
namespace Go.Proofs.YtaafaangfocbcaaDoor
open Go
set_option maxRecDepth 100000
theorem seatTie1 : Tryd.prog.laidByTextLater [("loop.example/turtlewalks/impl.wayLetters", Rows.laid_loop_example_turtlewalks_impl_wayLetters), ("loop.example/turtlewalks/impl.directions", Rows.laid_loop_example_turtlewalks_impl_directions)] [.data, .data] true :=
  Program.laidByTextLater_by_one 23 8 9 (by kernel_rfl) (by kernel_rfl) (by kernel_rfl) (by kernel_rfl) (by kernel_rfl) (by kernel_rfl) (fun _ _ => by kernel_rfl)
theorem noOwnUnsafe : Tryd.pinned.checked.prog.headLifts.contains "ownunsafe" = false := by kernel_rfl
theorem tie : Tryd.prog.laidByTextLater [("loop.example/turtlewalks/impl.directions", Rows.laid_loop_example_turtlewalks_impl_directions)] [.data] true :=
  Program.laidByTextLater.sub seatTie1 ["loop.example/turtlewalks/impl.directions"] (by kernel_rfl) (by kernel_rfl)
theorem fnAvoidsOk_row_tie : Rows.fnAvoidsOkRow.laidByTextAt .later Tryd.pinned [.data] true :=
  OpenClaim.laidByTextAt_later rfl rfl tie noOwnUnsafe
theorem fnGoesOn_row_tie : Rows.fnGoesOnRow.laidByTextAt .later Tryd.pinned [.data] true :=
  OpenClaim.laidByTextAt_later rfl rfl tie noOwnUnsafe
theorem fnCaughtOk_row_tie : Rows.fnCaughtOkRow.laidByTextAt .later Tryd.pinned [.data] true :=
  OpenClaim.laidByTextAt_later rfl rfl tie noOwnUnsafe
theorem tie2 : Tryd.prog.laidByTextLater [("loop.example/turtlewalks/impl.wayLetters", Rows.laid_loop_example_turtlewalks_impl_wayLetters), ("loop.example/turtlewalks/impl.directions", Rows.laid_loop_example_turtlewalks_impl_directions)] [.data, .data] true :=
  Program.laidByTextLater.sub seatTie1 ["loop.example/turtlewalks/impl.wayLetters", "loop.example/turtlewalks/impl.directions"] (by kernel_rfl) (by kernel_rfl)
theorem fnUnfoldedOf_row_tie : Rows.fnUnfoldedOfRow.laidByTextAt .later Tryd.pinned [.data, .data] true :=
  OpenClaim.laidByTextAt_later rfl rfl tie2 noOwnUnsafe
theorem fnInWay_row_tie : Rows.fnInWayRow.laidByTextAt .later Tryd.pinned [.data, .data] true :=
  OpenClaim.laidByTextAt_later rfl rfl tie2 noOwnUnsafe
theorem fnFirstOf_row_tie : Rows.fnFirstOfRow.laidByTextAt .later Tryd.pinned [.data, .data] true :=
  OpenClaim.laidByTextAt_later rfl rfl tie2 noOwnUnsafe
theorem fnSameShape_row_tie : Rows.fnSameShapeRow.laidByTextAt .later Tryd.pinned [.data, .data] true :=
  OpenClaim.laidByTextAt_later rfl rfl tie2 noOwnUnsafe
theorem tie3 : Tryd.prog.laidByTextLater [("loop.example/turtlewalks/impl.wayLetters", Rows.laid_loop_example_turtlewalks_impl_wayLetters)] [.data] true :=
  Program.laidByTextLater.sub seatTie1 ["loop.example/turtlewalks/impl.wayLetters"] (by kernel_rfl) (by kernel_rfl)
theorem fnWaysSame_row_tie : Rows.fnWaysSameRow.laidByTextAt .later Tryd.pinned [.data] true :=
  OpenClaim.laidByTextAt_later rfl rfl tie3 noOwnUnsafe
theorem fnAvoidsOkUpto_row_tie : Rows.fnAvoidsOkUptoRow.laidByTextAt .later Tryd.pinned [.data] true :=
  OpenClaim.laidByTextAt_later rfl rfl tie noOwnUnsafe
theorem fnGoesOnUpto_row_tie : Rows.fnGoesOnUptoRow.laidByTextAt .later Tryd.pinned [.data] true :=
  OpenClaim.laidByTextAt_later rfl rfl tie noOwnUnsafe
theorem fnUnfoldedOfUpto_row_tie : Rows.fnUnfoldedOfUptoRow.laidByTextAt .later Tryd.pinned [.data, .data] true :=
  OpenClaim.laidByTextAt_later rfl rfl tie2 noOwnUnsafe
theorem fnCaughtOkUpto_row_tie : Rows.fnCaughtOkUptoRow.laidByTextAt .later Tryd.pinned [.data] true :=
  OpenClaim.laidByTextAt_later rfl rfl tie noOwnUnsafe
theorem fnWaysSameUpto_row_tie : Rows.fnWaysSameUptoRow.laidByTextAt .later Tryd.pinned [.data] true :=
  OpenClaim.laidByTextAt_later rfl rfl tie3 noOwnUnsafe
theorem fnInWayUpto_row_tie : Rows.fnInWayUptoRow.laidByTextAt .later Tryd.pinned [.data, .data] true :=
  OpenClaim.laidByTextAt_later rfl rfl tie2 noOwnUnsafe
theorem fnFirstOfUpto_row_tie : Rows.fnFirstOfUptoRow.laidByTextAt .later Tryd.pinned [.data, .data] true :=
  OpenClaim.laidByTextAt_later rfl rfl tie2 noOwnUnsafe
theorem fnSameShapeUpto_row_tie : Rows.fnSameShapeUptoRow.laidByTextAt .later Tryd.pinned [.data, .data] true :=
  OpenClaim.laidByTextAt_later rfl rfl tie2 noOwnUnsafe
end Go.Proofs.YtaafaangfocbcaaDoor
