/-
  DERIVED. GIVEN WITH THE SEED: THE PROGRAM's TIES (one call each: nine closed facts by the kernel) AND EACH ROW's TIE, after the 31st guide's Derived/Test/Toyas{Tie, Card}.lean. No idea stands in it: it is a product of the set-up. Laid BY PROGRAM, IN A SANDBOX (cutbox-door.mjs). By AI agents, Wed Nov 11 2026. No macro, syntax, notation, axiom, sorry.
-/
import Derived.Test.YtpkenccgjlhnlaaDoorRows
import Derived.LaidByTextLater
import Derived.SevenTiedAt
import Derived.LaidSub
import Derived.LaidOnce
namespace Go.Proofs.YtpkenccgjlhnlaaDoor
open Go
set_option maxRecDepth 100000
theorem seatTie1 : Tryd.prog.laidByTextLater [("math/bits.deBruijn32tab", Rows.laid_math_bits_deBruijn32tab), ("math/bits.deBruijn64tab", Rows.laid_math_bits_deBruijn64tab), ("internal/strconv.uint64pow10", Rows.laid_internal_strconv_uint64pow10), ("loop.example/turtlewalks/impl.wayLetters", Rows.laid_loop_example_turtlewalks_impl_wayLetters), ("loop.example/turtlewalks/impl.deedWords", Rows.laid_loop_example_turtlewalks_impl_deedWords), ("loop.example/turtlewalks/impl.directions", Rows.laid_loop_example_turtlewalks_impl_directions)] [.data, .data, .data, .data, .data, .data] true :=
  Program.laidByTextLater_by_one 43 8 65 (by kernel_rfl) (by kernel_rfl) (by kernel_rfl) (by kernel_rfl) (by kernel_rfl) (by kernel_rfl) (fun _ _ => by kernel_rfl)
theorem noOwnUnsafe : Tryd.pinned.checked.prog.headLifts.contains "ownunsafe" = false := by kernel_rfl
theorem tie : Tryd.prog.laidByTextLater [("loop.example/turtlewalks/impl.wayLetters", Rows.laid_loop_example_turtlewalks_impl_wayLetters), ("loop.example/turtlewalks/impl.directions", Rows.laid_loop_example_turtlewalks_impl_directions)] [.data, .data] true :=
  Program.laidByTextLater.sub seatTie1 ["loop.example/turtlewalks/impl.wayLetters", "loop.example/turtlewalks/impl.directions"] (by kernel_rfl) (by kernel_rfl)
theorem fnDeskDo_row_tie : Rows.fnDeskDoRow.laidByTextAt .later Tryd.pinned [.data, .data] true :=
  OpenClaim.laidByTextAt_later rfl rfl tie noOwnUnsafe
theorem fnDeskRun_row_tie : Rows.fnDeskRunRow.laidByTextAt .later Tryd.pinned [.data, .data] true :=
  OpenClaim.laidByTextAt_later rfl rfl tie noOwnUnsafe
theorem tie2 : Tryd.prog.laidByTextLater [("loop.example/turtlewalks/impl.wayLetters", Rows.laid_loop_example_turtlewalks_impl_wayLetters)] [.data] true :=
  Program.laidByTextLater.sub seatTie1 ["loop.example/turtlewalks/impl.wayLetters"] (by kernel_rfl) (by kernel_rfl)
theorem fnExactAllWays_row_tie : Rows.fnExactAllWaysRow.laidByTextAt .later Tryd.pinned [.data] true :=
  OpenClaim.laidByTextAt_later rfl rfl tie2 noOwnUnsafe
theorem fnAllWays_row_tie : Rows.fnAllWaysRow.laidByTextAt .later Tryd.pinned [.data] true :=
  OpenClaim.laidByTextAt_later rfl rfl tie2 noOwnUnsafe
theorem tie3 : Tryd.prog.laidByTextLater [("math/bits.deBruijn32tab", Rows.laid_math_bits_deBruijn32tab), ("math/bits.deBruijn64tab", Rows.laid_math_bits_deBruijn64tab), ("internal/strconv.uint64pow10", Rows.laid_internal_strconv_uint64pow10), ("loop.example/turtlewalks/impl.deedWords", Rows.laid_loop_example_turtlewalks_impl_deedWords)] [.data, .data, .data, .data] true :=
  Program.laidByTextLater.sub seatTie1 ["math/bits.deBruijn32tab", "math/bits.deBruijn64tab", "internal/strconv.uint64pow10", "loop.example/turtlewalks/impl.deedWords"] (by kernel_rfl) (by kernel_rfl)
theorem fnJournalText_row_tie : Rows.fnJournalTextRow.laidByTextAt .later Tryd.pinned [.data, .data, .data, .data] true :=
  OpenClaim.laidByTextAt_later rfl rfl tie3 noOwnUnsafe
theorem fnDeskDoUpto_row_tie : Rows.fnDeskDoUptoRow.laidByTextAt .later Tryd.pinned [.data, .data] true :=
  OpenClaim.laidByTextAt_later rfl rfl tie noOwnUnsafe
theorem fnExactAllWaysUpto_row_tie : Rows.fnExactAllWaysUptoRow.laidByTextAt .later Tryd.pinned [.data] true :=
  OpenClaim.laidByTextAt_later rfl rfl tie2 noOwnUnsafe
theorem fnDeskRunUpto_row_tie : Rows.fnDeskRunUptoRow.laidByTextAt .later Tryd.pinned [.data, .data] true :=
  OpenClaim.laidByTextAt_later rfl rfl tie noOwnUnsafe
theorem fnAllWaysUpto_row_tie : Rows.fnAllWaysUptoRow.laidByTextAt .later Tryd.pinned [.data] true :=
  OpenClaim.laidByTextAt_later rfl rfl tie2 noOwnUnsafe
theorem fnJournalTextUpto_row_tie : Rows.fnJournalTextUptoRow.laidByTextAt .later Tryd.pinned [.data, .data, .data, .data] true :=
  OpenClaim.laidByTextAt_later rfl rfl tie3 noOwnUnsafe
end Go.Proofs.YtpkenccgjlhnlaaDoor
