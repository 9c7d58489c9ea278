/-
  NARROWER THAN 'FOR EVERY INPUT', by the rows' own cells (each row's printed sentence says how): FnDeskDo: laid · FnExactAllWays: laid · FnDeskRun: laid · FnAllWays: laid · FnJournalText: laid.
  DERIVED. THE GIVEN ROWS OF THIS SEAT. 5 by the template 'for every input the law returns true; each argument reads behind the call as it read before'; 0 by the template 'total and deterministic' (their statements: YtpkenccgjlhnlaaDoorTotals.lean).
  GIVEN WITH THE SEED: the statements are not yours to turn. If you find one false, say at which input.
  Laid BY PROGRAM, IN A SANDBOX (cutbox-rows.mjs): the forced cells as the released guide's own fill.sh prints them over the translation bdbd28d226216a7a… (all of the seat's roots in one cut). By AI agents, Wed Nov 11 2026. No macro, syntax, notation, axiom, sorry.
-/
import Derived.Test.YtpkenccgjlhnlaaDoorChecked
import GoSem.Claim
import GoSem.ClaimJoined
import GoSem.ClaimMapViews
import Derived.JoinedTies
import Derived.KernelRfl
namespace Go.Proofs.YtpkenccgjlhnlaaDoor
/- THE CELL 'sum', in the pinned program and in every row, IS THE sha256 OF THE DUMP (.gsa) THAT YtpkenccgjlhnlaaDoorProg.lean LOADS. Nothing in Lean hashes anything: it is a label: what it is worth is what the hold of that sum in a sandbox is worth. -/
noncomputable def Tryd.pinned : Pinned := { name := "ytpkenccgjlhnlaadoor", sum := "bdbd28d226216a7a1d4b5bde20f12c853af20f6f8bfd0f3b0c64455e7a1da713", checked := Tryd.checked }
namespace Rows
def none {H : Type} : Left H := { results := [], args := [] }

/- WHAT THE LISTED PACKAGE-LEVEL VARIABLES READ AS WHEN THE CALL BEGINS. Each datum BY PROGRAM (the guide's laid-datum.mjs) off the statement by which the dump's own 'gosem.cut.vars' lays the variable. In a bare row this is a premise. The card (YtpkenccgjlhnlaaDoorCards.lean) ties it to the program's text. -/
def laid_loop_example_turtlewalks_impl_wayLetters {H : Type} : DataW H := .agg [.lit (.string [101, 110, 119, 115]), .lit (.string [110, 119, 115, 101]), .lit (.string [119, 115, 101, 110]), .lit (.string [115, 101, 110, 119]), .lit (.string [101, 115, 119, 110]), .lit (.string [110, 101, 115, 119]), .lit (.string [119, 110, 101, 115]), .lit (.string [115, 119, 110, 101])]
def laid_loop_example_turtlewalks_impl_directions {H : Type} : DataW H := .agg [.agg [.lit (.int .i64 1), .lit (.int .i64 0)], .agg [.lit (.int .i64 0), .lit (.int .i64 1)], .agg [.lit (.int .i64 (-1)), .lit (.int .i64 0)], .agg [.lit (.int .i64 0), .lit (.int .i64 (-1))]]
def laid_math_bits_deBruijn32tab {H : Type} : DataW H := .agg [.lit (.int .u8 0), .lit (.int .u8 1), .lit (.int .u8 28), .lit (.int .u8 2), .lit (.int .u8 29), .lit (.int .u8 14), .lit (.int .u8 24), .lit (.int .u8 3), .lit (.int .u8 30), .lit (.int .u8 22), .lit (.int .u8 20), .lit (.int .u8 15), .lit (.int .u8 25), .lit (.int .u8 17), .lit (.int .u8 4), .lit (.int .u8 8), .lit (.int .u8 31), .lit (.int .u8 27), .lit (.int .u8 13), .lit (.int .u8 23), .lit (.int .u8 21), .lit (.int .u8 19), .lit (.int .u8 16), .lit (.int .u8 7), .lit (.int .u8 26), .lit (.int .u8 12), .lit (.int .u8 18), .lit (.int .u8 6), .lit (.int .u8 11), .lit (.int .u8 5), .lit (.int .u8 10), .lit (.int .u8 9)]
def laid_math_bits_deBruijn64tab {H : Type} : DataW H := .agg [.lit (.int .u8 0), .lit (.int .u8 1), .lit (.int .u8 56), .lit (.int .u8 2), .lit (.int .u8 57), .lit (.int .u8 49), .lit (.int .u8 28), .lit (.int .u8 3), .lit (.int .u8 61), .lit (.int .u8 58), .lit (.int .u8 42), .lit (.int .u8 50), .lit (.int .u8 38), .lit (.int .u8 29), .lit (.int .u8 17), .lit (.int .u8 4), .lit (.int .u8 62), .lit (.int .u8 47), .lit (.int .u8 59), .lit (.int .u8 36), .lit (.int .u8 45), .lit (.int .u8 43), .lit (.int .u8 51), .lit (.int .u8 22), .lit (.int .u8 53), .lit (.int .u8 39), .lit (.int .u8 33), .lit (.int .u8 30), .lit (.int .u8 24), .lit (.int .u8 18), .lit (.int .u8 12), .lit (.int .u8 5), .lit (.int .u8 63), .lit (.int .u8 55), .lit (.int .u8 48), .lit (.int .u8 27), .lit (.int .u8 60), .lit (.int .u8 41), .lit (.int .u8 37), .lit (.int .u8 16), .lit (.int .u8 46), .lit (.int .u8 35), .lit (.int .u8 44), .lit (.int .u8 21), .lit (.int .u8 52), .lit (.int .u8 32), .lit (.int .u8 23), .lit (.int .u8 11), .lit (.int .u8 54), .lit (.int .u8 26), .lit (.int .u8 40), .lit (.int .u8 15), .lit (.int .u8 34), .lit (.int .u8 20), .lit (.int .u8 31), .lit (.int .u8 10), .lit (.int .u8 25), .lit (.int .u8 14), .lit (.int .u8 19), .lit (.int .u8 9), .lit (.int .u8 13), .lit (.int .u8 8), .lit (.int .u8 7), .lit (.int .u8 6)]
def laid_internal_strconv_uint64pow10 {H : Type} : DataW H := .agg [.lit (.int .u64 1), .lit (.int .u64 10), .lit (.int .u64 100), .lit (.int .u64 1000), .lit (.int .u64 10000), .lit (.int .u64 100000), .lit (.int .u64 1000000), .lit (.int .u64 10000000), .lit (.int .u64 100000000), .lit (.int .u64 1000000000), .lit (.int .u64 10000000000), .lit (.int .u64 100000000000), .lit (.int .u64 1000000000000), .lit (.int .u64 10000000000000), .lit (.int .u64 100000000000000), .lit (.int .u64 1000000000000000), .lit (.int .u64 10000000000000000), .lit (.int .u64 100000000000000000), .lit (.int .u64 1000000000000000000), .lit (.int .u64 10000000000000000000)]
def laid_loop_example_turtlewalks_impl_deedWords {H : Type} : DataW H := .agg [.lit (.string [115, 116, 101, 112]), .lit (.string [100, 114, 111, 112]), .lit (.string [119, 97, 121]), .lit (.string [111, 110]), .lit (.string [102, 105, 114, 115, 116]), .lit (.string [98, 97, 99, 107])]

/-- 'laws.FnDeskDo': WHATEVER THE INPUT: true; the input reads as it did. -/
def fnDeskDoSpec : ChangeSpec := { name := "fnDeskDo", vars := ["loop.example/turtlewalks/impl.wayLetters", "loop.example/turtlewalks/impl.directions"], fn := fun _ => fun
  | [d, g1, g2] => { results := [.lit (.bool true)], args := [d], vars := [g1, g2] }
  | _ => none }
def fnDeskDoRow : OpenClaim := { program := "ytpkenccgjlhnlaadoor", sum := "bdbd28d226216a7a1d4b5bde20f12c853af20f6f8bfd0f3b0c64455e7a1da713", func := "loop.example/turtlewalks/laws.FnDeskDo", spec := "fnDeskDo", inPlace := ["internal/bytealg.IndexByteString"], unfollowed := true, recurses := true, named := ["loop.example/turtlewalks/impl.wayLetters", "loop.example/turtlewalks/impl.directions"], apart := false, laid := [("loop.example/turtlewalks/impl.wayLetters", laid_loop_example_turtlewalks_impl_wayLetters), ("loop.example/turtlewalks/impl.directions", laid_loop_example_turtlewalks_impl_directions)] }
def FnDeskDoSaid : Prop := fnDeskDoRow.holds Tryd.pinned (OpenSpec.ofChange fnDeskDoSpec)

/-- ITS FALSE NEIGHBOUR: 'it returns false'. Refute it at one input. -/
def fnDeskDoWrong : ChangeSpec := { name := "fnDeskDo", vars := ["loop.example/turtlewalks/impl.wayLetters", "loop.example/turtlewalks/impl.directions"], fn := fun _ => fun
  | [d, g1, g2] => { results := [.lit (.bool false)], args := [d], vars := [g1, g2] }
  | _ => none }
def FnDeskDoWrongFalsely : Prop := fnDeskDoRow.holds Tryd.pinned (OpenSpec.ofChange fnDeskDoWrong)

/-- 'laws.FnExactAllWays': WHATEVER THE INPUT: true; the input reads as it did. -/
def fnExactAllWaysSpec : ChangeSpec := { name := "fnExactAllWays", vars := ["loop.example/turtlewalks/impl.wayLetters"], fn := fun _ => fun
  | [d, g1] => { results := [.lit (.bool true)], args := [d], vars := [g1] }
  | _ => none }
def fnExactAllWaysRow : OpenClaim := { program := "ytpkenccgjlhnlaadoor", sum := "bdbd28d226216a7a1d4b5bde20f12c853af20f6f8bfd0f3b0c64455e7a1da713", func := "loop.example/turtlewalks/laws.FnExactAllWays", spec := "fnExactAllWays", inPlace := ["internal/bytealg.IndexByteString"], recurses := true, named := ["loop.example/turtlewalks/impl.wayLetters"], apart := false, laid := [("loop.example/turtlewalks/impl.wayLetters", laid_loop_example_turtlewalks_impl_wayLetters)] }
def FnExactAllWaysSaid : Prop := fnExactAllWaysRow.holds Tryd.pinned (OpenSpec.ofChange fnExactAllWaysSpec)

/-- ITS FALSE NEIGHBOUR: 'it returns false'. Refute it at one input. -/
def fnExactAllWaysWrong : ChangeSpec := { name := "fnExactAllWays", vars := ["loop.example/turtlewalks/impl.wayLetters"], fn := fun _ => fun
  | [d, g1] => { results := [.lit (.bool false)], args := [d], vars := [g1] }
  | _ => none }
def FnExactAllWaysWrongFalsely : Prop := fnExactAllWaysRow.holds Tryd.pinned (OpenSpec.ofChange fnExactAllWaysWrong)

/-- 'laws.FnDeskRun': WHATEVER THE INPUT: true; the input reads as it did. -/
def fnDeskRunSpec : ChangeSpec := { name := "fnDeskRun", vars := ["loop.example/turtlewalks/impl.wayLetters", "loop.example/turtlewalks/impl.directions"], fn := fun _ => fun
  | [d, g1, g2] => { results := [.lit (.bool true)], args := [d], vars := [g1, g2] }
  | _ => none }
def fnDeskRunRow : OpenClaim := { program := "ytpkenccgjlhnlaadoor", sum := "bdbd28d226216a7a1d4b5bde20f12c853af20f6f8bfd0f3b0c64455e7a1da713", func := "loop.example/turtlewalks/laws.FnDeskRun", spec := "fnDeskRun", inPlace := ["internal/bytealg.IndexByteString"], unfollowed := true, recurses := true, named := ["loop.example/turtlewalks/impl.wayLetters", "loop.example/turtlewalks/impl.directions"], apart := false, laid := [("loop.example/turtlewalks/impl.wayLetters", laid_loop_example_turtlewalks_impl_wayLetters), ("loop.example/turtlewalks/impl.directions", laid_loop_example_turtlewalks_impl_directions)] }
def FnDeskRunSaid : Prop := fnDeskRunRow.holds Tryd.pinned (OpenSpec.ofChange fnDeskRunSpec)

/-- ITS FALSE NEIGHBOUR: 'it returns false'. Refute it at one input. -/
def fnDeskRunWrong : ChangeSpec := { name := "fnDeskRun", vars := ["loop.example/turtlewalks/impl.wayLetters", "loop.example/turtlewalks/impl.directions"], fn := fun _ => fun
  | [d, g1, g2] => { results := [.lit (.bool false)], args := [d], vars := [g1, g2] }
  | _ => none }
def FnDeskRunWrongFalsely : Prop := fnDeskRunRow.holds Tryd.pinned (OpenSpec.ofChange fnDeskRunWrong)

/-- 'laws.FnAllWays': WHATEVER THE INPUT: true; the input reads as it did. -/
def fnAllWaysSpec : ChangeSpec := { name := "fnAllWays", vars := ["loop.example/turtlewalks/impl.wayLetters"], fn := fun _ => fun
  | [d, g1] => { results := [.lit (.bool true)], args := [d], vars := [g1] }
  | _ => none }
def fnAllWaysRow : OpenClaim := { program := "ytpkenccgjlhnlaadoor", sum := "bdbd28d226216a7a1d4b5bde20f12c853af20f6f8bfd0f3b0c64455e7a1da713", func := "loop.example/turtlewalks/laws.FnAllWays", spec := "fnAllWays", inPlace := ["internal/bytealg.IndexByteString"], recurses := true, named := ["loop.example/turtlewalks/impl.wayLetters"], apart := false, laid := [("loop.example/turtlewalks/impl.wayLetters", laid_loop_example_turtlewalks_impl_wayLetters)] }
def FnAllWaysSaid : Prop := fnAllWaysRow.holds Tryd.pinned (OpenSpec.ofChange fnAllWaysSpec)

/-- ITS FALSE NEIGHBOUR: 'it returns false'. Refute it at one input. -/
def fnAllWaysWrong : ChangeSpec := { name := "fnAllWays", vars := ["loop.example/turtlewalks/impl.wayLetters"], fn := fun _ => fun
  | [d, g1] => { results := [.lit (.bool false)], args := [d], vars := [g1] }
  | _ => none }
def FnAllWaysWrongFalsely : Prop := fnAllWaysRow.holds Tryd.pinned (OpenSpec.ofChange fnAllWaysWrong)

/-- 'laws.FnJournalText': WHATEVER THE INPUT: true; the input reads as it did. -/
def fnJournalTextSpec : ChangeSpec := { name := "fnJournalText", vars := ["loop.example/turtlewalks/impl.deedWords"], fn := fun _ => fun
  | [d, g1] => { results := [.lit (.bool true)], args := [d], vars := [g1] }
  | _ => none }
def fnJournalTextRow : OpenClaim := { program := "ytpkenccgjlhnlaadoor", sum := "bdbd28d226216a7a1d4b5bde20f12c853af20f6f8bfd0f3b0c64455e7a1da713", func := "loop.example/turtlewalks/laws.FnJournalText", spec := "fnJournalText", inPlace := ["internal/abi.NoEscape", "internal/bytealg.IndexByteString", "internal/bytealg.IndexString"], recurses := true, named := ["loop.example/turtlewalks/impl.deedWords", "internal/strconv.uint64pow10", "math/bits.deBruijn32tab", "math/bits.deBruijn64tab", "internal/bytealg.MaxLen"], apart := false, laid := [("math/bits.deBruijn32tab", laid_math_bits_deBruijn32tab), ("math/bits.deBruijn64tab", laid_math_bits_deBruijn64tab), ("internal/strconv.uint64pow10", laid_internal_strconv_uint64pow10), ("loop.example/turtlewalks/impl.deedWords", laid_loop_example_turtlewalks_impl_deedWords)] }
def FnJournalTextSaid : Prop := fnJournalTextRow.holds Tryd.pinned (OpenSpec.ofChange fnJournalTextSpec)

/-- ITS FALSE NEIGHBOUR: 'it returns false'. Refute it at one input. -/
def fnJournalTextWrong : ChangeSpec := { name := "fnJournalText", vars := ["loop.example/turtlewalks/impl.deedWords"], fn := fun _ => fun
  | [d, g1] => { results := [.lit (.bool false)], args := [d], vars := [g1] }
  | _ => none }
def FnJournalTextWrongFalsely : Prop := fnJournalTextRow.holds Tryd.pinned (OpenSpec.ofChange fnJournalTextWrong)

/- THE SECOND FORM. 'bulk': how many values and letters a reading holds, each counted each time it is reached (what is shared counts as often as it is met; a slice's spare places count too). A statement '..UptoSaid' is the law's where the arguments, and the package variables that the reading takes, are together of bulk at most 1048576: NARROWER than '..Said'. Prove '..Said' where nothing that the law and all that it calls make is longer than what came in: it says more and counts as full. Else prove '..UptoSaid'. A law counts once. -/
mutual
def uptoBulk {H : Type} : DataW H → Nat
  | .lit (.string bytes) => bytes.length + 1
  | .lit _ => 1
  | .nil => 1
  | .ptr d => uptoBulk d + 1
  | .slice elems spare => uptoBulkAll elems + uptoBulkAll spare + 1
  | .agg parts => uptoBulkAll parts + 1
  | .iface _ d => uptoBulk d + 1
  | .map entries => uptoBulkEntries entries + 1
  | .held _ => 1
def uptoBulkAll {H : Type} : List (DataW H) → Nat
  | [] => 0
  | d :: r => uptoBulk d + uptoBulkAll r
def uptoBulkEntries {H : Type} : List (Lit × DataW H) → Nat
  | [] => 0
  | x :: r => uptoBulkEntry x + uptoBulkEntries r
def uptoBulkEntry {H : Type} : Lit × DataW H → Nat
  | (.string bytes, d) => bytes.length + uptoBulk d + 1
  | (_, d) => uptoBulk d + 1
 end
def uptoSmall : (H : Type) → List (DataW H) → Bool := fun _ ds => decide (uptoBulkAll ds ≤ 1048576)
def OpenSpec.upto (s : _root_.Go.ChangeSpec) : _root_.Go.OpenSpec := { _root_.Go.OpenSpec.ofChange s with cond := some uptoSmall }

/-- 'laws.FnDeskDo', WHERE WHAT IT READS IS OF BULK AT MOST 1048576: true; the input reads as it did. -/
def fnDeskDoUptoRow : OpenClaim := { program := "ytpkenccgjlhnlaadoor", sum := "bdbd28d226216a7a1d4b5bde20f12c853af20f6f8bfd0f3b0c64455e7a1da713", func := "loop.example/turtlewalks/laws.FnDeskDo", spec := "fnDeskDo", inPlace := ["internal/bytealg.IndexByteString"], unfollowed := true, recurses := true, named := ["loop.example/turtlewalks/impl.wayLetters", "loop.example/turtlewalks/impl.directions"], apart := false, laid := [("loop.example/turtlewalks/impl.wayLetters", laid_loop_example_turtlewalks_impl_wayLetters), ("loop.example/turtlewalks/impl.directions", laid_loop_example_turtlewalks_impl_directions)], narrowed := true }
def FnDeskDoUptoSaid : Prop := fnDeskDoUptoRow.holds Tryd.pinned (OpenSpec.upto fnDeskDoSpec)

/-- 'laws.FnExactAllWays', WHERE WHAT IT READS IS OF BULK AT MOST 1048576: true; the input reads as it did. -/
def fnExactAllWaysUptoRow : OpenClaim := { program := "ytpkenccgjlhnlaadoor", sum := "bdbd28d226216a7a1d4b5bde20f12c853af20f6f8bfd0f3b0c64455e7a1da713", func := "loop.example/turtlewalks/laws.FnExactAllWays", spec := "fnExactAllWays", inPlace := ["internal/bytealg.IndexByteString"], recurses := true, named := ["loop.example/turtlewalks/impl.wayLetters"], apart := false, laid := [("loop.example/turtlewalks/impl.wayLetters", laid_loop_example_turtlewalks_impl_wayLetters)], narrowed := true }
def FnExactAllWaysUptoSaid : Prop := fnExactAllWaysUptoRow.holds Tryd.pinned (OpenSpec.upto fnExactAllWaysSpec)

/-- 'laws.FnDeskRun', WHERE WHAT IT READS IS OF BULK AT MOST 1048576: true; the input reads as it did. -/
def fnDeskRunUptoRow : OpenClaim := { program := "ytpkenccgjlhnlaadoor", sum := "bdbd28d226216a7a1d4b5bde20f12c853af20f6f8bfd0f3b0c64455e7a1da713", func := "loop.example/turtlewalks/laws.FnDeskRun", spec := "fnDeskRun", inPlace := ["internal/bytealg.IndexByteString"], unfollowed := true, recurses := true, named := ["loop.example/turtlewalks/impl.wayLetters", "loop.example/turtlewalks/impl.directions"], apart := false, laid := [("loop.example/turtlewalks/impl.wayLetters", laid_loop_example_turtlewalks_impl_wayLetters), ("loop.example/turtlewalks/impl.directions", laid_loop_example_turtlewalks_impl_directions)], narrowed := true }
def FnDeskRunUptoSaid : Prop := fnDeskRunUptoRow.holds Tryd.pinned (OpenSpec.upto fnDeskRunSpec)

/-- 'laws.FnAllWays', WHERE WHAT IT READS IS OF BULK AT MOST 1048576: true; the input reads as it did. -/
def fnAllWaysUptoRow : OpenClaim := { program := "ytpkenccgjlhnlaadoor", sum := "bdbd28d226216a7a1d4b5bde20f12c853af20f6f8bfd0f3b0c64455e7a1da713", func := "loop.example/turtlewalks/laws.FnAllWays", spec := "fnAllWays", inPlace := ["internal/bytealg.IndexByteString"], recurses := true, named := ["loop.example/turtlewalks/impl.wayLetters"], apart := false, laid := [("loop.example/turtlewalks/impl.wayLetters", laid_loop_example_turtlewalks_impl_wayLetters)], narrowed := true }
def FnAllWaysUptoSaid : Prop := fnAllWaysUptoRow.holds Tryd.pinned (OpenSpec.upto fnAllWaysSpec)

/-- 'laws.FnJournalText', WHERE WHAT IT READS IS OF BULK AT MOST 1048576: true; the input reads as it did. -/
def fnJournalTextUptoRow : OpenClaim := { program := "ytpkenccgjlhnlaadoor", sum := "bdbd28d226216a7a1d4b5bde20f12c853af20f6f8bfd0f3b0c64455e7a1da713", func := "loop.example/turtlewalks/laws.FnJournalText", spec := "fnJournalText", inPlace := ["internal/abi.NoEscape", "internal/bytealg.IndexByteString", "internal/bytealg.IndexString"], recurses := true, named := ["loop.example/turtlewalks/impl.deedWords", "internal/strconv.uint64pow10", "math/bits.deBruijn32tab", "math/bits.deBruijn64tab", "internal/bytealg.MaxLen"], apart := false, laid := [("math/bits.deBruijn32tab", laid_math_bits_deBruijn32tab), ("math/bits.deBruijn64tab", laid_math_bits_deBruijn64tab), ("internal/strconv.uint64pow10", laid_internal_strconv_uint64pow10), ("loop.example/turtlewalks/impl.deedWords", laid_loop_example_turtlewalks_impl_deedWords)], narrowed := true }
def FnJournalTextUptoSaid : Prop := fnJournalTextUptoRow.holds Tryd.pinned (OpenSpec.upto fnJournalTextSpec)

end Rows
end Go.Proofs.YtpkenccgjlhnlaaDoor
