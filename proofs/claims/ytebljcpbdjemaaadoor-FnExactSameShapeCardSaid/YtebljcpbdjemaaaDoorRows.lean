/-
  NARROWER THAN 'FOR EVERY INPUT', by the rows' own cells (each row's printed sentence says how): FnExactUnfoldedOf: laid · FnExactGoesOn: laid · FnExactCaughtOk: laid · FnExactFirstOf: laid · FnExactSameShape: laid.
  DERIVED. THE GIVEN ROWS OF THIS SEAT. 5 by the template 'for every input the law returns true; each argument reads behind the call as it read before'; 0 by the template 'total and deterministic' (their statements: YtebljcpbdjemaaaDoorTotals.lean).
  GIVEN WITH THE SEED: the statements are not yours to turn. If you find one false, say at which input.
  Laid BY PROGRAM, IN A SANDBOX (cutbox-rows.mjs): the forced cells as the released guide's own fill.sh prints them over the translation 9d8d95d8651357be… (all of the seat's roots in one cut). By AI agents, Wed Nov 11 2026. No macro, syntax, notation, axiom, sorry.
-/
import Derived.Test.YtebljcpbdjemaaaDoorChecked
import GoSem.Claim
import GoSem.ClaimJoined
import GoSem.ClaimMapViews
import Derived.JoinedTies
import Derived.KernelRfl
namespace Go.Proofs.YtebljcpbdjemaaaDoor
/- THE CELL 'sum', in the pinned program and in every row, IS THE sha256 OF THE DUMP (.gsa) THAT YtebljcpbdjemaaaDoorProg.lean LOADS. Nothing in Lean hashes anything: it is a label: what it is worth is what the hold of that sum in a sandbox is worth. -/
noncomputable def Tryd.pinned : Pinned := { name := "ytebljcpbdjemaaadoor", sum := "9d8d95d8651357bec15cf7eaf5f1892e624c87b20fc5cdbb3da6a7d5d9fbb2b8", checked := Tryd.checked }
namespace Rows
def none {H : Type} : Left H := { results := [], args := [] }

/- WHAT THE LISTED PACKAGE-LEVEL VARIABLES READ AS WHEN THE CALL BEGINS. Each datum BY PROGRAM (the guide's laid-datum.mjs) off the statement by which the dump's own 'gosem.cut.vars' lays the variable. In a bare row this is a premise. The card (YtebljcpbdjemaaaDoorCards.lean) ties it to the program's text. -/
def laid_loop_example_turtlewalks_impl_wayLetters {H : Type} : DataW H := .agg [.lit (.string [101, 110, 119, 115]), .lit (.string [110, 119, 115, 101]), .lit (.string [119, 115, 101, 110]), .lit (.string [115, 101, 110, 119]), .lit (.string [101, 115, 119, 110]), .lit (.string [110, 101, 115, 119]), .lit (.string [119, 110, 101, 115]), .lit (.string [115, 119, 110, 101])]
def laid_loop_example_turtlewalks_impl_directions {H : Type} : DataW H := .agg [.agg [.lit (.int .i64 1), .lit (.int .i64 0)], .agg [.lit (.int .i64 0), .lit (.int .i64 1)], .agg [.lit (.int .i64 (-1)), .lit (.int .i64 0)], .agg [.lit (.int .i64 0), .lit (.int .i64 (-1))]]

/-- 'laws.FnExactUnfoldedOf': WHATEVER THE INPUT: true; the input reads as it did. -/
def fnExactUnfoldedOfSpec : ChangeSpec := { name := "fnExactUnfoldedOf", vars := ["loop.example/turtlewalks/impl.directions", "loop.example/turtlewalks/impl.wayLetters"], fn := fun _ => fun
  | [d1, d2, d3, g1, g2] => { results := [.lit (.bool true)], args := [d1, d2, d3], vars := [g1, g2] }
  | _ => none }
def fnExactUnfoldedOfRow : OpenClaim := { program := "ytebljcpbdjemaaadoor", sum := "9d8d95d8651357bec15cf7eaf5f1892e624c87b20fc5cdbb3da6a7d5d9fbb2b8", func := "loop.example/turtlewalks/laws.FnExactUnfoldedOf", spec := "fnExactUnfoldedOf", inPlace := ["internal/bytealg.IndexByteString"], named := ["loop.example/turtlewalks/impl.directions", "loop.example/turtlewalks/impl.wayLetters"], plainKeys := false, apart := false, laid := [("loop.example/turtlewalks/impl.wayLetters", laid_loop_example_turtlewalks_impl_wayLetters), ("loop.example/turtlewalks/impl.directions", laid_loop_example_turtlewalks_impl_directions)] }
def FnExactUnfoldedOfSaid : Prop := fnExactUnfoldedOfRow.holds Tryd.pinned (OpenSpec.ofChange fnExactUnfoldedOfSpec)

/-- ITS FALSE NEIGHBOUR: 'it returns false'. Refute it at one input. -/
def fnExactUnfoldedOfWrong : ChangeSpec := { name := "fnExactUnfoldedOf", vars := ["loop.example/turtlewalks/impl.directions", "loop.example/turtlewalks/impl.wayLetters"], fn := fun _ => fun
  | [d1, d2, d3, g1, g2] => { results := [.lit (.bool false)], args := [d1, d2, d3], vars := [g1, g2] }
  | _ => none }
def FnExactUnfoldedOfWrongFalsely : Prop := fnExactUnfoldedOfRow.holds Tryd.pinned (OpenSpec.ofChange fnExactUnfoldedOfWrong)

/-- 'laws.FnExactGoesOn': WHATEVER THE INPUT: true; the input reads as it did. -/
def fnExactGoesOnSpec : ChangeSpec := { name := "fnExactGoesOn", vars := ["loop.example/turtlewalks/impl.directions"], fn := fun _ => fun
  | [d, g1] => { results := [.lit (.bool true)], args := [d], vars := [g1] }
  | _ => none }
def fnExactGoesOnRow : OpenClaim := { program := "ytebljcpbdjemaaadoor", sum := "9d8d95d8651357bec15cf7eaf5f1892e624c87b20fc5cdbb3da6a7d5d9fbb2b8", func := "loop.example/turtlewalks/laws.FnExactGoesOn", spec := "fnExactGoesOn", inPlace := ["internal/bytealg.IndexByteString", "internal/abi.NoEscape"], named := ["loop.example/turtlewalks/impl.directions"], plainKeys := false, apart := false, laid := [("loop.example/turtlewalks/impl.directions", laid_loop_example_turtlewalks_impl_directions)] }
def FnExactGoesOnSaid : Prop := fnExactGoesOnRow.holds Tryd.pinned (OpenSpec.ofChange fnExactGoesOnSpec)

/-- ITS FALSE NEIGHBOUR: 'it returns false'. Refute it at one input. -/
def fnExactGoesOnWrong : ChangeSpec := { name := "fnExactGoesOn", vars := ["loop.example/turtlewalks/impl.directions"], fn := fun _ => fun
  | [d, g1] => { results := [.lit (.bool false)], args := [d], vars := [g1] }
  | _ => none }
def FnExactGoesOnWrongFalsely : Prop := fnExactGoesOnRow.holds Tryd.pinned (OpenSpec.ofChange fnExactGoesOnWrong)

/-- 'laws.FnExactCaughtOk': WHATEVER THE INPUT: true; the input reads as it did. -/
def fnExactCaughtOkSpec : ChangeSpec := { name := "fnExactCaughtOk", vars := ["loop.example/turtlewalks/impl.directions"], fn := fun _ => fun
  | [d, g1] => { results := [.lit (.bool true)], args := [d], vars := [g1] }
  | _ => none }
def fnExactCaughtOkRow : OpenClaim := { program := "ytebljcpbdjemaaadoor", sum := "9d8d95d8651357bec15cf7eaf5f1892e624c87b20fc5cdbb3da6a7d5d9fbb2b8", func := "loop.example/turtlewalks/laws.FnExactCaughtOk", spec := "fnExactCaughtOk", inPlace := ["internal/bytealg.IndexByteString", "internal/abi.NoEscape"], named := ["loop.example/turtlewalks/impl.directions"], plainKeys := false, apart := false, laid := [("loop.example/turtlewalks/impl.directions", laid_loop_example_turtlewalks_impl_directions)] }
def FnExactCaughtOkSaid : Prop := fnExactCaughtOkRow.holds Tryd.pinned (OpenSpec.ofChange fnExactCaughtOkSpec)

/-- ITS FALSE NEIGHBOUR: 'it returns false'. Refute it at one input. -/
def fnExactCaughtOkWrong : ChangeSpec := { name := "fnExactCaughtOk", vars := ["loop.example/turtlewalks/impl.directions"], fn := fun _ => fun
  | [d, g1] => { results := [.lit (.bool false)], args := [d], vars := [g1] }
  | _ => none }
def FnExactCaughtOkWrongFalsely : Prop := fnExactCaughtOkRow.holds Tryd.pinned (OpenSpec.ofChange fnExactCaughtOkWrong)

/-- 'laws.FnExactFirstOf': WHATEVER THE INPUT: true; the input reads as it did. -/
def fnExactFirstOfSpec : ChangeSpec := { name := "fnExactFirstOf", vars := ["loop.example/turtlewalks/impl.directions", "loop.example/turtlewalks/impl.wayLetters"], fn := fun _ => fun
  | [d, g1, g2] => { results := [.lit (.bool true)], args := [d], vars := [g1, g2] }
  | _ => none }
def fnExactFirstOfRow : OpenClaim := { program := "ytebljcpbdjemaaadoor", sum := "9d8d95d8651357bec15cf7eaf5f1892e624c87b20fc5cdbb3da6a7d5d9fbb2b8", func := "loop.example/turtlewalks/laws.FnExactFirstOf", spec := "fnExactFirstOf", inPlace := ["internal/bytealg.IndexByteString"], unfollowed := true, recurses := true, named := ["loop.example/turtlewalks/impl.directions", "loop.example/turtlewalks/impl.wayLetters"], plainKeys := false, apart := false, laid := [("loop.example/turtlewalks/impl.wayLetters", laid_loop_example_turtlewalks_impl_wayLetters), ("loop.example/turtlewalks/impl.directions", laid_loop_example_turtlewalks_impl_directions)] }
def FnExactFirstOfSaid : Prop := fnExactFirstOfRow.holds Tryd.pinned (OpenSpec.ofChange fnExactFirstOfSpec)

/-- ITS FALSE NEIGHBOUR: 'it returns false'. Refute it at one input. -/
def fnExactFirstOfWrong : ChangeSpec := { name := "fnExactFirstOf", vars := ["loop.example/turtlewalks/impl.directions", "loop.example/turtlewalks/impl.wayLetters"], fn := fun _ => fun
  | [d, g1, g2] => { results := [.lit (.bool false)], args := [d], vars := [g1, g2] }
  | _ => none }
def FnExactFirstOfWrongFalsely : Prop := fnExactFirstOfRow.holds Tryd.pinned (OpenSpec.ofChange fnExactFirstOfWrong)

/-- 'laws.FnExactSameShape': WHATEVER THE INPUT: true; the input reads as it did. -/
def fnExactSameShapeSpec : ChangeSpec := { name := "fnExactSameShape", vars := ["loop.example/turtlewalks/impl.directions", "loop.example/turtlewalks/impl.wayLetters"], fn := fun _ => fun
  | [d1, d2, g1, g2] => { results := [.lit (.bool true)], args := [d1, d2], vars := [g1, g2] }
  | _ => none }
def fnExactSameShapeRow : OpenClaim := { program := "ytebljcpbdjemaaadoor", sum := "9d8d95d8651357bec15cf7eaf5f1892e624c87b20fc5cdbb3da6a7d5d9fbb2b8", func := "loop.example/turtlewalks/laws.FnExactSameShape", spec := "fnExactSameShape", inPlace := ["internal/bytealg.IndexByteString"], unfollowed := true, recurses := true, named := ["loop.example/turtlewalks/impl.directions", "loop.example/turtlewalks/impl.wayLetters"], plainKeys := false, apart := false, laid := [("loop.example/turtlewalks/impl.wayLetters", laid_loop_example_turtlewalks_impl_wayLetters), ("loop.example/turtlewalks/impl.directions", laid_loop_example_turtlewalks_impl_directions)] }
def FnExactSameShapeSaid : Prop := fnExactSameShapeRow.holds Tryd.pinned (OpenSpec.ofChange fnExactSameShapeSpec)

/-- ITS FALSE NEIGHBOUR: 'it returns false'. Refute it at one input. -/
def fnExactSameShapeWrong : ChangeSpec := { name := "fnExactSameShape", vars := ["loop.example/turtlewalks/impl.directions", "loop.example/turtlewalks/impl.wayLetters"], fn := fun _ => fun
  | [d1, d2, g1, g2] => { results := [.lit (.bool false)], args := [d1, d2], vars := [g1, g2] }
  | _ => none }
def FnExactSameShapeWrongFalsely : Prop := fnExactSameShapeRow.holds Tryd.pinned (OpenSpec.ofChange fnExactSameShapeWrong)

/- THE SECOND FORM. 'bulk': how many values and letters a reading holds, each counted each time it is reached (what is shared counts as often as it is met; a slice's spare places count too). A statement '..UptoSaid' is the law's where the arguments, and the package variables that the reading takes, are together of bulk at most 1048576: NARROWER than '..Said'. Prove '..Said' where nothing that the law and all that it calls make is longer than what came in: it says more and counts as full. Else prove '..UptoSaid'. A law counts once. -/
mutual
def uptoBulk {H : Type} : DataW H → Nat
  | .lit (.string bytes) => bytes.length + 1
  | .lit _ => 1
  | .nil => 1
  | .ptr d => uptoBulk d + 1
  | .slice elems spare => uptoBulkAll elems + uptoBulkAll spare + 1
  | .agg parts => uptoBulkAll parts + 1
  | .iface _ d => uptoBulk d + 1
  | .map entries => uptoBulkEntries entries + 1
  | .held _ => 1
def uptoBulkAll {H : Type} : List (DataW H) → Nat
  | [] => 0
  | d :: r => uptoBulk d + uptoBulkAll r
def uptoBulkEntries {H : Type} : List (Lit × DataW H) → Nat
  | [] => 0
  | x :: r => uptoBulkEntry x + uptoBulkEntries r
def uptoBulkEntry {H : Type} : Lit × DataW H → Nat
  | (.string bytes, d) => bytes.length + uptoBulk d + 1
  | (_, d) => uptoBulk d + 1
 end
def uptoSmall : (H : Type) → List (DataW H) → Bool := fun _ ds => decide (uptoBulkAll ds ≤ 1048576)
def OpenSpec.upto (s : _root_.Go.ChangeSpec) : _root_.Go.OpenSpec := { _root_.Go.OpenSpec.ofChange s with cond := some uptoSmall }

/-- 'laws.FnExactUnfoldedOf', WHERE WHAT IT READS IS OF BULK AT MOST 1048576: true; the input reads as it did. -/
def fnExactUnfoldedOfUptoRow : OpenClaim := { program := "ytebljcpbdjemaaadoor", sum := "9d8d95d8651357bec15cf7eaf5f1892e624c87b20fc5cdbb3da6a7d5d9fbb2b8", func := "loop.example/turtlewalks/laws.FnExactUnfoldedOf", spec := "fnExactUnfoldedOf", inPlace := ["internal/bytealg.IndexByteString"], named := ["loop.example/turtlewalks/impl.directions", "loop.example/turtlewalks/impl.wayLetters"], plainKeys := false, apart := false, laid := [("loop.example/turtlewalks/impl.wayLetters", laid_loop_example_turtlewalks_impl_wayLetters), ("loop.example/turtlewalks/impl.directions", laid_loop_example_turtlewalks_impl_directions)], narrowed := true }
def FnExactUnfoldedOfUptoSaid : Prop := fnExactUnfoldedOfUptoRow.holds Tryd.pinned (OpenSpec.upto fnExactUnfoldedOfSpec)

/-- 'laws.FnExactGoesOn', WHERE WHAT IT READS IS OF BULK AT MOST 1048576: true; the input reads as it did. -/
def fnExactGoesOnUptoRow : OpenClaim := { program := "ytebljcpbdjemaaadoor", sum := "9d8d95d8651357bec15cf7eaf5f1892e624c87b20fc5cdbb3da6a7d5d9fbb2b8", func := "loop.example/turtlewalks/laws.FnExactGoesOn", spec := "fnExactGoesOn", inPlace := ["internal/bytealg.IndexByteString", "internal/abi.NoEscape"], named := ["loop.example/turtlewalks/impl.directions"], plainKeys := false, apart := false, laid := [("loop.example/turtlewalks/impl.directions", laid_loop_example_turtlewalks_impl_directions)], narrowed := true }
def FnExactGoesOnUptoSaid : Prop := fnExactGoesOnUptoRow.holds Tryd.pinned (OpenSpec.upto fnExactGoesOnSpec)

/-- 'laws.FnExactCaughtOk', WHERE WHAT IT READS IS OF BULK AT MOST 1048576: true; the input reads as it did. -/
def fnExactCaughtOkUptoRow : OpenClaim := { program := "ytebljcpbdjemaaadoor", sum := "9d8d95d8651357bec15cf7eaf5f1892e624c87b20fc5cdbb3da6a7d5d9fbb2b8", func := "loop.example/turtlewalks/laws.FnExactCaughtOk", spec := "fnExactCaughtOk", inPlace := ["internal/bytealg.IndexByteString", "internal/abi.NoEscape"], named := ["loop.example/turtlewalks/impl.directions"], plainKeys := false, apart := false, laid := [("loop.example/turtlewalks/impl.directions", laid_loop_example_turtlewalks_impl_directions)], narrowed := true }
def FnExactCaughtOkUptoSaid : Prop := fnExactCaughtOkUptoRow.holds Tryd.pinned (OpenSpec.upto fnExactCaughtOkSpec)

/-- 'laws.FnExactFirstOf', WHERE WHAT IT READS IS OF BULK AT MOST 1048576: true; the input reads as it did. -/
def fnExactFirstOfUptoRow : OpenClaim := { program := "ytebljcpbdjemaaadoor", sum := "9d8d95d8651357bec15cf7eaf5f1892e624c87b20fc5cdbb3da6a7d5d9fbb2b8", func := "loop.example/turtlewalks/laws.FnExactFirstOf", spec := "fnExactFirstOf", inPlace := ["internal/bytealg.IndexByteString"], unfollowed := true, recurses := true, named := ["loop.example/turtlewalks/impl.directions", "loop.example/turtlewalks/impl.wayLetters"], plainKeys := false, apart := false, laid := [("loop.example/turtlewalks/impl.wayLetters", laid_loop_example_turtlewalks_impl_wayLetters), ("loop.example/turtlewalks/impl.directions", laid_loop_example_turtlewalks_impl_directions)], narrowed := true }
def FnExactFirstOfUptoSaid : Prop := fnExactFirstOfUptoRow.holds Tryd.pinned (OpenSpec.upto fnExactFirstOfSpec)

/-- 'laws.FnExactSameShape', WHERE WHAT IT READS IS OF BULK AT MOST 1048576: true; the input reads as it did. -/
def fnExactSameShapeUptoRow : OpenClaim := { program := "ytebljcpbdjemaaadoor", sum := "9d8d95d8651357bec15cf7eaf5f1892e624c87b20fc5cdbb3da6a7d5d9fbb2b8", func := "loop.example/turtlewalks/laws.FnExactSameShape", spec := "fnExactSameShape", inPlace := ["internal/bytealg.IndexByteString"], unfollowed := true, recurses := true, named := ["loop.example/turtlewalks/impl.directions", "loop.example/turtlewalks/impl.wayLetters"], plainKeys := false, apart := false, laid := [("loop.example/turtlewalks/impl.wayLetters", laid_loop_example_turtlewalks_impl_wayLetters), ("loop.example/turtlewalks/impl.directions", laid_loop_example_turtlewalks_impl_directions)], narrowed := true }
def FnExactSameShapeUptoSaid : Prop := fnExactSameShapeUptoRow.holds Tryd.pinned (OpenSpec.upto fnExactSameShapeSpec)

end Rows
end Go.Proofs.YtebljcpbdjemaaaDoor
