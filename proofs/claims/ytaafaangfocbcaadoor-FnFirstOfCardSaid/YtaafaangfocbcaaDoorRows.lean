/-
  NARROWER THAN 'FOR EVERY INPUT', by the rows' own cells (each row's printed sentence says how): FnAvoidsOk: laid · FnGoesOn: laid · FnUnfoldedOf: laid · FnCaughtOk: laid · FnWaysSame: laid · FnInWay: laid · FnFirstOf: laid · FnSameShape: laid.
  DERIVED. THE GIVEN ROWS OF THIS SEAT. 8 by the template 'for every input the law returns true; each argument reads behind the call as it read before'; 0 by the template 'total and deterministic' (their statements: YtaafaangfocbcaaDoorTotals.lean).
  GIVEN WITH THE SEED: the statements are not yours to turn. If you find one false, say at which input.
  Laid BY PROGRAM, IN A SANDBOX (cutbox-rows.mjs): the forced cells as the released guide's own fill.sh prints them over the translation 9fe8be1d1055013e… (all of the seat's roots in one cut). By AI agents, Wed Nov 11 2026. No macro, syntax, notation, axiom, sorry.
-/
import Derived.Test.YtaafaangfocbcaaDoorChecked
import GoSem.Claim
import GoSem.ClaimJoined
import GoSem.ClaimMapViews
import Derived.JoinedTies
import Derived.KernelRfl
namespace Go.Proofs.YtaafaangfocbcaaDoor
/- THE CELL 'sum', in the pinned program and in every row, IS THE sha256 OF THE DUMP (.gsa) THAT YtaafaangfocbcaaDoorProg.lean LOADS. Nothing in Lean hashes anything: it is a label: what it is worth is what the hold of that sum in a sandbox is worth. -/
noncomputable def Tryd.pinned : Pinned := { name := "ytaafaangfocbcaadoor", sum := "9fe8be1d1055013ea7aa013b5463cfb1922575e77e56b5650aa52930977c1ef6", checked := Tryd.checked }
namespace Rows
def none {H : Type} : Left H := { results := [], args := [] }

/- WHAT THE LISTED PACKAGE-LEVEL VARIABLES READ AS WHEN THE CALL BEGINS. Each datum BY PROGRAM (the guide's laid-datum.mjs) off the statement by which the dump's own 'gosem.cut.vars' lays the variable. In a bare row this is a premise. The card (YtaafaangfocbcaaDoorCards.lean) ties it to the program's text. -/
def laid_loop_example_turtlewalks_impl_directions {H : Type} : DataW H := .agg [.agg [.lit (.int .i64 1), .lit (.int .i64 0)], .agg [.lit (.int .i64 0), .lit (.int .i64 1)], .agg [.lit (.int .i64 (-1)), .lit (.int .i64 0)], .agg [.lit (.int .i64 0), .lit (.int .i64 (-1))]]
def laid_loop_example_turtlewalks_impl_wayLetters {H : Type} : DataW H := .agg [.lit (.string [101, 110, 119, 115]), .lit (.string [110, 119, 115, 101]), .lit (.string [119, 115, 101, 110]), .lit (.string [115, 101, 110, 119]), .lit (.string [101, 115, 119, 110]), .lit (.string [110, 101, 115, 119]), .lit (.string [119, 110, 101, 115]), .lit (.string [115, 119, 110, 101])]

/-- 'laws.FnAvoidsOk': WHATEVER THE INPUT: true; the input reads as it did. -/
def fnAvoidsOkSpec : ChangeSpec := { name := "fnAvoidsOk", vars := ["loop.example/turtlewalks/impl.directions"], fn := fun _ => fun
  | [d, g1] => { results := [.lit (.bool true)], args := [d], vars := [g1] }
  | _ => none }
def fnAvoidsOkRow : OpenClaim := { program := "ytaafaangfocbcaadoor", sum := "9fe8be1d1055013ea7aa013b5463cfb1922575e77e56b5650aa52930977c1ef6", func := "loop.example/turtlewalks/laws.FnAvoidsOk", spec := "fnAvoidsOk", inPlace := ["internal/bytealg.IndexByteString"], named := ["loop.example/turtlewalks/impl.directions"], plainKeys := false, apart := false, laid := [("loop.example/turtlewalks/impl.directions", laid_loop_example_turtlewalks_impl_directions)] }
def FnAvoidsOkSaid : Prop := fnAvoidsOkRow.holds Tryd.pinned (OpenSpec.ofChange fnAvoidsOkSpec)

/-- ITS FALSE NEIGHBOUR: 'it returns false'. Refute it at one input. -/
def fnAvoidsOkWrong : ChangeSpec := { name := "fnAvoidsOk", vars := ["loop.example/turtlewalks/impl.directions"], fn := fun _ => fun
  | [d, g1] => { results := [.lit (.bool false)], args := [d], vars := [g1] }
  | _ => none }
def FnAvoidsOkWrongFalsely : Prop := fnAvoidsOkRow.holds Tryd.pinned (OpenSpec.ofChange fnAvoidsOkWrong)

/-- 'laws.FnGoesOn': WHATEVER THE INPUT: true; the input reads as it did. -/
def fnGoesOnSpec : ChangeSpec := { name := "fnGoesOn", vars := ["loop.example/turtlewalks/impl.directions"], fn := fun _ => fun
  | [d, g1] => { results := [.lit (.bool true)], args := [d], vars := [g1] }
  | _ => none }
def fnGoesOnRow : OpenClaim := { program := "ytaafaangfocbcaadoor", sum := "9fe8be1d1055013ea7aa013b5463cfb1922575e77e56b5650aa52930977c1ef6", func := "loop.example/turtlewalks/laws.FnGoesOn", spec := "fnGoesOn", inPlace := ["internal/bytealg.IndexByteString", "internal/abi.NoEscape"], named := ["loop.example/turtlewalks/impl.directions"], plainKeys := false, apart := false, laid := [("loop.example/turtlewalks/impl.directions", laid_loop_example_turtlewalks_impl_directions)] }
def FnGoesOnSaid : Prop := fnGoesOnRow.holds Tryd.pinned (OpenSpec.ofChange fnGoesOnSpec)

/-- ITS FALSE NEIGHBOUR: 'it returns false'. Refute it at one input. -/
def fnGoesOnWrong : ChangeSpec := { name := "fnGoesOn", vars := ["loop.example/turtlewalks/impl.directions"], fn := fun _ => fun
  | [d, g1] => { results := [.lit (.bool false)], args := [d], vars := [g1] }
  | _ => none }
def FnGoesOnWrongFalsely : Prop := fnGoesOnRow.holds Tryd.pinned (OpenSpec.ofChange fnGoesOnWrong)

/-- 'laws.FnUnfoldedOf': WHATEVER THE INPUT: true; the input reads as it did. -/
def fnUnfoldedOfSpec : ChangeSpec := { name := "fnUnfoldedOf", vars := ["loop.example/turtlewalks/impl.directions", "loop.example/turtlewalks/impl.wayLetters"], fn := fun _ => fun
  | [d, g1, g2] => { results := [.lit (.bool true)], args := [d], vars := [g1, g2] }
  | _ => none }
def fnUnfoldedOfRow : OpenClaim := { program := "ytaafaangfocbcaadoor", sum := "9fe8be1d1055013ea7aa013b5463cfb1922575e77e56b5650aa52930977c1ef6", func := "loop.example/turtlewalks/laws.FnUnfoldedOf", spec := "fnUnfoldedOf", inPlace := ["internal/bytealg.IndexByteString"], named := ["loop.example/turtlewalks/impl.directions", "loop.example/turtlewalks/impl.wayLetters"], plainKeys := false, apart := false, laid := [("loop.example/turtlewalks/impl.wayLetters", laid_loop_example_turtlewalks_impl_wayLetters), ("loop.example/turtlewalks/impl.directions", laid_loop_example_turtlewalks_impl_directions)] }
def FnUnfoldedOfSaid : Prop := fnUnfoldedOfRow.holds Tryd.pinned (OpenSpec.ofChange fnUnfoldedOfSpec)

/-- ITS FALSE NEIGHBOUR: 'it returns false'. Refute it at one input. -/
def fnUnfoldedOfWrong : ChangeSpec := { name := "fnUnfoldedOf", vars := ["loop.example/turtlewalks/impl.directions", "loop.example/turtlewalks/impl.wayLetters"], fn := fun _ => fun
  | [d, g1, g2] => { results := [.lit (.bool false)], args := [d], vars := [g1, g2] }
  | _ => none }
def FnUnfoldedOfWrongFalsely : Prop := fnUnfoldedOfRow.holds Tryd.pinned (OpenSpec.ofChange fnUnfoldedOfWrong)

/-- 'laws.FnCaughtOk': WHATEVER THE INPUT: true; the input reads as it did. -/
def fnCaughtOkSpec : ChangeSpec := { name := "fnCaughtOk", vars := ["loop.example/turtlewalks/impl.directions"], fn := fun _ => fun
  | [d, g1] => { results := [.lit (.bool true)], args := [d], vars := [g1] }
  | _ => none }
def fnCaughtOkRow : OpenClaim := { program := "ytaafaangfocbcaadoor", sum := "9fe8be1d1055013ea7aa013b5463cfb1922575e77e56b5650aa52930977c1ef6", func := "loop.example/turtlewalks/laws.FnCaughtOk", spec := "fnCaughtOk", inPlace := ["internal/bytealg.IndexByteString", "internal/abi.NoEscape"], named := ["loop.example/turtlewalks/impl.directions"], plainKeys := false, apart := false, laid := [("loop.example/turtlewalks/impl.directions", laid_loop_example_turtlewalks_impl_directions)] }
def FnCaughtOkSaid : Prop := fnCaughtOkRow.holds Tryd.pinned (OpenSpec.ofChange fnCaughtOkSpec)

/-- ITS FALSE NEIGHBOUR: 'it returns false'. Refute it at one input. -/
def fnCaughtOkWrong : ChangeSpec := { name := "fnCaughtOk", vars := ["loop.example/turtlewalks/impl.directions"], fn := fun _ => fun
  | [d, g1] => { results := [.lit (.bool false)], args := [d], vars := [g1] }
  | _ => none }
def FnCaughtOkWrongFalsely : Prop := fnCaughtOkRow.holds Tryd.pinned (OpenSpec.ofChange fnCaughtOkWrong)

/-- 'laws.FnWaysSame': WHATEVER THE INPUT: true; the input reads as it did. -/
def fnWaysSameSpec : ChangeSpec := { name := "fnWaysSame", vars := ["loop.example/turtlewalks/impl.wayLetters"], fn := fun _ => fun
  | [d, g1] => { results := [.lit (.bool true)], args := [d], vars := [g1] }
  | _ => none }
def fnWaysSameRow : OpenClaim := { program := "ytaafaangfocbcaadoor", sum := "9fe8be1d1055013ea7aa013b5463cfb1922575e77e56b5650aa52930977c1ef6", func := "loop.example/turtlewalks/laws.FnWaysSame", spec := "fnWaysSame", inPlace := ["internal/bytealg.IndexByteString"], named := ["loop.example/turtlewalks/impl.wayLetters"], plainKeys := false, apart := false, laid := [("loop.example/turtlewalks/impl.wayLetters", laid_loop_example_turtlewalks_impl_wayLetters)] }
def FnWaysSameSaid : Prop := fnWaysSameRow.holds Tryd.pinned (OpenSpec.ofChange fnWaysSameSpec)

/-- ITS FALSE NEIGHBOUR: 'it returns false'. Refute it at one input. -/
def fnWaysSameWrong : ChangeSpec := { name := "fnWaysSame", vars := ["loop.example/turtlewalks/impl.wayLetters"], fn := fun _ => fun
  | [d, g1] => { results := [.lit (.bool false)], args := [d], vars := [g1] }
  | _ => none }
def FnWaysSameWrongFalsely : Prop := fnWaysSameRow.holds Tryd.pinned (OpenSpec.ofChange fnWaysSameWrong)

/-- 'laws.FnInWay': WHATEVER THE INPUT: true; the input reads as it did. -/
def fnInWaySpec : ChangeSpec := { name := "fnInWay", vars := ["loop.example/turtlewalks/impl.wayLetters", "loop.example/turtlewalks/impl.directions"], fn := fun _ => fun
  | [d, g1, g2] => { results := [.lit (.bool true)], args := [d], vars := [g1, g2] }
  | _ => none }
def fnInWayRow : OpenClaim := { program := "ytaafaangfocbcaadoor", sum := "9fe8be1d1055013ea7aa013b5463cfb1922575e77e56b5650aa52930977c1ef6", func := "loop.example/turtlewalks/laws.FnInWay", spec := "fnInWay", inPlace := ["internal/bytealg.IndexByteString"], named := ["loop.example/turtlewalks/impl.wayLetters", "loop.example/turtlewalks/impl.directions"], plainKeys := false, apart := false, laid := [("loop.example/turtlewalks/impl.wayLetters", laid_loop_example_turtlewalks_impl_wayLetters), ("loop.example/turtlewalks/impl.directions", laid_loop_example_turtlewalks_impl_directions)] }
def FnInWaySaid : Prop := fnInWayRow.holds Tryd.pinned (OpenSpec.ofChange fnInWaySpec)

/-- ITS FALSE NEIGHBOUR: 'it returns false'. Refute it at one input. -/
def fnInWayWrong : ChangeSpec := { name := "fnInWay", vars := ["loop.example/turtlewalks/impl.wayLetters", "loop.example/turtlewalks/impl.directions"], fn := fun _ => fun
  | [d, g1, g2] => { results := [.lit (.bool false)], args := [d], vars := [g1, g2] }
  | _ => none }
def FnInWayWrongFalsely : Prop := fnInWayRow.holds Tryd.pinned (OpenSpec.ofChange fnInWayWrong)

/-- 'laws.FnFirstOf': WHATEVER THE INPUT: true; the input reads as it did. -/
def fnFirstOfSpec : ChangeSpec := { name := "fnFirstOf", vars := ["loop.example/turtlewalks/impl.directions", "loop.example/turtlewalks/impl.wayLetters"], fn := fun _ => fun
  | [d, g1, g2] => { results := [.lit (.bool true)], args := [d], vars := [g1, g2] }
  | _ => none }
def fnFirstOfRow : OpenClaim := { program := "ytaafaangfocbcaadoor", sum := "9fe8be1d1055013ea7aa013b5463cfb1922575e77e56b5650aa52930977c1ef6", func := "loop.example/turtlewalks/laws.FnFirstOf", spec := "fnFirstOf", inPlace := ["internal/bytealg.IndexByteString"], unfollowed := true, recurses := true, named := ["loop.example/turtlewalks/impl.directions", "loop.example/turtlewalks/impl.wayLetters"], plainKeys := false, apart := false, laid := [("loop.example/turtlewalks/impl.wayLetters", laid_loop_example_turtlewalks_impl_wayLetters), ("loop.example/turtlewalks/impl.directions", laid_loop_example_turtlewalks_impl_directions)] }
def FnFirstOfSaid : Prop := fnFirstOfRow.holds Tryd.pinned (OpenSpec.ofChange fnFirstOfSpec)

/-- ITS FALSE NEIGHBOUR: 'it returns false'. Refute it at one input. -/
def fnFirstOfWrong : ChangeSpec := { name := "fnFirstOf", vars := ["loop.example/turtlewalks/impl.directions", "loop.example/turtlewalks/impl.wayLetters"], fn := fun _ => fun
  | [d, g1, g2] => { results := [.lit (.bool false)], args := [d], vars := [g1, g2] }
  | _ => none }
def FnFirstOfWrongFalsely : Prop := fnFirstOfRow.holds Tryd.pinned (OpenSpec.ofChange fnFirstOfWrong)

/-- 'laws.FnSameShape': WHATEVER THE INPUT: true; the input reads as it did. -/
def fnSameShapeSpec : ChangeSpec := { name := "fnSameShape", vars := ["loop.example/turtlewalks/impl.directions", "loop.example/turtlewalks/impl.wayLetters"], fn := fun _ => fun
  | [d, g1, g2] => { results := [.lit (.bool true)], args := [d], vars := [g1, g2] }
  | _ => none }
def fnSameShapeRow : OpenClaim := { program := "ytaafaangfocbcaadoor", sum := "9fe8be1d1055013ea7aa013b5463cfb1922575e77e56b5650aa52930977c1ef6", func := "loop.example/turtlewalks/laws.FnSameShape", spec := "fnSameShape", inPlace := ["internal/bytealg.IndexByteString"], unfollowed := true, recurses := true, named := ["loop.example/turtlewalks/impl.directions", "loop.example/turtlewalks/impl.wayLetters"], plainKeys := false, apart := false, laid := [("loop.example/turtlewalks/impl.wayLetters", laid_loop_example_turtlewalks_impl_wayLetters), ("loop.example/turtlewalks/impl.directions", laid_loop_example_turtlewalks_impl_directions)] }
def FnSameShapeSaid : Prop := fnSameShapeRow.holds Tryd.pinned (OpenSpec.ofChange fnSameShapeSpec)

/-- ITS FALSE NEIGHBOUR: 'it returns false'. Refute it at one input. -/
def fnSameShapeWrong : ChangeSpec := { name := "fnSameShape", vars := ["loop.example/turtlewalks/impl.directions", "loop.example/turtlewalks/impl.wayLetters"], fn := fun _ => fun
  | [d, g1, g2] => { results := [.lit (.bool false)], args := [d], vars := [g1, g2] }
  | _ => none }
def FnSameShapeWrongFalsely : Prop := fnSameShapeRow.holds Tryd.pinned (OpenSpec.ofChange fnSameShapeWrong)

/- THE SECOND FORM. 'bulk': how many values and letters a reading holds, each counted each time it is reached (what is shared counts as often as it is met; a slice's spare places count too). A statement '..UptoSaid' is the law's where the arguments, and the package variables that the reading takes, are together of bulk at most 1048576: NARROWER than '..Said'. Prove '..Said' where nothing that the law and all that it calls make is longer than what came in: it says more and counts as full. Else prove '..UptoSaid'. A law counts once. -/
mutual
def uptoBulk {H : Type} : DataW H → Nat
  | .lit (.string bytes) => bytes.length + 1
  | .lit _ => 1
  | .nil => 1
  | .ptr d => uptoBulk d + 1
  | .slice elems spare => uptoBulkAll elems + uptoBulkAll spare + 1
  | .agg parts => uptoBulkAll parts + 1
  | .iface _ d => uptoBulk d + 1
  | .map entries => uptoBulkEntries entries + 1
  | .held _ => 1
def uptoBulkAll {H : Type} : List (DataW H) → Nat
  | [] => 0
  | d :: r => uptoBulk d + uptoBulkAll r
def uptoBulkEntries {H : Type} : List (Lit × DataW H) → Nat
  | [] => 0
  | x :: r => uptoBulkEntry x + uptoBulkEntries r
def uptoBulkEntry {H : Type} : Lit × DataW H → Nat
  | (.string bytes, d) => bytes.length + uptoBulk d + 1
  | (_, d) => uptoBulk d + 1
 end
def uptoSmall : (H : Type) → List (DataW H) → Bool := fun _ ds => decide (uptoBulkAll ds ≤ 1048576)
def OpenSpec.upto (s : _root_.Go.ChangeSpec) : _root_.Go.OpenSpec := { _root_.Go.OpenSpec.ofChange s with cond := some uptoSmall }

/-- 'laws.FnAvoidsOk', WHERE WHAT IT READS IS OF BULK AT MOST 1048576: true; the input reads as it did. -/
def fnAvoidsOkUptoRow : OpenClaim := { program := "ytaafaangfocbcaadoor", sum := "9fe8be1d1055013ea7aa013b5463cfb1922575e77e56b5650aa52930977c1ef6", func := "loop.example/turtlewalks/laws.FnAvoidsOk", spec := "fnAvoidsOk", inPlace := ["internal/bytealg.IndexByteString"], named := ["loop.example/turtlewalks/impl.directions"], plainKeys := false, apart := false, laid := [("loop.example/turtlewalks/impl.directions", laid_loop_example_turtlewalks_impl_directions)], narrowed := true }
def FnAvoidsOkUptoSaid : Prop := fnAvoidsOkUptoRow.holds Tryd.pinned (OpenSpec.upto fnAvoidsOkSpec)

/-- 'laws.FnGoesOn', WHERE WHAT IT READS IS OF BULK AT MOST 1048576: true; the input reads as it did. -/
def fnGoesOnUptoRow : OpenClaim := { program := "ytaafaangfocbcaadoor", sum := "9fe8be1d1055013ea7aa013b5463cfb1922575e77e56b5650aa52930977c1ef6", func := "loop.example/turtlewalks/laws.FnGoesOn", spec := "fnGoesOn", inPlace := ["internal/bytealg.IndexByteString", "internal/abi.NoEscape"], named := ["loop.example/turtlewalks/impl.directions"], plainKeys := false, apart := false, laid := [("loop.example/turtlewalks/impl.directions", laid_loop_example_turtlewalks_impl_directions)], narrowed := true }
def FnGoesOnUptoSaid : Prop := fnGoesOnUptoRow.holds Tryd.pinned (OpenSpec.upto fnGoesOnSpec)

/-- 'laws.FnUnfoldedOf', WHERE WHAT IT READS IS OF BULK AT MOST 1048576: true; the input reads as it did. -/
def fnUnfoldedOfUptoRow : OpenClaim := { program := "ytaafaangfocbcaadoor", sum := "9fe8be1d1055013ea7aa013b5463cfb1922575e77e56b5650aa52930977c1ef6", func := "loop.example/turtlewalks/laws.FnUnfoldedOf", spec := "fnUnfoldedOf", inPlace := ["internal/bytealg.IndexByteString"], named := ["loop.example/turtlewalks/impl.directions", "loop.example/turtlewalks/impl.wayLetters"], plainKeys := false, apart := false, laid := [("loop.example/turtlewalks/impl.wayLetters", laid_loop_example_turtlewalks_impl_wayLetters), ("loop.example/turtlewalks/impl.directions", laid_loop_example_turtlewalks_impl_directions)], narrowed := true }
def FnUnfoldedOfUptoSaid : Prop := fnUnfoldedOfUptoRow.holds Tryd.pinned (OpenSpec.upto fnUnfoldedOfSpec)

/-- 'laws.FnCaughtOk', WHERE WHAT IT READS IS OF BULK AT MOST 1048576: true; the input reads as it did. -/
def fnCaughtOkUptoRow : OpenClaim := { program := "ytaafaangfocbcaadoor", sum := "9fe8be1d1055013ea7aa013b5463cfb1922575e77e56b5650aa52930977c1ef6", func := "loop.example/turtlewalks/laws.FnCaughtOk", spec := "fnCaughtOk", inPlace := ["internal/bytealg.IndexByteString", "internal/abi.NoEscape"], named := ["loop.example/turtlewalks/impl.directions"], plainKeys := false, apart := false, laid := [("loop.example/turtlewalks/impl.directions", laid_loop_example_turtlewalks_impl_directions)], narrowed := true }
def FnCaughtOkUptoSaid : Prop := fnCaughtOkUptoRow.holds Tryd.pinned (OpenSpec.upto fnCaughtOkSpec)

/-- 'laws.FnWaysSame', WHERE WHAT IT READS IS OF BULK AT MOST 1048576: true; the input reads as it did. -/
def fnWaysSameUptoRow : OpenClaim := { program := "ytaafaangfocbcaadoor", sum := "9fe8be1d1055013ea7aa013b5463cfb1922575e77e56b5650aa52930977c1ef6", func := "loop.example/turtlewalks/laws.FnWaysSame", spec := "fnWaysSame", inPlace := ["internal/bytealg.IndexByteString"], named := ["loop.example/turtlewalks/impl.wayLetters"], plainKeys := false, apart := false, laid := [("loop.example/turtlewalks/impl.wayLetters", laid_loop_example_turtlewalks_impl_wayLetters)], narrowed := true }
def FnWaysSameUptoSaid : Prop := fnWaysSameUptoRow.holds Tryd.pinned (OpenSpec.upto fnWaysSameSpec)

/-- 'laws.FnInWay', WHERE WHAT IT READS IS OF BULK AT MOST 1048576: true; the input reads as it did. -/
def fnInWayUptoRow : OpenClaim := { program := "ytaafaangfocbcaadoor", sum := "9fe8be1d1055013ea7aa013b5463cfb1922575e77e56b5650aa52930977c1ef6", func := "loop.example/turtlewalks/laws.FnInWay", spec := "fnInWay", inPlace := ["internal/bytealg.IndexByteString"], named := ["loop.example/turtlewalks/impl.wayLetters", "loop.example/turtlewalks/impl.directions"], plainKeys := false, apart := false, laid := [("loop.example/turtlewalks/impl.wayLetters", laid_loop_example_turtlewalks_impl_wayLetters), ("loop.example/turtlewalks/impl.directions", laid_loop_example_turtlewalks_impl_directions)], narrowed := true }
def FnInWayUptoSaid : Prop := fnInWayUptoRow.holds Tryd.pinned (OpenSpec.upto fnInWaySpec)

/-- 'laws.FnFirstOf', WHERE WHAT IT READS IS OF BULK AT MOST 1048576: true; the input reads as it did. -/
def fnFirstOfUptoRow : OpenClaim := { program := "ytaafaangfocbcaadoor", sum := "9fe8be1d1055013ea7aa013b5463cfb1922575e77e56b5650aa52930977c1ef6", func := "loop.example/turtlewalks/laws.FnFirstOf", spec := "fnFirstOf", inPlace := ["internal/bytealg.IndexByteString"], unfollowed := true, recurses := true, named := ["loop.example/turtlewalks/impl.directions", "loop.example/turtlewalks/impl.wayLetters"], plainKeys := false, apart := false, laid := [("loop.example/turtlewalks/impl.wayLetters", laid_loop_example_turtlewalks_impl_wayLetters), ("loop.example/turtlewalks/impl.directions", laid_loop_example_turtlewalks_impl_directions)], narrowed := true }
def FnFirstOfUptoSaid : Prop := fnFirstOfUptoRow.holds Tryd.pinned (OpenSpec.upto fnFirstOfSpec)

/-- 'laws.FnSameShape', WHERE WHAT IT READS IS OF BULK AT MOST 1048576: true; the input reads as it did. -/
def fnSameShapeUptoRow : OpenClaim := { program := "ytaafaangfocbcaadoor", sum := "9fe8be1d1055013ea7aa013b5463cfb1922575e77e56b5650aa52930977c1ef6", func := "loop.example/turtlewalks/laws.FnSameShape", spec := "fnSameShape", inPlace := ["internal/bytealg.IndexByteString"], unfollowed := true, recurses := true, named := ["loop.example/turtlewalks/impl.directions", "loop.example/turtlewalks/impl.wayLetters"], plainKeys := false, apart := false, laid := [("loop.example/turtlewalks/impl.wayLetters", laid_loop_example_turtlewalks_impl_wayLetters), ("loop.example/turtlewalks/impl.directions", laid_loop_example_turtlewalks_impl_directions)], narrowed := true }
def FnSameShapeUptoSaid : Prop := fnSameShapeUptoRow.holds Tryd.pinned (OpenSpec.upto fnSameShapeSpec)

end Rows
end Go.Proofs.YtaafaangfocbcaaDoor
