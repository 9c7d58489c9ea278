/-
  NARROWER THAN 'FOR EVERY INPUT', by the rows' own cells (each row's printed sentence says how): FnExactCountOf: laid · FnExactWalksOf: laid · FnCountOf: laid · FnWalksOf: laid · FnAllWays: laid.
  DERIVED. THE GIVEN ROWS OF THIS SEAT. 5 by the template 'for every input the law returns true; each argument reads behind the call as it read before'; 0 by the template 'total and deterministic' (their statements: YtjcagkpolfacpaaDoorTotals.lean).
  GIVEN WITH THE SEED: the statements are not yours to turn. If you find one false, say at which input.
  Laid BY PROGRAM, IN A SANDBOX (cutbox-rows.mjs): the forced cells as the released guide's own fill.sh prints them over the translation 2301a4cfd8f3c9bd… (all of the seat's roots in one cut). By AI agents, Wed Nov 11 2026. No macro, syntax, notation, axiom, sorry.
-/
import Derived.Test.YtjcagkpolfacpaaDoorChecked
import GoSem.Claim
import GoSem.ClaimJoined
import GoSem.ClaimMapViews
import Derived.JoinedTies
import Derived.KernelRfl
namespace Go.Proofs.YtjcagkpolfacpaaDoor
/- THE CELL 'sum', in the pinned program and in every row, IS THE sha256 OF THE DUMP (.gsa) THAT YtjcagkpolfacpaaDoorProg.lean LOADS. Nothing in Lean hashes anything: it is a label: what it is worth is what the hold of that sum in a sandbox is worth. -/
noncomputable def Tryd.pinned : Pinned := { name := "ytjcagkpolfacpaadoor", sum := "2301a4cfd8f3c9bdbc710e18d3ed2a56abd0cfad2d99337101fb36ce691d2851", checked := Tryd.checked }
namespace Rows
def none {H : Type} : Left H := { results := [], args := [] }

/- WHAT THE LISTED PACKAGE-LEVEL VARIABLES READ AS WHEN THE CALL BEGINS. Each datum BY PROGRAM (the guide's laid-datum.mjs) off the statement by which the dump's own 'gosem.cut.vars' lays the variable. In a bare row this is a premise. The card (YtjcagkpolfacpaaDoorCards.lean) ties it to the program's text. -/
def laid_loop_example_turtlewalks_impl_directions {H : Type} : DataW H := .agg [.agg [.lit (.int .i64 1), .lit (.int .i64 0)], .agg [.lit (.int .i64 0), .lit (.int .i64 1)], .agg [.lit (.int .i64 (-1)), .lit (.int .i64 0)], .agg [.lit (.int .i64 0), .lit (.int .i64 (-1))]]
def laid_loop_example_turtlewalks_impl_wayLetters {H : Type} : DataW H := .agg [.lit (.string [101, 110, 119, 115]), .lit (.string [110, 119, 115, 101]), .lit (.string [119, 115, 101, 110]), .lit (.string [115, 101, 110, 119]), .lit (.string [101, 115, 119, 110]), .lit (.string [110, 101, 115, 119]), .lit (.string [119, 110, 101, 115]), .lit (.string [115, 119, 110, 101])]

/-- 'laws.FnExactCountOf': WHATEVER THE INPUT: true; the input reads as it did. -/
def fnExactCountOfSpec : ChangeSpec := { name := "fnExactCountOf", vars := ["loop.example/turtlewalks/impl.directions"], fn := fun _ => fun
  | [d, g1] => { results := [.lit (.bool true)], args := [d], vars := [g1] }
  | _ => none }
def fnExactCountOfRow : OpenClaim := { program := "ytjcagkpolfacpaadoor", sum := "2301a4cfd8f3c9bdbc710e18d3ed2a56abd0cfad2d99337101fb36ce691d2851", func := "loop.example/turtlewalks/laws.FnExactCountOf", spec := "fnExactCountOf", inPlace := ["internal/bytealg.IndexByteString"], unfollowed := true, recurses := true, named := ["loop.example/turtlewalks/impl.directions"], plainKeys := false, apart := false, laid := [("loop.example/turtlewalks/impl.directions", laid_loop_example_turtlewalks_impl_directions)] }
def FnExactCountOfSaid : Prop := fnExactCountOfRow.holds Tryd.pinned (OpenSpec.ofChange fnExactCountOfSpec)

/-- ITS FALSE NEIGHBOUR: 'it returns false'. Refute it at one input. -/
def fnExactCountOfWrong : ChangeSpec := { name := "fnExactCountOf", vars := ["loop.example/turtlewalks/impl.directions"], fn := fun _ => fun
  | [d, g1] => { results := [.lit (.bool false)], args := [d], vars := [g1] }
  | _ => none }
def FnExactCountOfWrongFalsely : Prop := fnExactCountOfRow.holds Tryd.pinned (OpenSpec.ofChange fnExactCountOfWrong)

/-- 'laws.FnExactWalksOf': WHATEVER THE INPUT: true; the input reads as it did. -/
def fnExactWalksOfSpec : ChangeSpec := { name := "fnExactWalksOf", vars := ["loop.example/turtlewalks/impl.directions"], fn := fun _ => fun
  | [d, g1] => { results := [.lit (.bool true)], args := [d], vars := [g1] }
  | _ => none }
def fnExactWalksOfRow : OpenClaim := { program := "ytjcagkpolfacpaadoor", sum := "2301a4cfd8f3c9bdbc710e18d3ed2a56abd0cfad2d99337101fb36ce691d2851", func := "loop.example/turtlewalks/laws.FnExactWalksOf", spec := "fnExactWalksOf", inPlace := ["internal/bytealg.IndexByteString"], unfollowed := true, recurses := true, named := ["loop.example/turtlewalks/impl.directions"], plainKeys := false, apart := false, laid := [("loop.example/turtlewalks/impl.directions", laid_loop_example_turtlewalks_impl_directions)] }
def FnExactWalksOfSaid : Prop := fnExactWalksOfRow.holds Tryd.pinned (OpenSpec.ofChange fnExactWalksOfSpec)

/-- ITS FALSE NEIGHBOUR: 'it returns false'. Refute it at one input. -/
def fnExactWalksOfWrong : ChangeSpec := { name := "fnExactWalksOf", vars := ["loop.example/turtlewalks/impl.directions"], fn := fun _ => fun
  | [d, g1] => { results := [.lit (.bool false)], args := [d], vars := [g1] }
  | _ => none }
def FnExactWalksOfWrongFalsely : Prop := fnExactWalksOfRow.holds Tryd.pinned (OpenSpec.ofChange fnExactWalksOfWrong)

/-- 'laws.FnCountOf': WHATEVER THE INPUT: true; the input reads as it did. -/
def fnCountOfSpec : ChangeSpec := { name := "fnCountOf", vars := ["loop.example/turtlewalks/impl.directions"], fn := fun _ => fun
  | [d, g1] => { results := [.lit (.bool true)], args := [d], vars := [g1] }
  | _ => none }
def fnCountOfRow : OpenClaim := { program := "ytjcagkpolfacpaadoor", sum := "2301a4cfd8f3c9bdbc710e18d3ed2a56abd0cfad2d99337101fb36ce691d2851", func := "loop.example/turtlewalks/laws.FnCountOf", spec := "fnCountOf", inPlace := ["internal/bytealg.IndexByteString"], unfollowed := true, recurses := true, named := ["loop.example/turtlewalks/impl.directions"], plainKeys := false, apart := false, laid := [("loop.example/turtlewalks/impl.directions", laid_loop_example_turtlewalks_impl_directions)] }
def FnCountOfSaid : Prop := fnCountOfRow.holds Tryd.pinned (OpenSpec.ofChange fnCountOfSpec)

/-- ITS FALSE NEIGHBOUR: 'it returns false'. Refute it at one input. -/
def fnCountOfWrong : ChangeSpec := { name := "fnCountOf", vars := ["loop.example/turtlewalks/impl.directions"], fn := fun _ => fun
  | [d, g1] => { results := [.lit (.bool false)], args := [d], vars := [g1] }
  | _ => none }
def FnCountOfWrongFalsely : Prop := fnCountOfRow.holds Tryd.pinned (OpenSpec.ofChange fnCountOfWrong)

/-- 'laws.FnWalksOf': WHATEVER THE INPUT: true; the input reads as it did. -/
def fnWalksOfSpec : ChangeSpec := { name := "fnWalksOf", vars := ["loop.example/turtlewalks/impl.directions"], fn := fun _ => fun
  | [d, g1] => { results := [.lit (.bool true)], args := [d], vars := [g1] }
  | _ => none }
def fnWalksOfRow : OpenClaim := { program := "ytjcagkpolfacpaadoor", sum := "2301a4cfd8f3c9bdbc710e18d3ed2a56abd0cfad2d99337101fb36ce691d2851", func := "loop.example/turtlewalks/laws.FnWalksOf", spec := "fnWalksOf", inPlace := ["internal/bytealg.IndexByteString"], unfollowed := true, recurses := true, named := ["loop.example/turtlewalks/impl.directions"], plainKeys := false, apart := false, laid := [("loop.example/turtlewalks/impl.directions", laid_loop_example_turtlewalks_impl_directions)] }
def FnWalksOfSaid : Prop := fnWalksOfRow.holds Tryd.pinned (OpenSpec.ofChange fnWalksOfSpec)

/-- ITS FALSE NEIGHBOUR: 'it returns false'. Refute it at one input. -/
def fnWalksOfWrong : ChangeSpec := { name := "fnWalksOf", vars := ["loop.example/turtlewalks/impl.directions"], fn := fun _ => fun
  | [d, g1] => { results := [.lit (.bool false)], args := [d], vars := [g1] }
  | _ => none }
def FnWalksOfWrongFalsely : Prop := fnWalksOfRow.holds Tryd.pinned (OpenSpec.ofChange fnWalksOfWrong)

/-- 'laws.FnAllWays': WHATEVER THE INPUT: true; the input reads as it did. -/
def fnAllWaysSpec : ChangeSpec := { name := "fnAllWays", vars := ["loop.example/turtlewalks/impl.wayLetters"], fn := fun _ => fun
  | [d, g1] => { results := [.lit (.bool true)], args := [d], vars := [g1] }
  | _ => none }
def fnAllWaysRow : OpenClaim := { program := "ytjcagkpolfacpaadoor", sum := "2301a4cfd8f3c9bdbc710e18d3ed2a56abd0cfad2d99337101fb36ce691d2851", func := "loop.example/turtlewalks/laws.FnAllWays", spec := "fnAllWays", inPlace := ["internal/bytealg.IndexByteString"], recurses := true, named := ["loop.example/turtlewalks/impl.wayLetters"], plainKeys := false, apart := false, laid := [("loop.example/turtlewalks/impl.wayLetters", laid_loop_example_turtlewalks_impl_wayLetters)] }
def FnAllWaysSaid : Prop := fnAllWaysRow.holds Tryd.pinned (OpenSpec.ofChange fnAllWaysSpec)

/-- ITS FALSE NEIGHBOUR: 'it returns false'. Refute it at one input. -/
def fnAllWaysWrong : ChangeSpec := { name := "fnAllWays", vars := ["loop.example/turtlewalks/impl.wayLetters"], fn := fun _ => fun
  | [d, g1] => { results := [.lit (.bool false)], args := [d], vars := [g1] }
  | _ => none }
def FnAllWaysWrongFalsely : Prop := fnAllWaysRow.holds Tryd.pinned (OpenSpec.ofChange fnAllWaysWrong)

/- THE SECOND FORM. 'bulk': how many values and letters a reading holds, each counted each time it is reached (what is shared counts as often as it is met; a slice's spare places count too). A statement '..UptoSaid' is the law's where the arguments, and the package variables that the reading takes, are together of bulk at most 1048576: NARROWER than '..Said'. Prove '..Said' where nothing that the law and all that it calls make is longer than what came in: it says more and counts as full. Else prove '..UptoSaid'. A law counts once. -/
mutual
def uptoBulk {H : Type} : DataW H → Nat
  | .lit (.string bytes) => bytes.length + 1
  | .lit _ => 1
  | .nil => 1
  | .ptr d => uptoBulk d + 1
  | .slice elems spare => uptoBulkAll elems + uptoBulkAll spare + 1
  | .agg parts => uptoBulkAll parts + 1
  | .iface _ d => uptoBulk d + 1
  | .map entries => uptoBulkEntries entries + 1
  | .held _ => 1
def uptoBulkAll {H : Type} : List (DataW H) → Nat
  | [] => 0
  | d :: r => uptoBulk d + uptoBulkAll r
def uptoBulkEntries {H : Type} : List (Lit × DataW H) → Nat
  | [] => 0
  | x :: r => uptoBulkEntry x + uptoBulkEntries r
def uptoBulkEntry {H : Type} : Lit × DataW H → Nat
  | (.string bytes, d) => bytes.length + uptoBulk d + 1
  | (_, d) => uptoBulk d + 1
 end
def uptoSmall : (H : Type) → List (DataW H) → Bool := fun _ ds => decide (uptoBulkAll ds ≤ 1048576)
def OpenSpec.upto (s : _root_.Go.ChangeSpec) : _root_.Go.OpenSpec := { _root_.Go.OpenSpec.ofChange s with cond := some uptoSmall }

/-- 'laws.FnExactCountOf', WHERE WHAT IT READS IS OF BULK AT MOST 1048576: true; the input reads as it did. -/
def fnExactCountOfUptoRow : OpenClaim := { program := "ytjcagkpolfacpaadoor", sum := "2301a4cfd8f3c9bdbc710e18d3ed2a56abd0cfad2d99337101fb36ce691d2851", func := "loop.example/turtlewalks/laws.FnExactCountOf", spec := "fnExactCountOf", inPlace := ["internal/bytealg.IndexByteString"], unfollowed := true, recurses := true, named := ["loop.example/turtlewalks/impl.directions"], plainKeys := false, apart := false, laid := [("loop.example/turtlewalks/impl.directions", laid_loop_example_turtlewalks_impl_directions)], narrowed := true }
def FnExactCountOfUptoSaid : Prop := fnExactCountOfUptoRow.holds Tryd.pinned (OpenSpec.upto fnExactCountOfSpec)

/-- 'laws.FnExactWalksOf', WHERE WHAT IT READS IS OF BULK AT MOST 1048576: true; the input reads as it did. -/
def fnExactWalksOfUptoRow : OpenClaim := { program := "ytjcagkpolfacpaadoor", sum := "2301a4cfd8f3c9bdbc710e18d3ed2a56abd0cfad2d99337101fb36ce691d2851", func := "loop.example/turtlewalks/laws.FnExactWalksOf", spec := "fnExactWalksOf", inPlace := ["internal/bytealg.IndexByteString"], unfollowed := true, recurses := true, named := ["loop.example/turtlewalks/impl.directions"], plainKeys := false, apart := false, laid := [("loop.example/turtlewalks/impl.directions", laid_loop_example_turtlewalks_impl_directions)], narrowed := true }
def FnExactWalksOfUptoSaid : Prop := fnExactWalksOfUptoRow.holds Tryd.pinned (OpenSpec.upto fnExactWalksOfSpec)

/-- 'laws.FnCountOf', WHERE WHAT IT READS IS OF BULK AT MOST 1048576: true; the input reads as it did. -/
def fnCountOfUptoRow : OpenClaim := { program := "ytjcagkpolfacpaadoor", sum := "2301a4cfd8f3c9bdbc710e18d3ed2a56abd0cfad2d99337101fb36ce691d2851", func := "loop.example/turtlewalks/laws.FnCountOf", spec := "fnCountOf", inPlace := ["internal/bytealg.IndexByteString"], unfollowed := true, recurses := true, named := ["loop.example/turtlewalks/impl.directions"], plainKeys := false, apart := false, laid := [("loop.example/turtlewalks/impl.directions", laid_loop_example_turtlewalks_impl_directions)], narrowed := true }
def FnCountOfUptoSaid : Prop := fnCountOfUptoRow.holds Tryd.pinned (OpenSpec.upto fnCountOfSpec)

/-- 'laws.FnWalksOf', WHERE WHAT IT READS IS OF BULK AT MOST 1048576: true; the input reads as it did. -/
def fnWalksOfUptoRow : OpenClaim := { program := "ytjcagkpolfacpaadoor", sum := "2301a4cfd8f3c9bdbc710e18d3ed2a56abd0cfad2d99337101fb36ce691d2851", func := "loop.example/turtlewalks/laws.FnWalksOf", spec := "fnWalksOf", inPlace := ["internal/bytealg.IndexByteString"], unfollowed := true, recurses := true, named := ["loop.example/turtlewalks/impl.directions"], plainKeys := false, apart := false, laid := [("loop.example/turtlewalks/impl.directions", laid_loop_example_turtlewalks_impl_directions)], narrowed := true }
def FnWalksOfUptoSaid : Prop := fnWalksOfUptoRow.holds Tryd.pinned (OpenSpec.upto fnWalksOfSpec)

/-- 'laws.FnAllWays', WHERE WHAT IT READS IS OF BULK AT MOST 1048576: true; the input reads as it did. -/
def fnAllWaysUptoRow : OpenClaim := { program := "ytjcagkpolfacpaadoor", sum := "2301a4cfd8f3c9bdbc710e18d3ed2a56abd0cfad2d99337101fb36ce691d2851", func := "loop.example/turtlewalks/laws.FnAllWays", spec := "fnAllWays", inPlace := ["internal/bytealg.IndexByteString"], recurses := true, named := ["loop.example/turtlewalks/impl.wayLetters"], plainKeys := false, apart := false, laid := [("loop.example/turtlewalks/impl.wayLetters", laid_loop_example_turtlewalks_impl_wayLetters)], narrowed := true }
def FnAllWaysUptoSaid : Prop := fnAllWaysUptoRow.holds Tryd.pinned (OpenSpec.upto fnAllWaysSpec)

end Rows
end Go.Proofs.YtjcagkpolfacpaaDoor
