/-
  NARROWER THAN 'FOR EVERY INPUT', by the rows' own cells (each row's printed sentence says how): FnExactInWay: laid · FnExactAvoidsOk: laid · FnExactWaysSame: laid.
  DERIVED. THE GIVEN ROWS OF THIS SEAT. 3 by the template 'for every input the law returns true; each argument reads behind the call as it read before'; 0 by the template 'total and deterministic' (their statements: YtejbjfkoofhaoaaDoorTotals.lean).
  GIVEN WITH THE SEED: the statements are not yours to turn. If you find one false, say at which input.
  Laid BY PROGRAM, IN A SANDBOX (cutbox-rows.mjs): the forced cells as the released guide's own fill.sh prints them over the translation f7282c05543e6b1a… (all of the seat's roots in one cut). By AI agents, Wed Nov 11 2026. No macro, syntax, notation, axiom, sorry.
-/
import Derived.Test.YtejbjfkoofhaoaaDoorChecked
import GoSem.Claim
import GoSem.ClaimJoined
import GoSem.ClaimMapViews
import Derived.JoinedTies
import Derived.KernelRfl
namespace Go.Proofs.YtejbjfkoofhaoaaDoor
/- THE CELL 'sum', in the pinned program and in every row, IS THE sha256 OF THE DUMP (.gsa) THAT YtejbjfkoofhaoaaDoorProg.lean LOADS. Nothing in Lean hashes anything: it is a label: what it is worth is what the hold of that sum in a sandbox is worth. -/
noncomputable def Tryd.pinned : Pinned := { name := "ytejbjfkoofhaoaadoor", sum := "f7282c05543e6b1a9320097656608782751ff15385bfbab03bb792d061655f65", checked := Tryd.checked }
namespace Rows
def none {H : Type} : Left H := { results := [], args := [] }

/- WHAT THE LISTED PACKAGE-LEVEL VARIABLES READ AS WHEN THE CALL BEGINS. Each datum BY PROGRAM (the guide's laid-datum.mjs) off the statement by which the dump's own 'gosem.cut.vars' lays the variable. In a bare row this is a premise. The card (YtejbjfkoofhaoaaDoorCards.lean) ties it to the program's text. -/
def laid_loop_example_turtlewalks_impl_wayLetters {H : Type} : DataW H := .agg [.lit (.string [101, 110, 119, 115]), .lit (.string [110, 119, 115, 101]), .lit (.string [119, 115, 101, 110]), .lit (.string [115, 101, 110, 119]), .lit (.string [101, 115, 119, 110]), .lit (.string [110, 101, 115, 119]), .lit (.string [119, 110, 101, 115]), .lit (.string [115, 119, 110, 101])]
def laid_loop_example_turtlewalks_impl_directions {H : Type} : DataW H := .agg [.agg [.lit (.int .i64 1), .lit (.int .i64 0)], .agg [.lit (.int .i64 0), .lit (.int .i64 1)], .agg [.lit (.int .i64 (-1)), .lit (.int .i64 0)], .agg [.lit (.int .i64 0), .lit (.int .i64 (-1))]]

/-- 'laws.FnExactInWay': WHATEVER THE INPUT: true; the input reads as it did. -/
def fnExactInWaySpec : ChangeSpec := { name := "fnExactInWay", vars := ["loop.example/turtlewalks/impl.wayLetters"], fn := fun _ => fun
  | [d1, d2, g1] => { results := [.lit (.bool true)], args := [d1, d2], vars := [g1] }
  | _ => none }
def fnExactInWayRow : OpenClaim := { program := "ytejbjfkoofhaoaadoor", sum := "f7282c05543e6b1a9320097656608782751ff15385bfbab03bb792d061655f65", func := "loop.example/turtlewalks/laws.FnExactInWay", spec := "fnExactInWay", inPlace := ["internal/bytealg.IndexByteString"], named := ["loop.example/turtlewalks/impl.wayLetters"], plainKeys := false, apart := false, laid := [("loop.example/turtlewalks/impl.wayLetters", laid_loop_example_turtlewalks_impl_wayLetters)] }
def FnExactInWaySaid : Prop := fnExactInWayRow.holds Tryd.pinned (OpenSpec.ofChange fnExactInWaySpec)

/-- ITS FALSE NEIGHBOUR: 'it returns false'. Refute it at one input. -/
def fnExactInWayWrong : ChangeSpec := { name := "fnExactInWay", vars := ["loop.example/turtlewalks/impl.wayLetters"], fn := fun _ => fun
  | [d1, d2, g1] => { results := [.lit (.bool false)], args := [d1, d2], vars := [g1] }
  | _ => none }
def FnExactInWayWrongFalsely : Prop := fnExactInWayRow.holds Tryd.pinned (OpenSpec.ofChange fnExactInWayWrong)

/-- 'laws.FnExactAvoidsOk': WHATEVER THE INPUT: true; the input reads as it did. -/
def fnExactAvoidsOkSpec : ChangeSpec := { name := "fnExactAvoidsOk", vars := ["loop.example/turtlewalks/impl.directions"], fn := fun _ => fun
  | [d, g1] => { results := [.lit (.bool true)], args := [d], vars := [g1] }
  | _ => none }
def fnExactAvoidsOkRow : OpenClaim := { program := "ytejbjfkoofhaoaadoor", sum := "f7282c05543e6b1a9320097656608782751ff15385bfbab03bb792d061655f65", func := "loop.example/turtlewalks/laws.FnExactAvoidsOk", spec := "fnExactAvoidsOk", inPlace := ["internal/bytealg.IndexByteString"], named := ["loop.example/turtlewalks/impl.directions"], plainKeys := false, apart := false, laid := [("loop.example/turtlewalks/impl.directions", laid_loop_example_turtlewalks_impl_directions)] }
def FnExactAvoidsOkSaid : Prop := fnExactAvoidsOkRow.holds Tryd.pinned (OpenSpec.ofChange fnExactAvoidsOkSpec)

/-- ITS FALSE NEIGHBOUR: 'it returns false'. Refute it at one input. -/
def fnExactAvoidsOkWrong : ChangeSpec := { name := "fnExactAvoidsOk", vars := ["loop.example/turtlewalks/impl.directions"], fn := fun _ => fun
  | [d, g1] => { results := [.lit (.bool false)], args := [d], vars := [g1] }
  | _ => none }
def FnExactAvoidsOkWrongFalsely : Prop := fnExactAvoidsOkRow.holds Tryd.pinned (OpenSpec.ofChange fnExactAvoidsOkWrong)

/-- 'laws.FnExactWaysSame': WHATEVER THE INPUT: true; the input reads as it did. -/
def fnExactWaysSameSpec : ChangeSpec := { name := "fnExactWaysSame", vars := ["loop.example/turtlewalks/impl.wayLetters"], fn := fun _ => fun
  | [d, g1] => { results := [.lit (.bool true)], args := [d], vars := [g1] }
  | _ => none }
def fnExactWaysSameRow : OpenClaim := { program := "ytejbjfkoofhaoaadoor", sum := "f7282c05543e6b1a9320097656608782751ff15385bfbab03bb792d061655f65", func := "loop.example/turtlewalks/laws.FnExactWaysSame", spec := "fnExactWaysSame", inPlace := ["internal/bytealg.IndexByteString"], named := ["loop.example/turtlewalks/impl.wayLetters"], plainKeys := false, apart := false, laid := [("loop.example/turtlewalks/impl.wayLetters", laid_loop_example_turtlewalks_impl_wayLetters)] }
def FnExactWaysSameSaid : Prop := fnExactWaysSameRow.holds Tryd.pinned (OpenSpec.ofChange fnExactWaysSameSpec)

/-- ITS FALSE NEIGHBOUR: 'it returns false'. Refute it at one input. -/
def fnExactWaysSameWrong : ChangeSpec := { name := "fnExactWaysSame", vars := ["loop.example/turtlewalks/impl.wayLetters"], fn := fun _ => fun
  | [d, g1] => { results := [.lit (.bool false)], args := [d], vars := [g1] }
  | _ => none }
def FnExactWaysSameWrongFalsely : Prop := fnExactWaysSameRow.holds Tryd.pinned (OpenSpec.ofChange fnExactWaysSameWrong)

/- THE SECOND FORM. 'bulk': how many values and letters a reading holds, each counted each time it is reached (what is shared counts as often as it is met; a slice's spare places count too). A statement '..UptoSaid' is the law's where the arguments, and the package variables that the reading takes, are together of bulk at most 1048576: NARROWER than '..Said'. Prove '..Said' where nothing that the law and all that it calls make is longer than what came in: it says more and counts as full. Else prove '..UptoSaid'. A law counts once. -/
mutual
def uptoBulk {H : Type} : DataW H → Nat
  | .lit (.string bytes) => bytes.length + 1
  | .lit _ => 1
  | .nil => 1
  | .ptr d => uptoBulk d + 1
  | .slice elems spare => uptoBulkAll elems + uptoBulkAll spare + 1
  | .agg parts => uptoBulkAll parts + 1
  | .iface _ d => uptoBulk d + 1
  | .map entries => uptoBulkEntries entries + 1
  | .held _ => 1
def uptoBulkAll {H : Type} : List (DataW H) → Nat
  | [] => 0
  | d :: r => uptoBulk d + uptoBulkAll r
def uptoBulkEntries {H : Type} : List (Lit × DataW H) → Nat
  | [] => 0
  | x :: r => uptoBulkEntry x + uptoBulkEntries r
def uptoBulkEntry {H : Type} : Lit × DataW H → Nat
  | (.string bytes, d) => bytes.length + uptoBulk d + 1
  | (_, d) => uptoBulk d + 1
 end
def uptoSmall : (H : Type) → List (DataW H) → Bool := fun _ ds => decide (uptoBulkAll ds ≤ 1048576)
def OpenSpec.upto (s : _root_.Go.ChangeSpec) : _root_.Go.OpenSpec := { _root_.Go.OpenSpec.ofChange s with cond := some uptoSmall }

/-- 'laws.FnExactInWay', WHERE WHAT IT READS IS OF BULK AT MOST 1048576: true; the input reads as it did. -/
def fnExactInWayUptoRow : OpenClaim := { program := "ytejbjfkoofhaoaadoor", sum := "f7282c05543e6b1a9320097656608782751ff15385bfbab03bb792d061655f65", func := "loop.example/turtlewalks/laws.FnExactInWay", spec := "fnExactInWay", inPlace := ["internal/bytealg.IndexByteString"], named := ["loop.example/turtlewalks/impl.wayLetters"], plainKeys := false, apart := false, laid := [("loop.example/turtlewalks/impl.wayLetters", laid_loop_example_turtlewalks_impl_wayLetters)], narrowed := true }
def FnExactInWayUptoSaid : Prop := fnExactInWayUptoRow.holds Tryd.pinned (OpenSpec.upto fnExactInWaySpec)

/-- 'laws.FnExactAvoidsOk', WHERE WHAT IT READS IS OF BULK AT MOST 1048576: true; the input reads as it did. -/
def fnExactAvoidsOkUptoRow : OpenClaim := { program := "ytejbjfkoofhaoaadoor", sum := "f7282c05543e6b1a9320097656608782751ff15385bfbab03bb792d061655f65", func := "loop.example/turtlewalks/laws.FnExactAvoidsOk", spec := "fnExactAvoidsOk", inPlace := ["internal/bytealg.IndexByteString"], named := ["loop.example/turtlewalks/impl.directions"], plainKeys := false, apart := false, laid := [("loop.example/turtlewalks/impl.directions", laid_loop_example_turtlewalks_impl_directions)], narrowed := true }
def FnExactAvoidsOkUptoSaid : Prop := fnExactAvoidsOkUptoRow.holds Tryd.pinned (OpenSpec.upto fnExactAvoidsOkSpec)

/-- 'laws.FnExactWaysSame', WHERE WHAT IT READS IS OF BULK AT MOST 1048576: true; the input reads as it did. -/
def fnExactWaysSameUptoRow : OpenClaim := { program := "ytejbjfkoofhaoaadoor", sum := "f7282c05543e6b1a9320097656608782751ff15385bfbab03bb792d061655f65", func := "loop.example/turtlewalks/laws.FnExactWaysSame", spec := "fnExactWaysSame", inPlace := ["internal/bytealg.IndexByteString"], named := ["loop.example/turtlewalks/impl.wayLetters"], plainKeys := false, apart := false, laid := [("loop.example/turtlewalks/impl.wayLetters", laid_loop_example_turtlewalks_impl_wayLetters)], narrowed := true }
def FnExactWaysSameUptoSaid : Prop := fnExactWaysSameUptoRow.holds Tryd.pinned (OpenSpec.upto fnExactWaysSameSpec)

end Rows
end Go.Proofs.YtejbjfkoofhaoaaDoor
