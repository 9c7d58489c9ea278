/-
  The contract of allDifferent: a set of places in a map of the call's own.
-/
import Derived.Test.YtjcagkpolfacpaaPlacesOf
import Derived.Maps.OwnSet
import Derived.Maps.Views
import Derived.DeepKeys4
import Derived.WideKeyArr2
namespace Go.Proofs.Ytjcagkpolfacpaa
open Go.RowKit Go.Maps Go.WideMaps

def placeVal (p : Int × Int) : Value := .agg #[.int .i64 p.1, .int .i64 p.2]
def placeKey (p : Int × Int) : Lit := .string (keyBytes [.int .i64 p.1, .int .i64 p.2])
/-- Both numbers of a place are small. -/
def near (p : Int × Int) : Prop := -1000000 ≤ p.1 ∧ p.1 ≤ 1000000 ∧ -1000000 ≤ p.2 ∧ p.2 ≤ 1000000


end Go.Proofs.Ytjcagkpolfacpaa
