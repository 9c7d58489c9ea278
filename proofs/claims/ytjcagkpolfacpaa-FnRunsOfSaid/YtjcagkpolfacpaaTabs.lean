/-
  The two tables of the program in memory: the letters of the eight ways, the steps of the four directions.
-/
import Derived.Test.YtjcagkpolfacpaaProg
import Derived.Test.YtjcagkpolfacpaaPure
import Derived.WalkKit
namespace Go.Proofs.Ytjcagkpolfacpaa
open Go.RowKit



end Go.Proofs.Ytjcagkpolfacpaa
