/-
  The two tables of the program in memory: the letters of the eight ways, the steps of the four directions.
-/
import Derived.Test.YtaafaangfocbcaaProg
import Derived.Test.YtaafaangfocbcaaPure
import Derived.WalkKit
namespace Go.Proofs.Ytaafaangfocbcaa
open Go.RowKit



end Go.Proofs.Ytaafaangfocbcaa
