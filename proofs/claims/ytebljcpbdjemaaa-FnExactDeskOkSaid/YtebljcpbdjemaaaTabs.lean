/-
  The two tables of the program in memory: the letters of the eight ways, the steps of the four directions.
-/
import Derived.Test.YtebljcpbdjemaaaProg
import Derived.Test.YtebljcpbdjemaaaPure
import Derived.WalkKit
namespace Go.Proofs.Ytebljcpbdjemaaa
open Go.RowKit



end Go.Proofs.Ytebljcpbdjemaaa
