/-
  The two tables of the program in memory: the letters of the eight ways, the steps of the four directions.
-/
import Derived.Test.YtpkenccgjlhnlaaProg
import Derived.Test.YtpkenccgjlhnlaaPure
import Derived.WalkKit
namespace Go.Proofs.Ytpkenccgjlhnlaa
open Go.RowKit



end Go.Proofs.Ytpkenccgjlhnlaa
