/-
  The program's DeskDo: copied, putBack, walkAfter.
-/
import Derived.Test.YtpkenccgjlhnlaaDeskMade
import Derived.Test.YtpkenccgjlhnlaaShelf
namespace Go.Proofs.Ytpkenccgjlhnlaa
open Go.RowKit




end Go.Proofs.Ytpkenccgjlhnlaa
