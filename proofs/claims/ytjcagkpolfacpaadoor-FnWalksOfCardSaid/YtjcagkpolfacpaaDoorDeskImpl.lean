/-
  The program's DeskDo: copied, putBack, walkAfter.
-/
import Derived.Test.YtjcagkpolfacpaaDoorDeskMade
import Derived.Test.YtjcagkpolfacpaaDoorShelf
namespace Go.Proofs.YtjcagkpolfacpaaDoor
open Go.RowKit




end Go.Proofs.YtjcagkpolfacpaaDoor
