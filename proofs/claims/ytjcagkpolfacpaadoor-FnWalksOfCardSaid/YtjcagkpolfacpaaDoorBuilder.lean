/-
  The contract of (*strings.Builder).WriteByte at this dump (the shelf's own could not be laid here); after the library's worked proof of it.
-/
import Derived.Test.YtjcagkpolfacpaaDoorBase
import Derived.Lib.Builder
import Derived.Lib.UnsafeStr
import Derived.Lib.Walk
import Derived.Lib.Strings
import Derived.Lib.AppendStr
import Derived.Laws.Externs
import Derived.Maps.AppendAt
namespace Go.Proofs.YtjcagkpolfacpaaDoor
open Go.RowKit

theorem infoByte : (Tryd.prog.info? 5).map (fun i => (i.zero, i.size, i.bytes)) = some (some (.int .u8 0), 1, 1) := by kernel_rfl





end Go.Proofs.YtjcagkpolfacpaaDoor
