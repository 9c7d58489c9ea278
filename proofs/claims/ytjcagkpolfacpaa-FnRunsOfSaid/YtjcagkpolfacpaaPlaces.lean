/-
  Contracts of l1East, l1North, stepped, placesOf.
-/
import Derived.Test.YtjcagkpolfacpaaBase
import Derived.Test.YtjcagkpolfacpaaTabs
import Derived.Test.YtjcagkpolfacpaaPlacePure
import Derived.Maps.AppendAt
import Derived.Deep.RegionHeld3
import Derived.Deep.AppendLies
import Derived.Deep.DeepMust
namespace Go.Proofs.Ytjcagkpolfacpaa
open Go.RowKit



theorem two_more {w : World} {a : Addr} {v : Value} (h : w.cell? a = some v) (o1 o2 : Obj) : ((w.alloc o1).alloc o2).cell? a = some v := by
  have hl := World.block_lt_of_cell? w _ h
  rw [World.cell?_alloc_lt _ _ _ (by simp; omega), World.cell?_alloc_lt _ _ _ hl, h]
theorem ret_pair {a b c d : Int} (h1 : a = c) (h2 : b = d) : Ending.returned (.agg #[.int .i64 a, .int .i64 b]) = .returned (.agg #[.int .i64 c, .int .i64 d]) := by rw [h1, h2]


end Go.Proofs.Ytjcagkpolfacpaa
