/-
  The contract of endOf.
-/
import Derived.Test.YtjcagkpolfacpaaDoorPlaces
import Derived.Test.YtjcagkpolfacpaaDoorSteps
import Derived.Deep.RegionLaw
import Derived.Deep.RegionWith
import Derived.OneCell
namespace Go.Proofs.YtjcagkpolfacpaaDoor
open Go.RowKit

theorem two_setCell {w : World} {b : Nat} {x y : Value} {t : TypeId} (h : w.heap[b]? = some (.cells #[x, y] t (0, 0))) (u v : Value) : ((w.setCell ⟨b, 0, none⟩ u).setCell ⟨b, 1, none⟩ v).heap[b]? = some (.cells #[u, v] t (0, 0)) := by
  simp [World.setCell, Array.getElem?_modify, h]
theorem step_eq (p : Int × Int) (c : UInt8) : Tw.step p c = (p.1 + Tw.east (Tw.dir c), p.2 + Tw.north (Tw.dir c)) := rfl


end Go.Proofs.YtjcagkpolfacpaaDoor
