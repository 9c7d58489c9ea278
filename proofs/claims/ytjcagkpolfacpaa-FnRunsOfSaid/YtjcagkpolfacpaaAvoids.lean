/-
  Contracts of AvoidsOk (both).
-/
import Derived.Test.YtjcagkpolfacpaaAllDiff
import Derived.Test.YtjcagkpolfacpaaPlacesSpec
import Derived.BigQuiet
import Derived.Deep.QuietTactic
namespace Go.Proofs.Ytjcagkpolfacpaa
open Go.RowKit

theorem places_near (l : List UInt8) (h : l.length ≤ 1000) : ∀ p ∈ Tw.places l, near p := by
  intro p hp
  obtain ⟨k, hk, rfl⟩ := List.mem_map.1 hp
  have hk' : k < l.length + 1 := List.mem_range.1 hk
  have hr := Tw.placeAt_range l k
  unfold near
  omega


/-- Up to place k no place is there twice. -/
def apartTo (ps : List (Int × Int)) (k : Nat) : Prop := ∀ i j, j < i → i < k → ps[j]? ≠ ps[i]?
theorem apartTo_succ {ps : List (Int × Int)} {k : Nat} (h : apartTo ps k) (hk : ∀ j, j < k → ps[j]? ≠ ps[k]?) : apartTo ps (k + 1) := by
  intro i j hji hi
  rcases Nat.lt_or_ge i k with h1 | h1
  · exact h i j hji h1
  · obtain rfl : i = k := by omega
    exact hk j hji
theorem noTwice_of_apart {ps : List (Int × Int)} (h : apartTo ps ps.length) : Tw.noTwice ps = true := Tw.noTwice_iff.2 fun i j hij hj => h j i hij hj



end Go.Proofs.Ytjcagkpolfacpaa
