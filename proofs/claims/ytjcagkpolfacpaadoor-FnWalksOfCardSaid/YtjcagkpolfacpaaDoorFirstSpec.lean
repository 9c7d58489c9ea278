/-
  The contract of the reference's FirstOf.
-/
import Derived.Test.YtjcagkpolfacpaaDoorFirst
import Derived.Sort.Walk0
namespace Go.Proofs.YtjcagkpolfacpaaDoor
open Go.RowKit

/-- Nothing seen yet, or the best of what has been seen. -/
def Seen (t : ByteArray) (C : List (List UInt8)) : Prop := (t = Tw.str [] ∧ C = []) ∨ ∃ b, t = Tw.str b ∧ b ≠ [] ∧ Tw.Best b C
theorem less_str (a b : List UInt8) : Op.bytesLess (Tw.str a).toList (Tw.str b).toList = decide (a < b) := by rw [Proofs.bytesLess_eq, Lib.toList_data, Lib.toList_data]; rfl
theorem seen_snoc {b y : List UInt8} {C : List (List UInt8)} (h : Tw.Best b C) (t : Bool) (ht : decide (y < b) = t) : Tw.Best (if t then y else b) (C ++ [y]) := by
  subst ht
  by_cases h1 : y < b
  · simpa [h1] using Tw.best_lt h h1
  · simpa [h1] using Tw.best_not h h1



end Go.Proofs.YtjcagkpolfacpaaDoor
