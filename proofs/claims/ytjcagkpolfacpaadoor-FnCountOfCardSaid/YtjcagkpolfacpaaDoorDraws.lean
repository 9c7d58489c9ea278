/-
  The draws of laws on walks that avoid themselves.
-/
import Derived.Test.YtjcagkpolfacpaaDoorDrawAvoid
namespace Go.Proofs.YtjcagkpolfacpaaDoor
open Go.RowKit

theorem Drawn.below_base {w w1 w2 : World} {R n p k : Nat} {v : Value} (h : Drawn w1 w2 R v n p k) (hb : Below w.heap.size w w1) (hR : w.heap.size ≤ R) : Below w.heap.size w w2 := by
  obtain ⟨_, _, _, hg⟩ := h
  exact hb.grown hg hb.size (fun j hj => by cases hj; exact hR)



end Go.Proofs.YtjcagkpolfacpaaDoor
