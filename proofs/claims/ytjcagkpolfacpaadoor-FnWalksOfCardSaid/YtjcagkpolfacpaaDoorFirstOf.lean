/-
  Contracts of FirstOf (both).
-/
import Derived.Test.YtjcagkpolfacpaaDoorFirst
namespace Go.Proofs.YtjcagkpolfacpaaDoor
open Go.RowKit

theorem best_cons {b l : List UInt8} {C : List (List UInt8)} (h : Tw.Best b (l :: C)) : Tw.minL b l = b := by
  have h1 := Tw.best_unique (Tw.best_min (c := l) h) h (fun x => ⟨fun hx => (List.mem_append.1 hx).elim id (fun hx => by rw [List.mem_singleton.1 hx]; exact List.mem_cons_self ..), fun hx => List.mem_append.2 (.inl hx)⟩)
  exact h1



end Go.Proofs.YtjcagkpolfacpaaDoor
