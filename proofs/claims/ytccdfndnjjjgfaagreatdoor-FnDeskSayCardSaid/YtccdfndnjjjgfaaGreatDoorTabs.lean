/-
  The two tables of the program in memory: the letters of the eight ways, the steps of the four directions.
-/
import Derived.Test.YtccdfndnjjjgfaaGreatDoorProg
import Derived.Test.YtccdfndnjjjgfaaGreatDoorPure
import Derived.WalkKit
namespace Go.Proofs.YtccdfndnjjjgfaaGreatDoor
open Go.RowKit

def wayList : List (List UInt8) := [[101, 110, 119, 115], [110, 119, 115, 101], [119, 115, 101, 110], [115, 101, 110, 119], [101, 115, 119, 110], [110, 101, 115, 119], [119, 110, 101, 115], [115, 119, 110, 101]]
/-- The letters of the eight ways lie in their variable. -/
def WaysAt (w : World) : Prop := ∀ i, i < 8 → w.cell? ⟨1, i, none⟩ = some (.string (Tw.str (wayList.getD i [])))
theorem WaysAt.lt {w : World} (h : WaysAt w) : 1 < w.heap.size := World.block_lt_of_cell? w _ (h 0 (by omega))
theorem WaysAt.below {w w' : World} {B : Nat} (h : WaysAt w) (hb : Below B w w') (hB : 1 < B) : WaysAt w' := fun i hi => (hb.cell (p := ⟨_, i, none⟩) hB).trans (h i hi)
theorem WaysAt.drew {w : World} (h : WaysAt w) : WaysAt w.drew := h
theorem WaysAt.alloc {w : World} (h : WaysAt w) (o : Obj) : WaysAt (w.alloc o) := h.below ((Below.refl w.heap.size w).alloc (Nat.le_refl _) o) h.lt
theorem WaysAt.below' {w w' : World} (h : WaysAt w) (hb : Below w.heap.size w w') : WaysAt w' := h.below hb h.lt
theorem wayStr (way : Int) (h0 : 0 ≤ way) (h7 : way ≤ 7) : wayList.getD way.toNat [] = [Tw.letter (Tw.wayDir way 0), Tw.letter (Tw.wayDir way 1), Tw.letter (Tw.wayDir way 2), Tw.letter (Tw.wayDir way 3)] := by
  obtain rfl | rfl | rfl | rfl | rfl | rfl | rfl | rfl : way = 0 ∨ way = 1 ∨ way = 2 ∨ way = 3 ∨ way = 4 ∨ way = 5 ∨ way = 6 ∨ way = 7 := by omega
  all_goals decide

/-- The steps of the four directions lie in their variable. -/
structure DirsAt (w : World) : Prop where
  c0 : w.cell? ⟨3, 0, none⟩ = some (.int .i64 1)
  c1 : w.cell? ⟨3, 1, none⟩ = some (.int .i64 0)
  c2 : w.cell? ⟨3, 2, none⟩ = some (.int .i64 0)
  c3 : w.cell? ⟨3, 3, none⟩ = some (.int .i64 1)
  c4 : w.cell? ⟨3, 4, none⟩ = some (.int .i64 (-1))
  c5 : w.cell? ⟨3, 5, none⟩ = some (.int .i64 0)
  c6 : w.cell? ⟨3, 6, none⟩ = some (.int .i64 0)
  c7 : w.cell? ⟨3, 7, none⟩ = some (.int .i64 (-1))
theorem DirsAt.lt {w : World} (h : DirsAt w) : 3 < w.heap.size := World.block_lt_of_cell? w _ h.c0
theorem DirsAt.below {w w' : World} {B : Nat} (h : DirsAt w) (hb : Below B w w') (hB : 3 < B) : DirsAt w' := by
  have e : ∀ i, w'.cell? ⟨3, i, none⟩ = w.cell? ⟨3, i, none⟩ := fun i => hb.cell (p := ⟨_, i, none⟩) hB
  exact ⟨(e 0).trans h.c0, (e 1).trans h.c1, (e 2).trans h.c2, (e 3).trans h.c3, (e 4).trans h.c4, (e 5).trans h.c5, (e 6).trans h.c6, (e 7).trans h.c7⟩
theorem DirsAt.drew {w : World} (h : DirsAt w) : DirsAt w.drew := ⟨h.c0, h.c1, h.c2, h.c3, h.c4, h.c5, h.c6, h.c7⟩
theorem DirsAt.alloc {w : World} (h : DirsAt w) (o : Obj) : DirsAt (w.alloc o) := h.below ((Below.refl w.heap.size w).alloc (Nat.le_refl _) o) h.lt
theorem DirsAt.below' {w w' : World} (h : DirsAt w) (hb : Below w.heap.size w w') : DirsAt w' := h.below hb h.lt

end Go.Proofs.YtccdfndnjjjgfaaGreatDoor
