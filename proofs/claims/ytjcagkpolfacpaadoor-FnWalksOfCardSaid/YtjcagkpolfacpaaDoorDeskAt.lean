/-
  Desks: how they lie, and contracts of DeskOk (both) and of the law's helpers szDesk, toDesk, eqDesk.
-/
import Derived.Test.YtjcagkpolfacpaaDoorStrs
import Derived.Deep.Onto
namespace Go.Proofs.YtjcagkpolfacpaaDoor
open Go.RowKit

def walksOk (zs : List ByteArray) : Bool := zs.all fun z => Tw.walkOk z.data.toList
def deskOk (s : ByteArray) (zs : List ByteArray) : Bool := Tw.walkOk s.data.toList && walksOk zs && decide (zs.length ≤ 8)
theorem walksOk_not {zs : List ByteArray} {k : Nat} {z : ByteArray} (hz : zs[k]? = some z) (h : Tw.walkOk z.data.toList = false) : walksOk zs = false := by
  unfold walksOk
  rw [Bool.eq_false_iff]
  intro h'
  have := List.all_eq_true.1 h' z (List.mem_of_getElem? hz)
  rw [h] at this
  cases this
theorem walksOk_succ {zs : List ByteArray} {k : Nat} {z : ByteArray} (hz : zs[k]? = some z) (h : Tw.walkOk z.data.toList = true) (hk : walksOk (zs.take k) = true) : walksOk (zs.take (k + 1)) = true := by
  unfold walksOk at *
  rw [List.take_add_one, List.all_append, hk, hz]
  simp [h]

/-- Two cells of a block. -/
theorem two_cells {w : World} {g : Nat} {x y : Value} {t : TypeId} (h : w.heap[g]? = some (.cells #[x, y] t (0, 0))) : w.cell? ⟨g, 0, none⟩ = some x ∧ w.cell? ⟨g, 1, none⟩ = some y := ⟨cell_of_row _ _ _ _ _ _ h, cell_of_row _ _ _ _ _ _ h⟩




theorem two_set {w : World} {b : Nat} {x y : Value} {t : TypeId} (h : w.heap[b]? = some (.cells #[x, y] t (0, 0))) (u v : Value) : ((w.setCell ⟨b, 0, none⟩ u).setCell ⟨b, 1, none⟩ v).heap[b]? = some (.cells #[u, v] t (0, 0)) := by
  simp [World.setCell, Array.getElem?_modify, h]
theorem own_set {w : World} {base : Nat} {e : TypeId} {size : Nat} {v : Value} {n : Nat} {xs : List Value} (h : w.ownsRow base e size v n xs) (a : Addr) (u : Value) (hne : v.ownBlock ≠ some a.block) : (w.setCell a u).ownsRow base e size v n xs :=
  h.kept (row := some a.block) ⟨rfl, rfl, rfl, by simp, fun k _ hk => heap_setCell_other w a k u (fun e => hk (by rw [e]))⟩ (.inr hne)



end Go.Proofs.YtjcagkpolfacpaaDoor
