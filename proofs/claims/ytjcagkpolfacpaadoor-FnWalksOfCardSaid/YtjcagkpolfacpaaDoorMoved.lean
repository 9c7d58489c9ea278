/-
  Contracts of movedRound, MovedOn (both).
-/
import Derived.Test.YtjcagkpolfacpaaDoorClosed
import Derived.Test.YtjcagkpolfacpaaDoorWaysImpl
import Derived.Laws.IdiomStrings
import Derived.BigQuiet
namespace Go.Proofs.YtjcagkpolfacpaaDoor
open Go.RowKit

theorem bytesOf_append (a b : List UInt8) : bytesOf (a ++ b) = bytesOf a ++ bytesOf b := by simp [bytesOf]
theorem bytesOf_length (a : List UInt8) : (bytesOf a).length = a.length := by simp [bytesOf]
theorem bytesOf_one (a : List UInt8) : ∀ u ∈ bytesOf a, u.oneCell' = true := by
  intro u hu
  obtain ⟨b, _, rfl⟩ := List.mem_map.1 hu
  rfl
/-- A row of bytes lies from cell o of block g on. -/
def BytesAt (w : World) (g : Nat) (l : List UInt8) : Prop := ∀ (i : Nat) (b : UInt8), l[i]? = some b → w.cell? ⟨g, i, none⟩ = some (.int .u8 b.toNat)
theorem BytesAt.news {w : World} {g : Nat} {l : List UInt8} (h : BytesAt w g l) (k m : Nat) : ∀ j u, (bytesOf ((l.drop k).take m))[j]? = some u → w.cell? ((⟨g, k, none⟩ : Addr).add j) = some u := by
  intro j u hu
  have ha : (⟨g, k, none⟩ : Addr).add j = ⟨g, k + j, none⟩ := by unfold Addr.add; split <;> simp_all
  rw [ha]
  unfold bytesOf at hu
  rw [List.getElem?_map] at hu
  obtain ⟨b, hb, rfl⟩ := Option.map_eq_some_iff.1 hu
  rw [List.getElem?_take] at hb
  split at hb
  · rw [List.getElem?_drop] at hb
    exact h _ _ hb
  · cases hb
theorem BytesAt.below {w w' : World} {B g : Nat} {l : List UInt8} (h : BytesAt w g l) (hb : Below B w w') (hg : g < B) : BytesAt w' g l := fun i b hi => (hb.cell (p := ⟨g, i, none⟩) hg).trans (h i b hi)
theorem BytesAt.grown {w w' : World} {row : Option Nat} {g : Nat} {l : List UInt8} (h : BytesAt w g l) (hg : w.grownBy w' row) (hlt : g < w.heap.size) (hne : some g ≠ row) : BytesAt w' g l := fun i b hi => (hg.cell_far ⟨g, i, none⟩ hlt hne).trans (h i b hi)


/-! ### MovedOn -/
theorem moved_str (s : ByteArray) (k : Nat) : s.extract k s.size ++ s.extract 0 k = Tw.str (Tw.moved s.data.toList k) := by
  rw [← Tw.str_of (s.extract k s.size), ← Tw.str_of (s.extract 0 k), Tw.str_append, Lib.extract_data, Lib.extract_data]
  congr 1
  unfold Tw.moved
  rw [List.take_of_length_le (by simp), List.drop_zero, Nat.sub_zero]


theorem row_bytes {s : ByteArray} {cap j : Nat} {b : UInt8} (h : s.data.toList[j]? = some b) : (bytesRow s cap)[j]? = some (.int .u8 b.toNat) := by
  have hj : j < s.size := by have := (List.getElem?_eq_some_iff.1 h).1; rwa [size_data] at this
  unfold bytesRow
  rw [Array.getElem?_append_left (by simpa using hj), Array.getElem?_map, ← Array.getElem?_toList, h]
  rfl



end Go.Proofs.YtjcagkpolfacpaaDoor
