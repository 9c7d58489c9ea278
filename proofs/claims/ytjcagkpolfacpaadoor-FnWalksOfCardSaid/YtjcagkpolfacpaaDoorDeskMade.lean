/-
  The reference's DeskDo: a deed that changes the walk.
-/
import Derived.Test.YtjcagkpolfacpaaDoorDeskDone
import Derived.Test.YtjcagkpolfacpaaDoorSteps
namespace Go.Proofs.YtjcagkpolfacpaaDoor
open Go.RowKit



theorem grow_at {W w4 : World} {o r : Obj} {b : Nat} {row : Option Nat} (h : W.heap[b]? = some r) (hg : (W.alloc o).grownBy w4 row) (hne : row ≠ some b) : w4.heap[b]? = some r :=
  (hg.block b (by have := lt_at h; simp; omega) (fun e => hne e.symm)).trans ((Lib.alloc_old _ _ _ (lt_at h)).trans h)

/-- The desk after a deed, and whether it was done. -/
def deskDone (s : ByteArray) (zs : List ByteArray) (k n : Int) : ByteArray × List ByteArray × Bool :=
  if k = 5 ∧ n = 0 ∧ 0 < zs.length then (zs.getLastD ⟨#[]⟩, zs.take (zs.length - 1), true)
  else if (made s k n).2 = true ∧ (made s k n).1 ≠ s then ((made s k n).1, (zs ++ [s]).drop (zs.length + 1 - 8), true) else (s, zs, false)
def deskDo (s : ByteArray) (zs : List ByteArray) (k n : Int) : ByteArray × List ByteArray × Bool := if deskOk s zs = true then deskDone s zs k n else (⟨#[]⟩, [], false)
theorem walks_mem {zs : List ByteArray} (h : walksOk zs = true) {z : ByteArray} (hz : z ∈ zs) : Tw.walkOk z.data.toList = true := by
  unfold walksOk at h
  exact List.all_eq_true.1 h z hz
theorem deskOk_parts {s : ByteArray} {zs : List ByteArray} (h : deskOk s zs = true) : Tw.walkOk s.data.toList = true ∧ zs.length ≤ 8 ∧ ∀ z ∈ zs, Tw.walkOk z.data.toList = true := by
  unfold deskOk at h
  simp only [Bool.and_eq_true, decide_eq_true_eq] at h
  exact ⟨h.1.1, h.2, fun z hz => walks_mem h.1.2 hz⟩
theorem ok_size {s : ByteArray} (h : Tw.walkOk s.data.toList = true) : s.size ≤ 40 := by
  have := Tw.walkOk_len h
  rwa [size_data] at this
theorem deskDone_made {s : ByteArray} {zs : List ByteArray} {k n : Int} {x : ByteArray} (hk : k ≠ 5) (hm : made s k n = (x, true)) (hx : x ≠ s) : deskDone s zs k n = (x, (zs ++ [s]).drop (zs.length + 1 - 8), true) := by
  unfold deskDone
  rw [if_neg (fun h => hk h.1), hm, if_pos ⟨rfl, hx⟩]
theorem deskDone_same {s : ByteArray} {zs : List ByteArray} {k n : Int} (h5 : ¬ (k = 5 ∧ n = 0 ∧ 0 < zs.length)) (hm : ¬ ((made s k n).2 = true ∧ (made s k n).1 ≠ s)) : deskDone s zs k n = (s, zs, false) := by
  unfold deskDone
  rw [if_neg h5, if_neg hm]

end Go.Proofs.YtjcagkpolfacpaaDoor
