/-
  Slices of strings: how they lie, and contracts of the law's helpers szStringS, toStringS, eqStringS.
-/
import Derived.Test.YtpkenccgjlhnlaaBase
import Derived.Test.YtpkenccgjlhnlaaSteps
import Derived.BigQuiet
import Derived.Deep.QuietTactic
import Derived.Maps.AppendAt
namespace Go.Proofs.Ytpkenccgjlhnlaa
open Go.RowKit

/-- A slice of strings as it lies: nil, or its cells one by one. -/
def StrsAt (w : World) (v : Value) (zs : List ByteArray) : Prop :=
  (v = .slice none 0 0 ∧ zs = []) ∨ ∃ a cap, v = .slice (some a) zs.length cap ∧ zs.length ≤ cap ∧ ∀ (j : Nat) (z : ByteArray), zs[j]? = some z → w.cell? (a.add j) = some (.string z)
theorem add_block (a : Addr) (j : Nat) : (a.add j).block = a.block := by unfold Addr.add; split <;> rfl
theorem cell_keep {w w' : World} {p : Addr} {u : Value} (hb : Below w.heap.size w w') (h : w.cell? p = some u) : w'.cell? p = some u := (hb.cell (World.block_lt_of_cell? w _ h)).trans h
theorem StrsAt.below {w w' : World} {B : Nat} {v : Value} {zs : List ByteArray} (h : StrsAt w v zs) (hb : Below B w w') (hB : w.heap.size ≤ B) : StrsAt w' v zs := by
  rcases h with h | ⟨a, cap, rfl, hl, hc⟩
  · exact .inl h
  · exact .inr ⟨a, cap, rfl, hl, fun j z hz => cell_keep (hb.mono hB) (hc j z hz)⟩
theorem StrsAt.below' {w w' : World} {v : Value} {zs : List ByteArray} (h : StrsAt w v zs) (hb : Below w.heap.size w w') : StrsAt w' v zs := h.below hb (Nat.le_refl _)

/-- How much is in them: the count, and all bytes. -/
def bulk : List ByteArray → Int
  | [] => 0
  | z :: zs => (z.size : Int) + bulk zs
theorem bulk_nonneg : ∀ zs : List ByteArray, 0 ≤ bulk zs
  | [] => Int.le_refl _
  | z :: zs => by have := bulk_nonneg zs; unfold bulk; omega
theorem bulk_append : ∀ xs ys : List ByteArray, bulk (xs ++ ys) = bulk xs + bulk ys
  | [], ys => by simp [bulk]
  | x :: xs, ys => by simp only [List.cons_append, bulk, bulk_append xs ys]; omega
theorem bulk_mem {zs : List ByteArray} {z : ByteArray} (h : z ∈ zs) : (z.size : Int) ≤ bulk zs := by
  obtain ⟨a, b, rfl⟩ := List.append_of_mem h
  have h1 := bulk_nonneg a
  have h2 := bulk_nonneg b
  rw [bulk_append]
  show _ ≤ bulk a + ((z.size : Int) + bulk b)
  omega
theorem bulk_take (zs : List ByteArray) (k : Nat) : bulk (zs.take k) ≤ bulk zs := by
  have h := bulk_append (zs.take k) (zs.drop k)
  rw [List.take_append_drop] at h
  have := bulk_nonneg (zs.drop k)
  omega
theorem bulk_succ {zs : List ByteArray} {k : Nat} {z : ByteArray} (h : zs[k]? = some z) : bulk (zs.take (k + 1)) = bulk (zs.take k) + z.size := by
  rw [List.take_add_one, bulk_append, h]
  simp [bulk]
def szLeft (left : Int) (zs : List ByteArray) : Int := if (zs.length : Int) + bulk zs ≤ left then left - ((zs.length : Int) + bulk zs) else -1


theorem stringInfo : (Try.prog.info? 9).map (fun i => (i.zero, i.size, i.bytes)) = some (some (.string ByteArray.empty), 1, 16) := by kernel_rfl
def strVals (zs : List ByteArray) : List Value := zs.map .string
theorem strVals_len (zs : List ByteArray) : (strVals zs).length = zs.length := by simp [strVals]
/-- A row of strings of the call's own lies as a slice of strings. -/
theorem own_strs {w : World} {base g n cap : Nat} {zs : List ByteArray} (h : w.ownsRow base 9 1 (.slice (some ⟨g, 0, none⟩) n cap) n (strVals zs)) (hn : zs.length = n) (hcap : n ≤ cap) : StrsAt w (.slice (some ⟨g, 0, none⟩) n cap) zs := by
  refine .inr ⟨⟨g, 0, none⟩, cap, by rw [hn], by omega, fun j z hz => ?_⟩
  exact h.cells (g := g) rfl j (.string z) (by unfold strVals; rw [List.getElem?_map, hz]; rfl)

theorem same_to {zs ys : List ByteArray} {k : Nat} {z y : ByteArray} (h : zs.take k = ys.take k) (hz : zs[k]? = some z) (hy : ys[k]? = some y) (e : z = y) : zs.take (k + 1) = ys.take (k + 1) := by
  rw [List.take_add_one, List.take_add_one, h, hz, hy, e]
theorem eq_bytes (x y : ByteArray) : (x.toList == y.toList) = decide (x = y) := by
  rw [Lib.toList_data, Lib.toList_data, Bool.eq_iff_iff, beq_iff_eq, decide_eq_true_iff]
  constructor
  · intro h
    rw [← Tw.str_of x, ← Tw.str_of y, h]
  · intro h
    rw [h]



end Go.Proofs.Ytpkenccgjlhnlaa
