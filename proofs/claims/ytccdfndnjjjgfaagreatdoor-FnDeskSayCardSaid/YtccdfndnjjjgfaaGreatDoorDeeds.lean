/-
  Slices of deeds: how they lie, and contracts of szDeedS, toDeedS, eqDeed, eqDeedS.
-/
import Derived.Test.YtccdfndnjjjgfaaGreatDoorDeed
import Derived.Test.YtccdfndnjjjgfaaGreatDoorStrs
import Derived.Test.YtccdfndnjjjgfaaGreatDoorPlacesOf
import Derived.Deep.Slices
namespace Go.Proofs.YtccdfndnjjjgfaaGreatDoor
open Go.RowKit

theorem add_next (a : Addr) (i : Nat) : a.add (i + 1) = ⟨(a.add i).block, (a.add i).off + 1, none⟩ := by
  rw [← Go.Deep.add_add]
  simp [Addr.add]
/-- A slice of deeds as it lies: nil, or its numbers two by two. -/
def DeedsAt (w : World) (v : Value) (ds : List (Int × Int)) : Prop :=
  (v = .slice none 0 0 ∧ ds = []) ∨ ∃ a cap, v = .slice (some a) ds.length cap ∧ ds.length ≤ cap ∧ ∀ (j : Nat) (d : Int × Int), ds[j]? = some d → w.cell? (a.add (j * 2)) = some (.int .i64 d.1) ∧ w.cell? ⟨(a.add (j * 2)).block, (a.add (j * 2)).off + 1, none⟩ = some (.int .i64 d.2)
theorem DeedsAt.below' {w w' : World} {v : Value} {ds : List (Int × Int)} (h : DeedsAt w v ds) (hb : Below w.heap.size w w') : DeedsAt w' v ds := by
  rcases h with h | ⟨a, cap, rfl, hl, hc⟩
  · exact .inl h
  · exact .inr ⟨a, cap, rfl, hl, fun j d hd => ⟨cell_keep hb (hc j d hd).1, cell_keep hb (hc j d hd).2⟩⟩

theorem own_deeds {w : World} {base g n cap : Nat} {ds : List (Int × Int)} (h : w.ownsRow base 53 2 (.slice (some ⟨g, 0, none⟩) n cap) n (pairCells ds)) (hn : ds.length = n) (hcap : n ≤ cap) : DeedsAt w (.slice (some ⟨g, 0, none⟩) n cap) ds := by
  refine .inr ⟨⟨g, 0, none⟩, cap, by rw [hn], by omega, fun j d hd => ?_⟩
  have e : ∀ i, (⟨g, 0, none⟩ : Addr).add i = ⟨g, i, none⟩ := fun i => by unfold Addr.add; split <;> simp_all
  rw [e]
  exact ⟨own_cell h (pairCells_get ds j d hd).1, own_cell h (pairCells_get ds j d hd).2⟩
theorem deedInfo : (Tryz.prog.info? 53).map (fun i => (i.zero, i.size, i.bytes)) = some (some (.agg #[.int .i64 0, .int .i64 0]), 2, 16) := by kernel_rfl




end Go.Proofs.YtccdfndnjjjgfaaGreatDoor
