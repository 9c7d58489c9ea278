/-
  The contract of the reference's PlacesOf: a row of slices, a block of two numbers a place.
-/
import Derived.Test.YtjcagkpolfacpaaPlacesOf
import Derived.BigQuiet
import Derived.Deep.QuietTactic
namespace Go.Proofs.Ytjcagkpolfacpaa
open Go.RowKit

def rowVal (b : Nat) : Value := .slice (some ⟨b, 0, none⟩) 2 2
def pairBlock (p : Int × Int) : Obj := .cells #[.int .i64 p.1, .int .i64 p.2] 3
/-- A slice of slices: the places, each in a block of its own. -/
def RowsIn (w : World) (base : Nat) (v : Value) (ps : List (Int × Int)) : Prop :=
  ∃ g cap, ∃ bs : List Nat, v = .slice (some ⟨g, 0, none⟩) ps.length cap ∧ bs.length = ps.length ∧ w.ownsRow base 32 1 v ps.length (bs.map rowVal) ∧
    ∀ (i : Nat) (p : Int × Int) (b : Nat), ps[i]? = some p → bs[i]? = some b → w.heap[b]? = some (pairBlock p)

theorem rowsInfo : (Try.prog.info? 32).map (fun i => (i.zero, i.size, i.bytes)) = some (some (.slice none 0 0), 1, 24) := by kernel_rfl

theorem own_block {w : World} {base : Nat} {e : TypeId} {size n : Nat} {g : Nat} {len cap : Nat} {xs : List Value} (h : w.ownsRow base e size (.slice (some ⟨g, 0, none⟩) len cap) n xs) : ∃ cur, w.heap[g]? = some (.cells cur e (0, 0)) := by
  rcases h.2 with ⟨h', _⟩ | ⟨g', cap', cur, h', _, hh, _⟩
  · cases h'
  · cases h'
    exact ⟨cur, hh⟩
theorem pair_ne {w : World} {base size n g len cap b : Nat} {xs : List Value} {p : Int × Int} (h : w.ownsRow base 32 size (.slice (some ⟨g, 0, none⟩) len cap) n xs) (hb : w.heap[b]? = some (pairBlock p)) : g ≠ b := by
  rintro rfl
  obtain ⟨cur, hc⟩ := own_block h
  rw [hb] at hc
  simp [pairBlock] at hc
theorem lt_of_heap {w : World} {b : Nat} {o : Obj} (h : w.heap[b]? = some o) : b < w.heap.size := (Array.getElem?_eq_some_iff.1 h).1
theorem pair_cells {w : World} {b : Nat} {p : Int × Int} (h : w.heap[b]? = some (pairBlock p)) : w.cell? ⟨b, 0, none⟩ = some (.int .i64 p.1) ∧ w.cell? ⟨b, 1, none⟩ = some (.int .i64 p.2) :=
  ⟨cell_of_row w b 0 _ _ _ h, cell_of_row w b 1 _ _ _ h⟩
theorem row_cell {w : World} {base g n cap : Nat} {bs : List Nat} (h : w.ownsRow base 32 1 (.slice (some ⟨g, 0, none⟩) n cap) n (bs.map rowVal)) {i b : Nat} (hb : bs[i]? = some b) :
    w.cell? ⟨g, i, none⟩ = some (rowVal b) := by
  have a1 := h.cells (g := g) rfl i (rowVal b) (by simp [hb])
  have ha : ∀ j, (⟨g, 0, none⟩ : Addr).add j = ⟨g, j, none⟩ := fun j => by unfold Addr.add; split <;> simp_all
  rwa [ha] at a1

theorem rows_step {wr wE wN w2 : World} {base g n cap : Nat} {xs : List Value} {ps : List (Int × Int)} {bs : List Nat} {q : Int × Int} {O : Obj}
    (HB : ∀ (i : Nat) (p : Int × Int) (b : Nat), ps[i]? = some p → bs[i]? = some b → wr.heap[b]? = some (pairBlock p)) (hown : wr.ownsRow base 32 1 (.slice (some ⟨g, 0, none⟩) n cap) n xs)
    (hbE : Below wr.drew.heap.size wr.drew wE) (hbN : Below wE.heap.size wE wN) (hgr : ((wN.alloc (pairBlock q)).alloc O).grownBy w2 (some g)) (hl : bs.length = ps.length) :
    ∀ (i : Nat) (p : Int × Int) (b : Nat), (ps ++ [q])[i]? = some p → (bs ++ [wN.heap.size])[i]? = some b → w2.heap[b]? = some (pairBlock p) := by
  intro i p b hp hb
  have s1 : wr.heap.size ≤ wE.heap.size := hbE.size
  have s2 := hbN.size
  have s3 : g < wr.heap.size := (hown.lt g rfl).2
  by_cases hi : i < ps.length
  · rw [List.getElem?_append_left hi] at hp
    rw [List.getElem?_append_left (by omega)] at hb
    have old := HB i p b hp hb
    have ne := pair_ne hown old
    have lt := lt_of_heap old
    rw [hgr.block b (by simp; omega) (by simp; omega), Below.heap_alloc _ _ _ (by simp; omega), Below.heap_alloc _ _ _ (by omega), hbN.block b (by omega), hbE.block b lt]
    exact old
  · have hi2 : i = ps.length := by
      have := (List.getElem?_eq_some_iff.1 hp).1
      simp at this
      omega
    subst hi2
    rw [List.getElem?_append_right (Nat.le_refl _)] at hp
    rw [List.getElem?_append_right (by omega)] at hb
    simp at hp
    simp [hl] at hb
    subst hp
    subst hb
    rw [hgr.block _ (by simp; omega) (by simp; omega)]
    exact heap_alloc2_old _ _ _



/-- What the rows of a slice of slices hold. -/
def RowsHold (w : World) (ps : List (Int × Int)) (bs : List Nat) : Prop := ∀ (i : Nat) (p : Int × Int) (b : Nat), ps[i]? = some p → bs[i]? = some b → w.heap[b]? = some (pairBlock p)

end Go.Proofs.Ytjcagkpolfacpaa
