/-
  The draw of walks that avoid themselves: some short text, and nothing that was there has turned but the reader.
-/
import Derived.Test.YtccdfndnjjjgfaaGreatDoorDraw
import Derived.Test.YtccdfndnjjjgfaaGreatDoorGoes
namespace Go.Proofs.YtccdfndnjjjgfaaGreatDoor
open Go.RowKit

/-- From w on a reader has been read at most k times more; nothing else that was there has turned. -/
def Drawn (w W : World) (R : Nat) (v : Value) (n p k : Nat) : Prop := ∃ p', p' ≤ p + k ∧ ReaderAt W R v n p' ∧ w.grownBy W (some R)
theorem grown_trans {a b c : World} {row : Option Nat} (h : a.grownBy b row) (k : b.grownBy c row) : a.grownBy c row := by
  obtain ⟨h1, h2, h3, h4, h5⟩ := h
  obtain ⟨k1, k2, k3, k4, k5⟩ := k
  exact ⟨k1.trans h1, k2.trans h2, k3.trans h3, Nat.le_trans h4 k4, fun i hi hr => (k5 i (Nat.lt_of_lt_of_le hi h4) hr).trans (h5 i hi hr)⟩
theorem ReaderAt.lt {w : World} {R n p : Nat} {v : Value} (h : ReaderAt w R v n p) : R < w.heap.size := (Array.getElem?_eq_some_iff.1 h.cells).1
theorem ReaderAt.below {w w' : World} {R n p : Nat} {v : Value} (h : ReaderAt w R v n p) (hb : Below w.heap.size w w') : ReaderAt w' R v n p :=
  ⟨(hb.block _ h.lt).trans h.cells, code_grown h.code h.off (grown_of_below hb _), h.few, h.off⟩
theorem Drawn.start {w : World} {R n p : Nat} {v : Value} (h : ReaderAt w R v n p) : Drawn w w R v n p 0 := ⟨p, by omega, h, ⟨rfl, rfl, rfl, Nat.le_refl _, fun _ _ _ => rfl⟩⟩
theorem Drawn.below {w W W' : World} {R n p k : Nat} {v : Value} (h : Drawn w W R v n p k) (hb : Below W.heap.size W W') : Drawn w W' R v n p k := by
  obtain ⟨p', hp, hr, hg⟩ := h
  exact ⟨p', hp, hr.below hb, grown_trans hg (grown_of_below hb _)⟩
theorem Drawn.alloc {w W : World} {R n p k : Nat} {v : Value} (h : Drawn w W R v n p k) (o : Obj) : Drawn w (W.alloc o) R v n p k := h.below ((Below.refl _ _).alloc (Nat.le_refl _) o)
theorem Drawn.mono {w W : World} {R n p k k' : Nat} {v : Value} (h : Drawn w W R v n p k) (hk : k ≤ k') : Drawn w W R v n p k' := by
  obtain ⟨p', hp, hr⟩ := h
  exact ⟨p', by omega, hr⟩
theorem Drawn.lt {w W : World} {R n p k : Nat} {v : Value} (h : Drawn w W R v n p k) : R < W.heap.size := by
  obtain ⟨p', hp, hr, _⟩ := h
  exact hr.lt
theorem pick_d {w W : World} {R n p k : Nat} {v : Value} {N : Int} (h : Drawn w W R v n p k) (hp : p + k ≤ 1000000) (h1 : 1 ≤ N) (h2 : N ≤ 1000000) :
    Calls Tryz.prog 68 #[.pointer (some ⟨R, 0, none⟩), .int .i64 N] W fun e w' => ∃ x : Int, e = .returned (.int .i64 x) ∧ 0 ≤ x ∧ x < N ∧ Drawn w w' R v n p (k + 1) ∧ W.grownBy w' (some R) := by
  obtain ⟨p', hp', hr, hg⟩ := h
  refine (pick_any R n p' v N W hr (by omega) h1 h2).mono ?_
  rintro e w' ⟨x, ⟨rfl, hx0, hx1⟩, hr', hg'⟩
  exact ⟨x, rfl, hx0, hx1, ⟨p' + 1, by omega, hr', grown_trans hg hg'⟩, hg'⟩
theorem odd_d {w W : World} {R n p k : Nat} {v : Value} {N : Int} (h : Drawn w W R v n p k) (hp : p + k ≤ 1000000) (h1 : 0 ≤ N) (h2 : N ≤ 1000000) :
    Calls Tryz.prog 69 #[.pointer (some ⟨R, 0, none⟩), .int .i64 N] W fun e w' => ∃ b : Bool, e = .returned (.bool b) ∧ Drawn w w' R v n p (k + 1) := by
  obtain ⟨p', hp', hr, hg⟩ := h
  refine (odd_any R n p' v N W hr (by omega) h1 h2).mono ?_
  rintro e w' ⟨b, p2, rfl, hp2, hr', hg'⟩
  exact ⟨b, rfl, p2, by omega, hr', grown_trans hg hg'⟩

/-- A cell of a literal row, read behind a draw. -/
theorem lit_cell {W w' : World} {R : Nat} {cs : Array Value} {t : TypeId} (hR : R < W.heap.size) (hg : (W.alloc (.cells cs t)).grownBy w' (some R)) (j : Nat) (u : Value) (hu : cs[j]? = some u) : w'.cell? ⟨W.heap.size, j, none⟩ = some u := by
  rw [hg.cell_far ⟨W.heap.size, j, none⟩ (by simp) (by simp; omega)]
  exact (cell_of_row _ _ _ _ _ _ (heap_alloc_new W _)).trans hu

theorem lit_size (a : Array UInt8) : (ByteArray.mk a).size = a.size := rfl
theorem zero_or (x : Int) : x = 0 ∨ (x == 0) = false := by
  rcases Decidable.em (x = 0) with h | h
  · exact .inl h
  · exact .inr (by simpa using h)


end Go.Proofs.YtccdfndnjjjgfaaGreatDoor
