/-
  Contracts of DeskNew (both), and of the law's helpers at a desk without walks of before.
-/
import Derived.Test.YtbaakapnbginoaaDoorBase
namespace Go.Proofs.YtbaakapnbginoaaDoor
open Go.RowKit

def deskNew (s : ByteArray) : ByteArray := if Tw.walkOk s.data.toList then s else ByteArray.empty


set_option maxHeartbeats 400000 in
theorem specDeskNew (s : ByteArray) (w : World) (hs : s.size ≤ 1048576) :
    Calls Tryd.prog 104 #[.string s] w fun e w' => e = .returned (.tuple #[.agg #[.string (deskNew s), .slice none 0 0], .bool (Tw.walkOk s.data.toList)]) ∧ Below w.heap.size w w' := by
  unfold deskNew
  cases hok : Tw.walkOk s.data.toList
  all_goals
    have HOK := Lib.hid hok
    clear hok
    go_enter Tryd.func104, Tryd.ntmps104
    go_wp2_with (first | (go_at_call 78; refine (specWalkOk_is _ _ hs _ HOK.out).mono ?_; rintro e w' ⟨rfl, rfl⟩))
  · exact bodyPost_ret (v := .tuple #[.agg #[.string ByteArray.empty, .slice none 0 0], .bool false]) (by simp [results, Tryd.results104, go_sem]; rfl) rfl ⟨rfl, (Below.refl _ _).alloc (Nat.le_refl _) _⟩
  · exact bodyPost_ret (v := .tuple #[.agg #[.string s, .slice none 0 0], .bool true]) (by simp [results, Tryd.results104, go_sem]) rfl ⟨rfl, (Below.refl _ _).alloc (Nat.le_refl _) _⟩

set_option maxHeartbeats 400000 in
theorem eqStrings_nil (w : World) :
    Calls Tryd.prog 42 #[.slice none 0 0, .slice none 0 0] w fun e w' => e = .returned (.bool true) ∧ w = w' := by
  go_enter Tryd.func42, Tryd.ntmps42
  go_wp2
  refine wp_loop_rounds 1 ?_
  rw [rounds_succ]
  go_wp2
  go_ret
  exact ⟨rfl, rfl⟩

set_option maxHeartbeats 400000 in
theorem markStrings_nil (k : Int) (w : World) :
    Calls Tryd.prog 43 #[.slice none 0 0, .int .i64 k] w fun e w' => e = .returned (.int .i64 k) ∧ w = w' := by
  go_enter Tryd.func43, Tryd.ntmps43
  go_wp2
  refine wp_loop_rounds 1 ?_
  rw [rounds_succ]
  go_wp2
  go_ret
  exact ⟨rfl, rfl⟩

set_option maxHeartbeats 400000 in
theorem heldStrings_nil (k : Int) (w : World) :
    Calls Tryd.prog 44 #[.slice none 0 0, .int .i64 k] w fun e w' => e = .returned (.int .i64 k) ∧ w = w' := by
  go_enter Tryd.func44, Tryd.ntmps44
  go_wp2
  refine wp_loop_rounds 1 ?_
  rw [rounds_succ]
  go_wp2
  go_ret
  exact ⟨rfl, rfl⟩

set_option maxHeartbeats 400000 in
theorem eqDesk_nil (s : ByteArray) (w : World) :
    Calls Tryd.prog 27 #[.agg #[.string s, .slice none 0 0], .agg #[.string s, .slice none 0 0]] w fun e w' => e = .returned (.bool true) ∧ Below w.heap.size w w' := by
  go_enter Tryd.func27, Tryd.ntmps27
  go_wp2_with (first | (go_at_call 42; refine (eqStrings_nil _).mono ?_; rintro e w' ⟨rfl, rfl⟩))
  go_ret
  exact ⟨rfl, ((Below.refl _ _).alloc (Nat.le_refl _) _).alloc (by simp) _⟩

set_option maxHeartbeats 400000 in
theorem markDesk_nil (s : ByteArray) (k : Int) (w : World) :
    Calls Tryd.prog 28 #[.agg #[.string s, .slice none 0 0], .int .i64 k] w fun e w' => e = .returned (.int .i64 k) ∧ Below w.heap.size w w' := by
  go_enter Tryd.func28, Tryd.ntmps28
  go_wp2_with (first | (go_at_call 43; refine (markStrings_nil _ _).mono ?_; rintro e w' ⟨rfl, rfl⟩))
  go_ret
  exact ⟨rfl, (Below.refl _ _).alloc (Nat.le_refl _) _⟩

set_option maxHeartbeats 400000 in
theorem heldDesk_nil (s : ByteArray) (w : World) :
    Calls Tryd.prog 29 #[.agg #[.string s, .slice none 0 0], .int .i64 1] w fun e w' => e = .returned (.int .i64 1) ∧ Below w.heap.size w w' := by
  go_enter Tryd.func29, Tryd.ntmps29
  go_wp2_with (first | (go_at_call 44; refine (heldStrings_nil _ _).mono ?_; rintro e w' ⟨rfl, rfl⟩))
  go_ret
  exact ⟨rfl, (Below.refl _ _).alloc (Nat.le_refl _) _⟩

/-- A desk without walks of before lies in block g. -/
def DeskAt (w : World) (g : Nat) (s : ByteArray) : Prop := w.heap[g]? = some (.cells #[.string s, .slice none 0 0] 38 (0, 0))
theorem DeskAt.lt {w : World} {g : Nat} {s : ByteArray} (h : DeskAt w g s) : g < w.heap.size := World.block_lt_of_cell? w ⟨g, 0, none⟩ (by unfold DeskAt at h; simp [World.cell?, h]; rfl)
theorem DeskAt.below {w w' : World} {g : Nat} {s : ByteArray} (h : DeskAt w g s) (hb : Below w.heap.size w w') : DeskAt w' g s := (hb.block _ h.lt).trans h
theorem DeskAt.alloc {w : World} {g : Nat} {s : ByteArray} (h : DeskAt w g s) (o : Obj) : DeskAt (w.alloc o) g s := h.below ((Below.refl _ _).alloc (Nat.le_refl _) o)
theorem DeskAt.cells {w : World} {g : Nat} {s : ByteArray} (h : DeskAt w g s) : w.cell? ⟨g, 0, none⟩ = some (.string s) ∧ w.cell? ⟨g, 1, none⟩ = some (.slice none 0 0) := ⟨cell_of_row _ _ _ _ _ _ h, cell_of_row _ _ _ _ _ _ h⟩
theorem DeskAt.new (w : World) (s : ByteArray) : DeskAt (w.alloc (.cells #[.string s, .slice none 0 0] 38)) w.heap.size s := heap_alloc_new w _

end Go.Proofs.YtbaakapnbginoaaDoor
