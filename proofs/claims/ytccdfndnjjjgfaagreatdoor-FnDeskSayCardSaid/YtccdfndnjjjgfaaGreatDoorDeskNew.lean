/-
  Contracts of DeskNew (both), and of the law's helpers at a desk without walks of before.
-/
import Derived.Test.YtccdfndnjjjgfaaGreatDoorBase
namespace Go.Proofs.YtccdfndnjjjgfaaGreatDoor
open Go.RowKit

def deskNew (s : ByteArray) : ByteArray := if Tw.walkOk s.data.toList then s else ByteArray.empty


set_option maxHeartbeats 400000 in
theorem specDeskNew (s : ByteArray) (w : World) (hs : s.size ≤ 1048576) :
    Calls Tryz.prog 81 #[.string s] w fun e w' => e = .returned (.tuple #[.agg #[.string (deskNew s), .slice none 0 0], .bool (Tw.walkOk s.data.toList)]) ∧ Below w.heap.size w w' := by
  unfold deskNew
  cases hok : Tw.walkOk s.data.toList
  all_goals
    have HOK := Lib.hid hok
    clear hok
    go_enter Tryz.func81, Tryz.ntmps81
    go_wp2_with (first | (go_at_call 65; refine (specWalkOk_is _ _ hs _ HOK.out).mono ?_; rintro e w' ⟨rfl, rfl⟩))
  · exact bodyPost_ret (v := .tuple #[.agg #[.string ByteArray.empty, .slice none 0 0], .bool false]) (by simp [results, Tryz.results81, go_sem]; rfl) rfl ⟨rfl, (Below.refl _ _).alloc (Nat.le_refl _) _⟩
  · exact bodyPost_ret (v := .tuple #[.agg #[.string s, .slice none 0 0], .bool true]) (by simp [results, Tryz.results81, go_sem]) rfl ⟨rfl, (Below.refl _ _).alloc (Nat.le_refl _) _⟩

set_option maxHeartbeats 400000 in
theorem eqStrings_nil (w : World) :
    Calls Tryz.prog 15 #[.slice none 0 0, .slice none 0 0] w fun e w' => e = .returned (.bool true) ∧ w = w' := by
  go_enter Tryz.func15, Tryz.ntmps15
  go_wp2
  refine wp_loop_rounds 1 ?_
  rw [rounds_succ]
  go_wp2
  go_ret
  exact ⟨rfl, rfl⟩

set_option maxHeartbeats 400000 in
theorem markStrings_nil (k : Int) (w : World) :
    Calls Tryz.prog 17 #[.slice none 0 0, .int .i64 k] w fun e w' => e = .returned (.int .i64 k) ∧ w = w' := by
  go_enter Tryz.func17, Tryz.ntmps17
  go_wp2
  refine wp_loop_rounds 1 ?_
  rw [rounds_succ]
  go_wp2
  go_ret
  exact ⟨rfl, rfl⟩

set_option maxHeartbeats 400000 in
theorem heldStrings_nil (k : Int) (w : World) :
    Calls Tryz.prog 19 #[.slice none 0 0, .int .i64 k] w fun e w' => e = .returned (.int .i64 k) ∧ w = w' := by
  go_enter Tryz.func19, Tryz.ntmps19
  go_wp2
  refine wp_loop_rounds 1 ?_
  rw [rounds_succ]
  go_wp2
  go_ret
  exact ⟨rfl, rfl⟩

set_option maxHeartbeats 400000 in
theorem eqDesk_nil (s : ByteArray) (w : World) :
    Calls Tryz.prog 14 #[.agg #[.string s, .slice none 0 0], .agg #[.string s, .slice none 0 0]] w fun e w' => e = .returned (.bool true) ∧ Below w.heap.size w w' := by
  go_enter Tryz.func14, Tryz.ntmps14
  go_wp2_with (first | (go_at_call 15; refine (eqStrings_nil _).mono ?_; rintro e w' ⟨rfl, rfl⟩))
  go_ret
  exact ⟨rfl, ((Below.refl _ _).alloc (Nat.le_refl _) _).alloc (by simp) _⟩

set_option maxHeartbeats 400000 in
theorem markDesk_nil (s : ByteArray) (k : Int) (w : World) :
    Calls Tryz.prog 16 #[.agg #[.string s, .slice none 0 0], .int .i64 k] w fun e w' => e = .returned (.int .i64 k) ∧ Below w.heap.size w w' := by
  go_enter Tryz.func16, Tryz.ntmps16
  go_wp2_with (first | (go_at_call 17; refine (markStrings_nil _ _).mono ?_; rintro e w' ⟨rfl, rfl⟩))
  go_ret
  exact ⟨rfl, (Below.refl _ _).alloc (Nat.le_refl _) _⟩

set_option maxHeartbeats 400000 in
theorem heldDesk_nil (s : ByteArray) (w : World) :
    Calls Tryz.prog 18 #[.agg #[.string s, .slice none 0 0], .int .i64 1] w fun e w' => e = .returned (.int .i64 1) ∧ Below w.heap.size w w' := by
  go_enter Tryz.func18, Tryz.ntmps18
  go_wp2_with (first | (go_at_call 19; refine (heldStrings_nil _ _).mono ?_; rintro e w' ⟨rfl, rfl⟩))
  go_ret
  exact ⟨rfl, (Below.refl _ _).alloc (Nat.le_refl _) _⟩

/-- A desk without walks of before lies in block g. -/
def DeskAt (w : World) (g : Nat) (s : ByteArray) : Prop := w.heap[g]? = some (.cells #[.string s, .slice none 0 0] 27 (0, 0))
theorem DeskAt.lt {w : World} {g : Nat} {s : ByteArray} (h : DeskAt w g s) : g < w.heap.size := World.block_lt_of_cell? w ⟨g, 0, none⟩ (by unfold DeskAt at h; simp [World.cell?, h]; rfl)
theorem DeskAt.below {w w' : World} {g : Nat} {s : ByteArray} (h : DeskAt w g s) (hb : Below w.heap.size w w') : DeskAt w' g s := (hb.block _ h.lt).trans h
theorem DeskAt.alloc {w : World} {g : Nat} {s : ByteArray} (h : DeskAt w g s) (o : Obj) : DeskAt (w.alloc o) g s := h.below ((Below.refl _ _).alloc (Nat.le_refl _) o)
theorem DeskAt.cells {w : World} {g : Nat} {s : ByteArray} (h : DeskAt w g s) : w.cell? ⟨g, 0, none⟩ = some (.string s) ∧ w.cell? ⟨g, 1, none⟩ = some (.slice none 0 0) := ⟨cell_of_row _ _ _ _ _ _ h, cell_of_row _ _ _ _ _ _ h⟩
theorem DeskAt.new (w : World) (s : ByteArray) : DeskAt (w.alloc (.cells #[.string s, .slice none 0 0] 27)) w.heap.size s := heap_alloc_new w _

end Go.Proofs.YtccdfndnjjjgfaaGreatDoor
