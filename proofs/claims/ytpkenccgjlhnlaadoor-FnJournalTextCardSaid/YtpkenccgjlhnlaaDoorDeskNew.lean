/-
  Contracts of DeskNew (both), and of the law's helpers at a desk without walks of before.
-/
import Derived.Test.YtpkenccgjlhnlaaDoorBase
namespace Go.Proofs.YtpkenccgjlhnlaaDoor
open Go.RowKit

def deskNew (s : ByteArray) : ByteArray := if Tw.walkOk s.data.toList then s else ByteArray.empty


set_option maxHeartbeats 400000 in
theorem specDeskNew (s : ByteArray) (w : World) (hs : s.size ≤ 1048576) :
    Calls Tryd.prog 64 #[.string s] w fun e w' => e = .returned (.tuple #[.agg #[.string (deskNew s), .slice none 0 0], .bool (Tw.walkOk s.data.toList)]) ∧ Below w.heap.size w w' := by
  unfold deskNew
  cases hok : Tw.walkOk s.data.toList
  all_goals
    have HOK := Lib.hid hok
    clear hok
    go_enter Tryd.func64, Tryd.ntmps64
    go_wp2_with (first | (go_at_call 46; refine (specWalkOk_is _ _ hs _ HOK.out).mono ?_; rintro e w' ⟨rfl, rfl⟩))
  · exact bodyPost_ret (v := .tuple #[.agg #[.string ByteArray.empty, .slice none 0 0], .bool false]) (by simp [results, Tryd.results64, go_sem]; rfl) rfl ⟨rfl, (Below.refl _ _).alloc (Nat.le_refl _) _⟩
  · exact bodyPost_ret (v := .tuple #[.agg #[.string s, .slice none 0 0], .bool true]) (by simp [results, Tryd.results64, go_sem]) rfl ⟨rfl, (Below.refl _ _).alloc (Nat.le_refl _) _⟩

set_option maxHeartbeats 400000 in
theorem eqStrings_nil (w : World) :
    Calls Tryd.prog 18 #[.slice none 0 0, .slice none 0 0] w fun e w' => e = .returned (.bool true) ∧ w = w' := by
  go_enter Tryd.func18, Tryd.ntmps18
  go_wp2
  refine wp_loop_rounds 1 ?_
  rw [rounds_succ]
  go_wp2
  go_ret
  exact ⟨rfl, rfl⟩

set_option maxHeartbeats 400000 in
theorem markStrings_nil (k : Int) (w : World) :
    Calls Tryd.prog 19 #[.slice none 0 0, .int .i64 k] w fun e w' => e = .returned (.int .i64 k) ∧ w = w' := by
  go_enter Tryd.func19, Tryd.ntmps19
  go_wp2
  refine wp_loop_rounds 1 ?_
  rw [rounds_succ]
  go_wp2
  go_ret
  exact ⟨rfl, rfl⟩

set_option maxHeartbeats 400000 in
theorem heldStrings_nil (k : Int) (w : World) :
    Calls Tryd.prog 20 #[.slice none 0 0, .int .i64 k] w fun e w' => e = .returned (.int .i64 k) ∧ w = w' := by
  go_enter Tryd.func20, Tryd.ntmps20
  go_wp2
  refine wp_loop_rounds 1 ?_
  rw [rounds_succ]
  go_wp2
  go_ret
  exact ⟨rfl, rfl⟩




/-- A desk without walks of before lies in block g. -/
def DeskAt (w : World) (g : Nat) (s : ByteArray) : Prop := w.heap[g]? = some (.cells #[.string s, .slice none 0 0] 25 (0, 0))
theorem DeskAt.lt {w : World} {g : Nat} {s : ByteArray} (h : DeskAt w g s) : g < w.heap.size := World.block_lt_of_cell? w ⟨g, 0, none⟩ (by unfold DeskAt at h; simp [World.cell?, h]; rfl)
theorem DeskAt.below {w w' : World} {g : Nat} {s : ByteArray} (h : DeskAt w g s) (hb : Below w.heap.size w w') : DeskAt w' g s := (hb.block _ h.lt).trans h
theorem DeskAt.alloc {w : World} {g : Nat} {s : ByteArray} (h : DeskAt w g s) (o : Obj) : DeskAt (w.alloc o) g s := h.below ((Below.refl _ _).alloc (Nat.le_refl _) o)
theorem DeskAt.cells {w : World} {g : Nat} {s : ByteArray} (h : DeskAt w g s) : w.cell? ⟨g, 0, none⟩ = some (.string s) ∧ w.cell? ⟨g, 1, none⟩ = some (.slice none 0 0) := ⟨cell_of_row _ _ _ _ _ _ h, cell_of_row _ _ _ _ _ _ h⟩
theorem DeskAt.new (w : World) (s : ByteArray) : DeskAt (w.alloc (.cells #[.string s, .slice none 0 0] 25)) w.heap.size s := heap_alloc_new w _

end Go.Proofs.YtpkenccgjlhnlaaDoor
