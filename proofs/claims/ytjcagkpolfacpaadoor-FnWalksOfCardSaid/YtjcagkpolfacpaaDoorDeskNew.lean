/-
  Contracts of DeskNew (both), and of the law's helpers at a desk without walks of before.
-/
import Derived.Test.YtjcagkpolfacpaaDoorBase
namespace Go.Proofs.YtjcagkpolfacpaaDoor
open Go.RowKit

def deskNew (s : ByteArray) : ByteArray := if Tw.walkOk s.data.toList then s else ByteArray.empty



set_option maxHeartbeats 400000 in
theorem eqStrings_nil (w : World) :
    Calls Tryd.prog 12 #[.slice none 0 0, .slice none 0 0] w fun e w' => e = .returned (.bool true) ∧ w = w' := by
  go_enter Tryd.func12, Tryd.ntmps12
  go_wp2
  refine wp_loop_rounds 1 ?_
  rw [rounds_succ]
  go_wp2
  go_ret
  exact ⟨rfl, rfl⟩

set_option maxHeartbeats 400000 in
theorem markStrings_nil (k : Int) (w : World) :
    Calls Tryd.prog 13 #[.slice none 0 0, .int .i64 k] w fun e w' => e = .returned (.int .i64 k) ∧ w = w' := by
  go_enter Tryd.func13, Tryd.ntmps13
  go_wp2
  refine wp_loop_rounds 1 ?_
  rw [rounds_succ]
  go_wp2
  go_ret
  exact ⟨rfl, rfl⟩

set_option maxHeartbeats 400000 in
theorem heldStrings_nil (k : Int) (w : World) :
    Calls Tryd.prog 14 #[.slice none 0 0, .int .i64 k] w fun e w' => e = .returned (.int .i64 k) ∧ w = w' := by
  go_enter Tryd.func14, Tryd.ntmps14
  go_wp2
  refine wp_loop_rounds 1 ?_
  rw [rounds_succ]
  go_wp2
  go_ret
  exact ⟨rfl, rfl⟩





end Go.Proofs.YtjcagkpolfacpaaDoor
