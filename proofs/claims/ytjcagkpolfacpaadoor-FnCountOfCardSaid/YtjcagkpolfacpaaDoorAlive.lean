/-
  The law's 'alive': the program's WordOk tells FLR from X.
-/
import Derived.Test.YtjcagkpolfacpaaDoorBase
namespace Go.Proofs.YtjcagkpolfacpaaDoor
open Go.RowKit

set_option maxHeartbeats 800000 in
theorem word_yes (w : World) : Calls Tryd.prog 32 #[.string ⟨#[70, 76, 82]⟩] w fun e w' => e = .returned (.bool true) ∧ w = w' := by
  go_enter Tryd.func32, Tryd.ntmps32
  go_wp2
  refine wp_loop_rounds 4 ?_
  rw [rounds_succ]
  go_wp2
  rw [rounds_succ]
  go_wp2
  rw [rounds_succ]
  go_wp2
  rw [rounds_succ]
  go_wp2
  go_ret
  exact ⟨rfl, rfl⟩

set_option maxHeartbeats 800000 in
theorem word_no (w : World) : Calls Tryd.prog 32 #[.string ⟨#[88]⟩] w fun e w' => e = .returned (.bool false) ∧ w = w' := by
  go_enter Tryd.func32, Tryd.ntmps32
  go_wp2
  refine wp_loop_rounds 1 ?_
  rw [rounds_succ]
  go_wp2
  go_ret
  exact ⟨rfl, rfl⟩

set_option maxHeartbeats 800000 in
theorem alive_yes (w : World) : Calls Tryd.prog 16 #[] w fun e w' => e = .returned (.bool true) ∧ w = w' := by
  go_enter Tryd.func16, Tryd.ntmps16
  go_wp2_with (go_at_call 32; first
    | (have hq := st1; refine (word_no _).mono ?_; rintro e w' ⟨rfl, rfl⟩)
    | (refine (word_yes _).mono ?_; rintro e w' ⟨rfl, rfl⟩; have st1 := True.intro))
  go_ret
  exact ⟨rfl, rfl⟩

end Go.Proofs.YtjcagkpolfacpaaDoor
