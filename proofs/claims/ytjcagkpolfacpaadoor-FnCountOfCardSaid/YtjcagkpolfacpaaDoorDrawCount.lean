/-
  The draws of a number of steps.
-/
import Derived.Test.YtjcagkpolfacpaaDoorDraws
namespace Go.Proofs.YtjcagkpolfacpaaDoor
open Go.RowKit

set_option maxHeartbeats 1600000 in
theorem drawCountOf (v : Value) (n : Nat) (w : World) (h : CodeAt w v n) :
    Calls Tryd.prog 15 #[v] w fun e w' => ∃ s : Int, e = .returned (.int .i64 s) ∧ -1 ≤ s ∧ s ≤ 8 ∧ Below w.heap.size w w' := by
  go_enter Tryd.func15, Tryd.ntmps15
  go_wp2_with (first
    | (go_at_call 30; refine (open_any v n _ h).mono ?_; rintro e w1 ⟨rfl, ⟨v', n', hr⟩, hb1⟩; have hd0 := Drawn.start hr)
    | (go_at_call 31; refine (pick_d (hd0.alloc _) (by omega) (by omega) (by omega)).mono ?_; rintro e w2 ⟨y, rfl, hy0, hy1, hend, hg⟩; have hlit := lit_cell hd0.lt hg; obtain rfl | rfl | rfl | rfl | rfl | rfl | rfl | rfl | rfl | rfl | rfl : y = 0 ∨ y = 1 ∨ y = 2 ∨ y = 3 ∨ y = 4 ∨ y = 5 ∨ y = 6 ∨ y = 7 ∨ y = 8 ∨ y = 9 ∨ y = 10 := (by omega); all_goals (have l0 := hlit 0 _ rfl; have l1 := hlit 1 _ rfl; have l2 := hlit 2 _ rfl; have l3 := hlit 3 _ rfl; have l4 := hlit 4 _ rfl; have l5 := hlit 5 _ rfl; have l6 := hlit 6 _ rfl; have l7 := hlit 7 _ rfl; have l8 := hlit 8 _ rfl; have l9 := hlit 9 _ rfl; have l10 := hlit 10 _ rfl)))
  all_goals
    go_ret
    exact ⟨_, rfl, by decide, by decide, hend.below_base hb1 (Nat.le_refl _)⟩
set_option maxHeartbeats 1600000 in
theorem drawWalksOf (v : Value) (n : Nat) (w : World) (h : CodeAt w v n) :
    Calls Tryd.prog 17 #[v] w fun e w' => ∃ s : Int, e = .returned (.int .i64 s) ∧ -1 ≤ s ∧ s ≤ 8 ∧ Below w.heap.size w w' := by
  go_enter Tryd.func17, Tryd.ntmps17
  go_wp2_with (first
    | (go_at_call 30; refine (open_any v n _ h).mono ?_; rintro e w1 ⟨rfl, ⟨v', n', hr⟩, hb1⟩; have hd0 := Drawn.start hr)
    | (go_at_call 31; refine (pick_d (hd0.alloc _) (by omega) (by omega) (by omega)).mono ?_; rintro e w2 ⟨y, rfl, hy0, hy1, hend, hg⟩; have hlit := lit_cell hd0.lt hg; obtain rfl | rfl | rfl | rfl | rfl | rfl | rfl | rfl | rfl | rfl : y = 0 ∨ y = 1 ∨ y = 2 ∨ y = 3 ∨ y = 4 ∨ y = 5 ∨ y = 6 ∨ y = 7 ∨ y = 8 ∨ y = 9 := (by omega); all_goals (have l0 := hlit 0 _ rfl; have l1 := hlit 1 _ rfl; have l2 := hlit 2 _ rfl; have l3 := hlit 3 _ rfl; have l4 := hlit 4 _ rfl; have l5 := hlit 5 _ rfl; have l6 := hlit 6 _ rfl; have l7 := hlit 7 _ rfl; have l8 := hlit 8 _ rfl; have l9 := hlit 9 _ rfl)))
  all_goals
    go_ret
    exact ⟨_, rfl, by decide, by decide, hend.below_base hb1 (Nat.le_refl _)⟩
end Go.Proofs.YtjcagkpolfacpaaDoor
