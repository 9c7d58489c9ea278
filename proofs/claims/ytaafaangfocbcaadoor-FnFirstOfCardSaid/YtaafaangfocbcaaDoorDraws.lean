/-
  The draws of laws on walks that avoid themselves.
-/
import Derived.Test.YtaafaangfocbcaaDoorDrawAvoid
namespace Go.Proofs.YtaafaangfocbcaaDoor
open Go.RowKit

theorem Drawn.below_base {w w1 w2 : World} {R n p k : Nat} {v : Value} (h : Drawn w1 w2 R v n p k) (hb : Below w.heap.size w w1) (hR : w.heap.size ≤ R) : Below w.heap.size w w2 := by
  obtain ⟨_, _, _, hg⟩ := h
  exact hb.grown hg hb.size (fun j hj => by cases hj; exact hR)

set_option maxHeartbeats 800000 in
theorem drawAvoidsOk (v : Value) (n : Nat) (w : World) (h : CodeAt w v n) :
    Calls Tryd.prog 11 #[v] w fun e w' => ∃ s : ByteArray, e = .returned (.string s) ∧ s.size ≤ 40 ∧ Below w.heap.size w w' := by
  go_enter Tryd.func11, Tryd.ntmps11
  go_wp2_with (first
    | (go_at_call 43; refine (open_any v n _ h).mono ?_; rintro e w1 ⟨rfl, ⟨v', n', hr⟩, hb1⟩)
    | (go_at_call 42; refine (avoid_d w1 w1 _ n' 0 0 v' _ (Drawn.start hr) (by omega) (by omega) (by omega)).mono ?_; rintro e w2 ⟨s, rfl, hs, hd⟩))
  go_ret
  exact ⟨s, rfl, hs, hd.below_base hb1 (Nat.le_refl _)⟩

set_option maxHeartbeats 800000 in
theorem drawGoesOn (v : Value) (n : Nat) (w : World) (h : CodeAt w v n) :
    Calls Tryd.prog 17 #[v] w fun e w' => ∃ s : ByteArray, e = .returned (.string s) ∧ s.size ≤ 40 ∧ Below w.heap.size w w' := by
  go_enter Tryd.func17, Tryd.ntmps17
  go_wp2_with (first
    | (go_at_call 43; refine (open_any v n _ h).mono ?_; rintro e w1 ⟨rfl, ⟨v', n', hr⟩, hb1⟩)
    | (go_at_call 42; refine (avoid_d w1 w1 _ n' 0 0 v' _ (Drawn.start hr) (by omega) (by omega) (by omega)).mono ?_; rintro e w2 ⟨s, rfl, hs, hd⟩))
  go_ret
  exact ⟨s, rfl, hs, hd.below_base hb1 (Nat.le_refl _)⟩

end Go.Proofs.YtaafaangfocbcaaDoor
