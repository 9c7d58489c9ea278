/-
  The draws of laws on walks that are caught, and on unfolded ones.
-/
import Derived.Test.YtaafaangfocbcaaDoorDraws
namespace Go.Proofs.YtaafaangfocbcaaDoor
open Go.RowKit

theorem div29 {q : Int} (h0 : 0 ≤ q) (h1 : q < 30) : ∃ d : Int, q.tdiv 29 = d ∧ 0 ≤ d ∧ d ≤ 1 := by
  refine ⟨_, rfl, ?_⟩
  rw [Int.tdiv_eq_ediv_of_nonneg h0]
  omega

set_option maxHeartbeats 1600000 in
theorem drawCaughtOk (v : Value) (n : Nat) (w : World) (h : CodeAt w v n) :
    Calls Tryd.prog 23 #[v] w fun e w' => ∃ s : ByteArray, e = .returned (.string s) ∧ s.size ≤ 40 ∧ Below w.heap.size w w' := by
  go_enter Tryd.func23, Tryd.ntmps23
  go_wp2_with (first
    | (go_at_call 43; refine (open_any v n _ h).mono ?_; rintro e w1 ⟨rfl, ⟨v', n', hr⟩, hb1⟩; have hd := Drawn.start hr)
    | (go_at_call 55; first
        | (refine (pick_d (hd.alloc _) (by omega) (by omega) (by omega)).mono ?_; rintro e w3 ⟨y, rfl, hy0, hy1, hd', hg'⟩; have hlit := lit_cell hd.lt hg'; have hd := hd'; obtain rfl | rfl | rfl | rfl | rfl : y = 0 ∨ y = 1 ∨ y = 2 ∨ y = 3 ∨ y = 4 := by omega
           all_goals (have l0 := hlit 0 _ rfl; have l1 := hlit 1 _ rfl; have l2 := hlit 2 _ rfl; have l3 := hlit 3 _ rfl; have l4 := hlit 4 _ rfl))
        | (refine (pick_d hd (by omega) (by omega) (by omega)).mono ?_; rintro e w3 ⟨y, rfl, hy0, hy1, hd, _⟩; rcases zero_or y with rfl | hyy))
    | (go_at_call 42; refine (avoid_d w1 _ _ n' 0 _ v' _ hd (by omega) (by omega) (by omega)).mono ?_; rintro e w4 ⟨s, rfl, hs, hd⟩))
  all_goals
    go_ret
    exact ⟨_, rfl, by first | omega | (simp [lit_size]; done), hd.below_base hb1 (Nat.le_refl _)⟩

set_option maxHeartbeats 1600000 in
theorem drawUnfoldedOf (v : Value) (n : Nat) (w : World) (h : CodeAt w v n) :
    Calls Tryd.prog 20 #[v] w fun e w' => ∃ (s : ByteArray) (p way : Int), e = .returned (.tuple #[.string s, .int .i64 p, .int .i64 way]) ∧ s.size ≤ 40 ∧ -1 ≤ p ∧ p ≤ 100 ∧ 0 ≤ way ∧ way ≤ 8 ∧ Below w.heap.size w w' := by
  go_enter Tryd.func20, Tryd.ntmps20
  go_wp2_with (first
    | (go_at_call 43; refine (open_any v n _ h).mono ?_; rintro e w1 ⟨rfl, ⟨v', n', hr⟩, hb1⟩; have hd0 := Drawn.start hr)
    | (go_at_call 42; refine (avoid_d w1 _ _ n' 0 _ v' _ hd0 (by omega) (by omega) (by omega)).mono ?_; rintro e w2 ⟨s, rfl, hs, hd1⟩)
    | (go_at_call 55; first
        | (have hq := hd3; refine (pick_d hd3 (by omega) (by omega) (by omega)).mono ?_; rintro e w5 ⟨z, rfl, hz0, hz1, hd4, _⟩)
        | (have hq := hd2; refine (pick_d hd2 (by omega) (by omega) (by omega)).mono ?_; rintro e w4 ⟨q, rfl, hq0, hq1, hd3, _⟩; obtain ⟨d, hdq, hd0', hd1'⟩ := div29 hq0 hq1)
        | (refine (pick_d hd1 (by omega) (by omega) (by omega)).mono ?_; rintro e w3 ⟨y, rfl, hy0, hy1, hd2, _⟩)))
  refine bodyPost_ret (v := .tuple #[.string s, .int .i64 (y - d), .int .i64 z]) (by simp [results, Tryd.results20, go_sem]) rfl ?_
  exact ⟨s, y - d, z, rfl, hs, by omega, by omega, hz0, by omega, hd4.below_base hb1 (Nat.le_refl _)⟩

end Go.Proofs.YtaafaangfocbcaaDoor
