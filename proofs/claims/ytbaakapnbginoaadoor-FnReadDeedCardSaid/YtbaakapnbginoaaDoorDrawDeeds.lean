/-
  The draws of laws on deeds.
-/
import Derived.Test.YtbaakapnbginoaaDoorDrawDeed
import Derived.Test.YtbaakapnbginoaaDoorDraws
namespace Go.Proofs.YtbaakapnbginoaaDoor
open Go.RowKit

set_option maxRecDepth 100000 in
set_option maxHeartbeats 800000 in
theorem drawDeedText (v : Value) (n : Nat) (w : World) (h : CodeAt w v n) :
    Calls Tryd.prog 48 #[v] w fun e w' => ∃ K M : Int, e = .returned (.agg #[.int .i64 K, .int .i64 M]) ∧ 0 ≤ K ∧ K ≤ 11 ∧ -1 ≤ M ∧ M ≤ 100 ∧ Below w.heap.size w w' := by
  have hz := heap_alloc_new w (.cells #[.int .i64 0, .int .i64 0] 23)
  have hc : CodeAt (w.alloc (.cells #[.int .i64 0, .int .i64 0] 23)) v n := by
    rcases h with h | ⟨a, cap, hv, hl, hc⟩
    · exact .inl h
    · refine .inr ⟨a, cap, hv, hl, fun j hj => ?_⟩
      obtain ⟨b, h1, h2, h3⟩ := hc j hj
      exact ⟨b, h1, h2, (((Below.refl w.heap.size w).alloc (Nat.le_refl _) _).cell (World.block_lt_of_cell? w _ h3)).trans h3⟩
  obtain ⟨W, hW⟩ : ∃ W, w.alloc (.cells #[.int .i64 0, .int .i64 0] 23) = W := ⟨_, rfl⟩
  have hbW : Below w.heap.size w W := hW ▸ (Below.refl _ _).alloc (Nat.le_refl _) _
  have hsW : w.heap.size < W.heap.size := by rw [← hW]; simp
  rw [hW] at hz hc
  have HW := Lib.hid hW
  have HZ := Lib.hid hz
  clear hW hz h
  go_enter Tryd.func48, Tryd.ntmps48
  go_wp2_with fail
  rw [HW.out]
  go_wp2_with (first
    | (go_at_call 72; refine (open_any v n _ hc).mono ?_; rintro e w1 ⟨rfl, ⟨v', n', hr⟩, hb1⟩)
    | (go_at_call 86; refine (walk_d w1 w1 _ n' 0 0 v' _ (Drawn.start hr) (by omega) (by omega) (by omega)).mono ?_; rintro e w2 ⟨s, rfl, hs, hd⟩)
    | (go_at_call 74; refine (deed_d s w1 w2 _ n' 0 _ v' hd (by omega) hs).mono ?_; rintro e w3 ⟨K, M, rfl, hK0, hK1, hM0, hM1, hd3⟩; have hb3 := hd3.below_base hb1 (Nat.le_refl _); have hr3 := (hb3.block w.heap.size (by omega)).trans HZ.out; have c0 := cell_of_row _ _ 0 _ _ _ hr3; have c1 := cell_of_row _ _ 1 _ _ _ hr3; have f0 := frozen_of_row _ _ 0 _ _ hr3; have f1 := frozen_of_row _ _ 1 _ _ hr3; have q := two_put hr3 (.int .i64 K) (.int .i64 M); have q0 := cell_of_row _ _ 0 _ _ _ q; have q1 := cell_of_row _ _ 1 _ _ _ q; clear q))
  refine bodyPost_ret (v := .agg #[.int .i64 K, .int .i64 M]) (by simp [results, Tryd.results48, go_sem, q0, q1]) rfl ⟨K, M, rfl, hK0, hK1, hM0, hM1, ?_⟩
  exact ((hbW.trans (hb3.mono (by omega))).setCell (Nat.le_refl _) _).setCell (Nat.le_refl _) _

end Go.Proofs.YtbaakapnbginoaaDoor
