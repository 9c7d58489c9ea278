/-
  The draw of a square and a block.
-/
import Derived.Test.YtjcagkpolfacpaaDraws
import Derived.Lib.MinMaxS
namespace Go.Proofs.Ytjcagkpolfacpaa
open Go.RowKit

theorem results_tmp5 {fn : Func} {t u v x y : Tmp} (h : fn.results = #[.tmp t, .tmp u, .tmp v, .tmp x, .tmp y]) (tmps : Array Value) (P : Program) (w : World) :
    (results fn tmps).run P w = .ok (.tuple #[tmps.getD t undef, tmps.getD u undef, tmps.getD v undef, tmps.getD x undef, tmps.getD y undef]) w := by
  simp [results, h]
set_option maxRecDepth 100000 in
set_option maxHeartbeats 3200000 in
theorem drawRunsOf (v : Value) (n : Nat) (w : World) (h : CodeAt w v n) :
    Calls Try.prog 7 #[v] w fun e w' => ∃ x a b c d : Int, e = .returned (.tuple #[.int .i64 x, .int .i64 a, .int .i64 b, .int .i64 c, .int .i64 d]) ∧ Below w.heap.size w w' := by
  go_enter Try.func7, Try.ntmps7
  go_upto_region 3 with (first
    | (go_at_call 15; refine (open_any v n _ h).mono ?_; rintro e w1 ⟨rfl, ⟨v', n', hr⟩, hb1⟩; have hd0 := Drawn.start hr)
    | (go_at_call 16; refine (pick_d hd0 (by omega) (by omega) (by omega)).mono ?_; rintro e w2 ⟨q, rfl, hq0, hq1, hd1, _⟩))
  obtain rfl | rfl | rfl | rfl | rfl : q = 0 ∨ q = 1 ∨ q = 2 ∨ q = 3 ∨ q = 4 := by omega
  all_goals
    go_wp2_with (first
      | (go_at_call 17; refine (odd_d hd5 (by omega) (by omega) (by omega)).mono ?_; rintro e w7 ⟨o, rfl, hend⟩)
      | (go_at_call 16; first
          | (refine (pick_d hd4 (by omega) (by omega) (by omega)).mono ?_; rintro e w6 ⟨d, rfl, hd0', hd1', hd5, _⟩)
          | (refine (pick_d hd3 (by omega) (by omega) (by omega)).mono ?_; rintro e w5 ⟨c, rfl, hc0', hc1', hd4, _⟩)
          | (refine (pick_d hd2 (by omega) (by omega) (by omega)).mono ?_; rintro e w4 ⟨b, rfl, hb0', hb1', hd3, _⟩)
          | (refine (pick_d hd1 (by omega) (by omega) (by omega)).mono ?_; rintro e w3 ⟨a, rfl, ha0', ha1', hd2, _⟩)))
    all_goals
      (try simp only [Exit.inBlock, Exit.then])
      refine bodyPost_ret (results_tmp5 rfl _ _ _) rfl ?_
      exact ⟨_, _, _, _, _, rfl, hend.below_base hb1 (Nat.le_refl _)⟩
end Go.Proofs.Ytjcagkpolfacpaa
