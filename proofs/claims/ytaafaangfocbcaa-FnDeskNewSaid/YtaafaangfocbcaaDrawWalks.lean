/-
  The draws of laws on walks and their ways.
-/
import Derived.Test.YtaafaangfocbcaaDrawWalk
import Derived.Test.YtaafaangfocbcaaDraws
import Derived.Test.YtaafaangfocbcaaMoved
import Derived.Test.YtaafaangfocbcaaBack
namespace Go.Proofs.Ytaafaangfocbcaa
open Go.RowKit

theorem lit_first {W w' : World} {R : Nat} {cs ds : Array Value} {t u : TypeId} (hR : R < W.heap.size) (hg : ((W.alloc (.cells cs t)).alloc (.cells ds u)).grownBy w' (some R)) (j : Nat) (x : Value) (hx : cs[j]? = some x) : w'.cell? ⟨W.heap.size, j, none⟩ = some x := by
  rw [hg.cell_far ⟨W.heap.size, j, none⟩ (by simp; omega) (by simp; omega)]
  exact (((Below.refl _ _).alloc (w := W.alloc (.cells cs t)) (Nat.le_refl _) (.cells ds u)).cell (p := ⟨W.heap.size, j, none⟩) (by simp)).trans ((cell_of_row _ _ _ _ _ _ (heap_alloc_new W _)).trans hx)
theorem lit_second {W w' : World} {R : Nat} {cs ds : Array Value} {t u : TypeId} (hR : R < W.heap.size) (hg : ((W.alloc (.cells cs t)).alloc (.cells ds u)).grownBy w' (some R)) (j : Nat) (x : Value) (hx : ds[j]? = some x) : w'.cell? ⟨W.heap.size + 1, j, none⟩ = some x := by
  have h := lit_cell (W := W.alloc (.cells cs t)) (by simp; omega) hg j x hx
  simpa using h
theorem movedOn_len (l : List UInt8) (k : Int) : (Tw.movedOn l k).length ≤ l.length := by
  unfold Tw.movedOn
  split
  · rw [Tw.length_moved]
    exact Nat.le_refl _
  · simp
theorem backWalk_len (l : List UInt8) : (Tw.backWalk l).length ≤ l.length := by
  unfold Tw.backWalk
  split <;> simp
theorem wayLen (l : List UInt8) (way : Int) : (Tw.inWay l way).length ≤ l.length := by
  unfold Tw.inWay
  split <;> simp
theorem movedSome (s : ByteArray) (k : Int) (w : World) (hs : s.size ≤ 1048576) (hk : -9223372036854775808 ≤ k ∧ k ≤ 9223372036854775807) :
    Calls Try.prog 38 #[.string s, .int .i64 k] w fun e w' => ∃ t : ByteArray, e = .returned (.string t) ∧ t.size ≤ s.size ∧ Below w.heap.size w w' := by
  refine (specMovedOn s k w hs hk).mono ?_
  rintro e w' ⟨rfl, hb⟩
  exact ⟨_, rfl, by rw [Tw.str_size, ← size_data s]; exact movedOn_len _ _, hb⟩


theorem div19 {q : Int} (h0 : 0 ≤ q) (h1 : q < 20) : ∃ d : Int, q.tdiv 19 = d ∧ 0 ≤ d ∧ d ≤ 1 := by
  refine ⟨_, rfl, ?_⟩
  rw [Int.tdiv_eq_ediv_of_nonneg h0]
  omega






set_option maxHeartbeats 1600000 in
theorem drawDeskNew (v : Value) (n : Nat) (w : World) (h : CodeAt w v n) :
    Calls Try.prog 5 #[v] w fun e w' => ∃ s : ByteArray, e = .returned (.string s) ∧ s.size ≤ 41 ∧ Below w.heap.size w w' := by
  go_enter Try.func5, Try.ntmps5
  go_wp2_with (first
    | (go_at_call 16; refine (open_any v n _ h).mono ?_; rintro e w1 ⟨rfl, ⟨v', n', hr⟩, hb1⟩; have hd0 := Drawn.start hr)
    | (go_at_call 15; refine (walk_d w1 w1 _ n' 0 _ v' 3 hd0 (by omega) (by omega) (by omega)).mono ?_; rintro e w2 ⟨s, rfl, hs, hend⟩))
  go_ret
  exact ⟨_, rfl, by omega, hend.below_base hb1 (Nat.le_refl _)⟩

end Go.Proofs.Ytaafaangfocbcaa
