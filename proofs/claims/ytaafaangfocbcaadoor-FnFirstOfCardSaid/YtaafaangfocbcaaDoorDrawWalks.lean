/-
  The draws of laws on walks and their ways.
-/
import Derived.Test.YtaafaangfocbcaaDoorDrawWalk
import Derived.Test.YtaafaangfocbcaaDoorDraws
import Derived.Test.YtaafaangfocbcaaDoorMoved
import Derived.Test.YtaafaangfocbcaaDoorBack
namespace Go.Proofs.YtaafaangfocbcaaDoor
open Go.RowKit

theorem lit_first {W w' : World} {R : Nat} {cs ds : Array Value} {t u : TypeId} (hR : R < W.heap.size) (hg : ((W.alloc (.cells cs t)).alloc (.cells ds u)).grownBy w' (some R)) (j : Nat) (x : Value) (hx : cs[j]? = some x) : w'.cell? ⟨W.heap.size, j, none⟩ = some x := by
  rw [hg.cell_far ⟨W.heap.size, j, none⟩ (by simp; omega) (by simp; omega)]
  exact (((Below.refl _ _).alloc (w := W.alloc (.cells cs t)) (Nat.le_refl _) (.cells ds u)).cell (p := ⟨W.heap.size, j, none⟩) (by simp)).trans ((cell_of_row _ _ _ _ _ _ (heap_alloc_new W _)).trans hx)
theorem lit_second {W w' : World} {R : Nat} {cs ds : Array Value} {t u : TypeId} (hR : R < W.heap.size) (hg : ((W.alloc (.cells cs t)).alloc (.cells ds u)).grownBy w' (some R)) (j : Nat) (x : Value) (hx : ds[j]? = some x) : w'.cell? ⟨W.heap.size + 1, j, none⟩ = some x := by
  have h := lit_cell (W := W.alloc (.cells cs t)) (by simp; omega) hg j x hx
  simpa using h
theorem movedOn_len (l : List UInt8) (k : Int) : (Tw.movedOn l k).length ≤ l.length := by
  unfold Tw.movedOn
  split
  · rw [Tw.length_moved]
    exact Nat.le_refl _
  · simp
theorem backWalk_len (l : List UInt8) : (Tw.backWalk l).length ≤ l.length := by
  unfold Tw.backWalk
  split <;> simp
theorem wayLen (l : List UInt8) (way : Int) : (Tw.inWay l way).length ≤ l.length := by
  unfold Tw.inWay
  split <;> simp
theorem movedSome (s : ByteArray) (k : Int) (w : World) (hs : s.size ≤ 1048576) (hk : -9223372036854775808 ≤ k ∧ k ≤ 9223372036854775807) :
    Calls Tryd.prog 61 #[.string s, .int .i64 k] w fun e w' => ∃ t : ByteArray, e = .returned (.string t) ∧ t.size ≤ s.size ∧ Below w.heap.size w w' := by
  refine (specMovedOn s k w hs hk).mono ?_
  rintro e w' ⟨rfl, hb⟩
  exact ⟨_, rfl, by rw [Tw.str_size, ← size_data s]; exact movedOn_len _ _, hb⟩

set_option maxHeartbeats 1600000 in
theorem simple_d (w W : World) (R n p k : Nat) (v : Value) (h : Drawn w W R v n p k) (hp : p + k ≤ 80000) :
    Calls Tryd.prog 59 #[.pointer (some ⟨R, 0, none⟩)] W fun e w' => ∃ s : ByteArray, e = .returned (.string s) ∧ s.size ≤ 41 ∧ Drawn w w' R v n p (k + 70) := by
  go_enter Tryd.func59, Tryd.ntmps59
  go_wp2_with (first
    | (go_at_call 55; first
        | (refine (pick_d h (by omega) (by omega) (by omega)).mono ?_; rintro e w1 ⟨x, rfl, hx0, hx1, hd1, _⟩; rcases zero_or x with rfl | hxx)
        | (refine (pick_d hd2 (by omega) (by omega) (by omega)).mono ?_; rintro e w3 ⟨y, rfl, hy0, hy1, hd3, _⟩))
    | (go_at_call 57; refine (walk_d w w1 R n p _ v 9 hd1 (by omega) (by omega) (by omega)).mono ?_; rintro e w6 ⟨s, rfl, hs, hend⟩)
    | (go_at_call 71; refine (grown_d w w1 R n p _ v hd1 (by omega)).mono ?_; rintro e w2 ⟨s, rfl, hs4, hs, hd2⟩)
    | (go_at_call 61; refine (movedSome s y _ (by omega) (by omega)).mono ?_; rintro e w4 ⟨t, rfl, ht, hb4⟩; have hend := hd3.below hb4))
  all_goals
    go_ret
    exact ⟨_, rfl, by omega, hend.mono (by omega)⟩

theorem div19 {q : Int} (h0 : 0 ≤ q) (h1 : q < 20) : ∃ d : Int, q.tdiv 19 = d ∧ 0 ≤ d ∧ d ≤ 1 := by
  refine ⟨_, rfl, ?_⟩
  rw [Int.tdiv_eq_ediv_of_nonneg h0]
  omega

set_option maxHeartbeats 1600000 in
theorem drawInWay (v : Value) (n : Nat) (w : World) (h : CodeAt w v n) :
    Calls Tryd.prog 29 #[v] w fun e w' => ∃ (s : ByteArray) (way : Int), e = .returned (.tuple #[.string s, .int .i64 way]) ∧ s.size ≤ 41 ∧ -1 ≤ way ∧ way ≤ 8 ∧ Below w.heap.size w w' := by
  go_enter Tryd.func29, Tryd.ntmps29
  go_wp2_with (first
    | (go_at_call 43; refine (open_any v n _ h).mono ?_; rintro e w1 ⟨rfl, ⟨v', n', hr⟩, hb1⟩; have hd0 := Drawn.start hr)
    | (go_at_call 57; refine (walk_d w1 w1 _ n' 0 _ v' 12 hd0 (by omega) (by omega) (by omega)).mono ?_; rintro e w2 ⟨s, rfl, hs, hd1⟩)
    | (go_at_call 55; first
        | (refine (pick_d hd2 (by omega) (by omega) (by omega)).mono ?_; rintro e w4 ⟨q, rfl, hq0, hq1, hd3, _⟩; obtain ⟨d, hdq, hd0', hd1'⟩ := div19 hq0 hq1)
        | (refine (pick_d hd1 (by omega) (by omega) (by omega)).mono ?_; rintro e w3 ⟨y, rfl, hy0, hy1, hd2, _⟩)))
  refine bodyPost_ret (v := .tuple #[.string s, .int .i64 (y - d)]) (by simp [results, Tryd.results29, go_sem]) rfl ?_
  exact ⟨s, y - d, rfl, hs, by omega, by omega, hd3.below_base hb1 (Nat.le_refl _)⟩

set_option maxHeartbeats 1600000 in
theorem drawWaysSame (v : Value) (n : Nat) (w : World) (h : CodeAt w v n) :
    Calls Tryd.prog 26 #[v] w fun e w' => ∃ s : ByteArray, e = .returned (.string s) ∧ s.size ≤ 41 ∧ Below w.heap.size w w' := by
  go_enter Tryd.func26, Tryd.ntmps26
  go_wp2_with (first
    | (go_at_call 43; refine (open_any v n _ h).mono ?_; rintro e w1 ⟨rfl, ⟨v', n', hr⟩, hb1⟩; have hd0 := Drawn.start hr)
    | (go_at_call 57; refine (walk_d w1 w1 _ n' 0 _ v' 9 hd0 (by omega) (by omega) (by omega)).mono ?_; rintro e w2 ⟨s, rfl, hs, hd1⟩)
    | (go_at_call 55; refine (pick_d ((hd1.alloc _).alloc _) (by omega) (by omega) (by omega)).mono ?_; rintro e w3 ⟨y, rfl, hy0, hy1, hend, hg⟩; have f1 := lit_first hd1.lt hg; have f2 := lit_second hd1.lt hg; obtain rfl | rfl | rfl | rfl | rfl | rfl | rfl : y = 0 ∨ y = 1 ∨ y = 2 ∨ y = 3 ∨ y = 4 ∨ y = 5 ∨ y = 6 := by omega
       all_goals (have l0 := f1 0 _ rfl; have l1 := f1 1 _ rfl; have l2 := f1 2 _ rfl; have l3 := f1 3 _ rfl; have l4 := f1 4 _ rfl; have m0 := f2 0 _ rfl; have m1 := f2 1 _ rfl; have m2 := f2 2 _ rfl; have m3 := f2 3 _ rfl; have m4 := f2 4 _ rfl; have m5 := f2 5 _ rfl; have m6 := f2 6 _ rfl)))
  all_goals
    go_ret
    exact ⟨_, rfl, by first | omega | (simp [lit_size]; done), hend.below_base hb1 (Nat.le_refl _)⟩


set_option maxHeartbeats 1600000 in
theorem drawFirstOf (v : Value) (n : Nat) (w : World) (h : CodeAt w v n) :
    Calls Tryd.prog 33 #[v] w fun e w' => ∃ s : ByteArray, e = .returned (.string s) ∧ s.size ≤ 41 ∧ Below w.heap.size w w' := by
  go_enter Tryd.func33, Tryd.ntmps33
  go_wp2_with (first
    | (go_at_call 43; refine (open_any v n _ h).mono ?_; rintro e w1 ⟨rfl, ⟨v', n', hr⟩, hb1⟩; have hd0 := Drawn.start hr)
    | (go_at_call 57; refine (walk_d w1 w1 _ n' 0 _ v' 9 hd0 (by omega) (by omega) (by omega)).mono ?_; rintro e w2 ⟨s, rfl, hs, hd1⟩)
    | (go_at_call 59; refine (simple_d w1 w2 _ n' 0 _ v' hd1 (by omega)).mono ?_; rintro e w3 ⟨t, rfl, ht, hd2⟩)
    | (go_at_call 55; refine (pick_d (hd2.alloc _) (by omega) (by omega) (by omega)).mono ?_; rintro e w4 ⟨y, rfl, hy0, hy1, hend, hg⟩; have hlit := lit_cell hd2.lt hg; obtain rfl | rfl : y = 0 ∨ y = 1 := by omega
       all_goals (have l0 := hlit 0 _ rfl; have l1 := hlit 1 _ rfl)))
  all_goals
    go_ret
    exact ⟨_, rfl, by omega, hend.below_base hb1 (Nat.le_refl _)⟩

set_option maxHeartbeats 3200000 in
theorem drawSameShape (v : Value) (n : Nat) (w : World) (h : CodeAt w v n) :
    Calls Tryd.prog 37 #[v] w fun e w' => ∃ s t : ByteArray, e = .returned (.tuple #[.string s, .string t]) ∧ s.size ≤ 41 ∧ t.size ≤ 41 ∧ Below w.heap.size w w' := by
  go_enter Tryd.func37, Tryd.ntmps37
  go_wp2_with (first
    | (go_at_call 43; refine (open_any v n _ h).mono ?_; rintro e w1 ⟨rfl, ⟨v', n', hr⟩, hb1⟩; have hd0 := Drawn.start hr)
    | (go_at_call 59; refine (simple_d w1 w1 _ n' 0 _ v' hd0 (by omega)).mono ?_; rintro e w2 ⟨s, rfl, hs, hd1⟩)
    | (go_at_call 40; fail))
  have hs1 : s.size ≤ 1048576 := by omega
  have hcl := specClosedOk s w2 hs1
  cases hc : Tw.closed s.data.toList
  · rw [hc] at hcl
    have HCL := Lib.hid hcl
    clear hcl hc
    go_wp2_with (first
      | (go_at_call 40; refine HCL.out.mono ?_; rintro e w3 ⟨rfl, hb3⟩; have hd2 := hd1.below hb3)
      | (go_at_call 59; refine (simple_d w1 w3 _ n' 0 _ v' hd2 (by omega)).mono ?_; rintro e w4 ⟨t, rfl, ht, hend⟩))
    go_ret2
    exact ⟨_, _, rfl, hs, ht, hend.below_base hb1 (Nat.le_refl _)⟩
  · have h1 := Tw.closed_len hc
    rw [size_data] at h1
    rw [hc] at hcl
    have HCL := Lib.hid hcl
    clear hcl hc
    go_wp2_with (first
      | (go_at_call 40; refine HCL.out.mono ?_; rintro e w3 ⟨rfl, hb3⟩; have hd2 := hd1.below hb3)
      | (go_at_call 59; refine (simple_d w1 w4 _ n' 0 _ v' hd3 (by omega)).mono ?_; rintro e w5 ⟨t, rfl, ht, hend⟩)
      | (go_at_call 55; first
          | (refine (pick_d hd2 (by omega) (by omega) (by omega)).mono ?_; rintro e w4 ⟨x, rfl, hx0, hx1, hd3, _⟩; rcases zero_or x with rfl | hxx)
          | (refine (pick_d hd3 (by omega) (by omega) (by omega)).mono ?_; rintro e w5 ⟨y, rfl, hy0, hy1, hd4, _⟩)
          | (refine (pick_d hd5 (by omega) (by omega) (by omega)).mono ?_; rintro e w7 ⟨z, rfl, hz0, hz1, hd6, _⟩)
          | (refine (pick_d hd6 (by omega) (by omega) (by omega)).mono ?_; rintro e w8 ⟨q, rfl, hq0, hq1, hend, _⟩; rcases zero_or q with rfl | hqq))
      | (go_at_call 61; refine (movedSome s y _ hs1 (by omega)).mono ?_; rintro e w6 ⟨a, rfl, ha, hb6⟩; have hd5 := hd4.below hb6)
      | (go_at_call 31; refine (specInWay a z _ (by omega)).mono ?_; rintro e w' ⟨rfl, rfl⟩; have ht := wayLen a.data.toList z; rw [← Tw.str_size, size_data] at ht; generalize Tw.str (Tw.inWay a.data.toList z) = t at *)
      | (go_at_call 62; refine (specBackWalk t _ (by omega)).mono ?_; rintro e w' ⟨rfl, rfl⟩; have hu := backWalk_len t.data.toList; rw [← Tw.str_size, size_data] at hu; generalize Tw.str (Tw.backWalk t.data.toList) = u at *))
    all_goals
      go_ret2
      exact ⟨_, _, rfl, hs, by omega, hend.below_base hb1 (Nat.le_refl _)⟩


end Go.Proofs.YtaafaangfocbcaaDoor
