/-
  Contracts of l1East, l1North, stepped, placesOf.
-/
import Derived.Test.YtccdfndnjjjgfaaGreatDoorBase
import Derived.Test.YtccdfndnjjjgfaaGreatDoorTabs
import Derived.Test.YtccdfndnjjjgfaaGreatDoorPlacePure
import Derived.Maps.AppendAt
import Derived.Deep.RegionHeld3
import Derived.Deep.AppendLies
import Derived.Deep.DeepMust
namespace Go.Proofs.YtccdfndnjjjgfaaGreatDoor
open Go.RowKit

theorem l1East_any (d : Int) (w : World) (h0 : 0 ≤ d) (h3 : d ≤ 3) :
    Calls Tryz.prog 105 #[.int .i64 d] w fun e w' => e = .returned (.int .i64 (Tw.east d)) ∧ w.alloc (.cells #[.int .i64 1, .int .i64 0, .int .i64 (-1), .int .i64 0] 3) = w' := by
  obtain rfl | rfl | rfl | rfl : d = 0 ∨ d = 1 ∨ d = 2 ∨ d = 3 := by omega
  all_goals
    go_enter Tryz.func105, Tryz.ntmps105
    go_wp2
    go_ret
    exact ⟨rfl, rfl⟩
theorem l1North_any (d : Int) (w : World) (h0 : 0 ≤ d) (h3 : d ≤ 3) :
    Calls Tryz.prog 106 #[.int .i64 d] w fun e w' => e = .returned (.int .i64 (Tw.north d)) ∧ w.alloc (.cells #[.int .i64 0, .int .i64 1, .int .i64 0, .int .i64 (-1)] 3) = w' := by
  obtain rfl | rfl | rfl | rfl : d = 0 ∨ d = 1 ∨ d = 2 ∨ d = 3 := by omega
  all_goals
    go_enter Tryz.func106, Tryz.ntmps106
    go_wp2
    go_ret
    exact ⟨rfl, rfl⟩

theorem l1East_below (d : Int) (w : World) (h0 : 0 ≤ d) (h3 : d ≤ 3) : Calls Tryz.prog 105 #[.int .i64 d] w fun e w' => e = .returned (.int .i64 (Tw.east d)) ∧ Below w.heap.size w w' :=
  (l1East_any d w h0 h3).mono fun _ _ ⟨he, hw⟩ => ⟨he, by rw [← hw]; exact (Below.refl _ _).alloc (Nat.le_refl _) _⟩
theorem l1North_below (d : Int) (w : World) (h0 : 0 ≤ d) (h3 : d ≤ 3) : Calls Tryz.prog 106 #[.int .i64 d] w fun e w' => e = .returned (.int .i64 (Tw.north d)) ∧ Below w.heap.size w w' :=
  (l1North_any d w h0 h3).mono fun _ _ ⟨he, hw⟩ => ⟨he, by rw [← hw]; exact (Below.refl _ _).alloc (Nat.le_refl _) _⟩

theorem two_more {w : World} {a : Addr} {v : Value} (h : w.cell? a = some v) (o1 o2 : Obj) : ((w.alloc o1).alloc o2).cell? a = some v := by
  have hl := World.block_lt_of_cell? w _ h
  rw [World.cell?_alloc_lt _ _ _ (by simp; omega), World.cell?_alloc_lt _ _ _ hl, h]
theorem ret_pair {a b c d : Int} (h1 : a = c) (h2 : b = d) : Ending.returned (.agg #[.int .i64 a, .int .i64 b]) = .returned (.agg #[.int .i64 c, .int .i64 d]) := by rw [h1, h2]

set_option maxHeartbeats 1600000 in
theorem stepped_any (x y d : Int) (w : World) (hw : DirsAt w) (h0 : 0 ≤ d) (h3 : d ≤ 3) (hx : -1000000 ≤ x ∧ x ≤ 1000000) (hy : -1000000 ≤ y ∧ y ≤ 1000000) :
    Calls Tryz.prog 146 #[.agg #[.int .i64 x, .int .i64 y], .int .i64 d] w fun e w' => e = .returned (.agg #[.int .i64 (x + Tw.east d), .int .i64 (y + Tw.north d)]) ∧ Below w.heap.size w w' := by
  obtain rfl | rfl | rfl | rfl : d = 0 ∨ d = 1 ∨ d = 2 ∨ d = 3 := by omega
  · have ca := two_more hw.c0
    have cb := two_more hw.c1
    clear hw
    go_enter Tryz.func146, Tryz.ntmps146
    go_wp2
    exact bodyPost_ret (v := .agg #[.int .i64 (x + 1), .int .i64 y]) (by simp [results, Tryz.results146, go_sem]) rfl ⟨ret_pair rfl (by simp [Tw.north]), (((Below.refl _ _).alloc (Nat.le_refl _) _).alloc (by simp) _).alloc (by simp; omega) _⟩
  · have ca := two_more hw.c2
    have cb := two_more hw.c3
    clear hw
    go_enter Tryz.func146, Tryz.ntmps146
    go_wp2
    exact bodyPost_ret (v := .agg #[.int .i64 x, .int .i64 (y + 1)]) (by simp [results, Tryz.results146, go_sem]) rfl ⟨ret_pair (by simp [Tw.east]) rfl, (((Below.refl _ _).alloc (Nat.le_refl _) _).alloc (by simp) _).alloc (by simp; omega) _⟩
  · have ca := two_more hw.c4
    have cb := two_more hw.c5
    clear hw
    go_enter Tryz.func146, Tryz.ntmps146
    go_wp2
    exact bodyPost_ret (v := .agg #[.int .i64 (x + -1), .int .i64 y]) (by simp [results, Tryz.results146, go_sem]) rfl ⟨ret_pair rfl (by simp [Tw.north]), (((Below.refl _ _).alloc (Nat.le_refl _) _).alloc (by simp) _).alloc (by simp; omega) _⟩
  · have ca := two_more hw.c6
    have cb := two_more hw.c7
    clear hw
    go_enter Tryz.func146, Tryz.ntmps146
    go_wp2
    exact bodyPost_ret (v := .agg #[.int .i64 x, .int .i64 (y + -1)]) (by simp [results, Tryz.results146, go_sem]) rfl ⟨ret_pair (by simp [Tw.east]) rfl, (((Below.refl _ _).alloc (Nat.le_refl _) _).alloc (by simp) _).alloc (by simp; omega) _⟩

end Go.Proofs.YtccdfndnjjjgfaaGreatDoor
