/-
  Contracts of l1East, l1North, stepped, placesOf.
-/
import Derived.Test.YtpkenccgjlhnlaaBase
import Derived.Test.YtpkenccgjlhnlaaTabs
import Derived.Test.YtpkenccgjlhnlaaPlacePure
import Derived.Maps.AppendAt
import Derived.Deep.RegionHeld3
import Derived.Deep.AppendLies
import Derived.Deep.DeepMust
namespace Go.Proofs.Ytpkenccgjlhnlaa
open Go.RowKit

theorem l1East_any (d : Int) (w : World) (h0 : 0 ≤ d) (h3 : d ≤ 3) :
    Calls Try.prog 36 #[.int .i64 d] w fun e w' => e = .returned (.int .i64 (Tw.east d)) ∧ w.alloc (.cells #[.int .i64 1, .int .i64 0, .int .i64 (-1), .int .i64 0] 3) = w' := by
  obtain rfl | rfl | rfl | rfl : d = 0 ∨ d = 1 ∨ d = 2 ∨ d = 3 := by omega
  all_goals
    go_enter Try.func36, Try.ntmps36
    go_wp2
    go_ret
    exact ⟨rfl, rfl⟩
theorem l1North_any (d : Int) (w : World) (h0 : 0 ≤ d) (h3 : d ≤ 3) :
    Calls Try.prog 37 #[.int .i64 d] w fun e w' => e = .returned (.int .i64 (Tw.north d)) ∧ w.alloc (.cells #[.int .i64 0, .int .i64 1, .int .i64 0, .int .i64 (-1)] 3) = w' := by
  obtain rfl | rfl | rfl | rfl : d = 0 ∨ d = 1 ∨ d = 2 ∨ d = 3 := by omega
  all_goals
    go_enter Try.func37, Try.ntmps37
    go_wp2
    go_ret
    exact ⟨rfl, rfl⟩

theorem l1East_below (d : Int) (w : World) (h0 : 0 ≤ d) (h3 : d ≤ 3) : Calls Try.prog 36 #[.int .i64 d] w fun e w' => e = .returned (.int .i64 (Tw.east d)) ∧ Below w.heap.size w w' :=
  (l1East_any d w h0 h3).mono fun _ _ ⟨he, hw⟩ => ⟨he, by rw [← hw]; exact (Below.refl _ _).alloc (Nat.le_refl _) _⟩
theorem l1North_below (d : Int) (w : World) (h0 : 0 ≤ d) (h3 : d ≤ 3) : Calls Try.prog 37 #[.int .i64 d] w fun e w' => e = .returned (.int .i64 (Tw.north d)) ∧ Below w.heap.size w w' :=
  (l1North_any d w h0 h3).mono fun _ _ ⟨he, hw⟩ => ⟨he, by rw [← hw]; exact (Below.refl _ _).alloc (Nat.le_refl _) _⟩

theorem two_more {w : World} {a : Addr} {v : Value} (h : w.cell? a = some v) (o1 o2 : Obj) : ((w.alloc o1).alloc o2).cell? a = some v := by
  have hl := World.block_lt_of_cell? w _ h
  rw [World.cell?_alloc_lt _ _ _ (by simp; omega), World.cell?_alloc_lt _ _ _ hl, h]
theorem ret_pair {a b c d : Int} (h1 : a = c) (h2 : b = d) : Ending.returned (.agg #[.int .i64 a, .int .i64 b]) = .returned (.agg #[.int .i64 c, .int .i64 d]) := by rw [h1, h2]


end Go.Proofs.Ytpkenccgjlhnlaa
