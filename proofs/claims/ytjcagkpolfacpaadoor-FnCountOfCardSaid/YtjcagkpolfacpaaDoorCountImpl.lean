/-
  Contract of the program's CountOf.
-/
import Derived.Test.YtjcagkpolfacpaaDoorAvoidSeq
namespace Go.Proofs.YtjcagkpolfacpaaDoor
open Go Go.RowKit Go.Maps Go.WideMaps Go.Shelf

attribute [local go_sem] Oper.semAt_some

namespace Tw
theorem count_le {n : Nat} (hn : n ≤ 7) : countOf n ≤ 2172 := by
  have h2 := congrArg (fun l : List Nat => l[n]?) counts
  simp only [List.getElem?_map, List.getElem?_range (show n < 8 by omega), Option.map_some] at h2
  obtain rfl | rfl | rfl | rfl | rfl | rfl | rfl | rfl : n = 0 ∨ n = 1 ∨ n = 2 ∨ n = 3 ∨ n = 4 ∨ n = 5 ∨ n = 6 ∨ n = 7 := by omega
  all_goals
    have := Option.some.inj h2
    omega
/-- What CountOf says. -/
def countI (s : Int) : Int := if 0 ≤ s ∧ s ≤ 7 then (countOf s.toNat : Int) else -1
end Tw

theorem avoiding_any (n : Int) (w : World) :
    Calls Tryd.prog 27 #[.int .i64 n] w fun e w' => e = .returned (.func (.func 43) #[] #[.pointer (some ⟨w.heap.size, 0, none⟩)]) ∧ w' = w.alloc (.cells #[.int .i64 n] 3) := by
  go_enter Tryd.func27, Tryd.ntmps27
  go_wp2
  go_ret
  exact ⟨rfl, rfl⟩

set_option maxRecDepth 100000 in
set_option maxHeartbeats 3200000 in
theorem implCount_yes (N : Nat) (hN : N ≤ 7) (w : World) (hD : DirsAt w) :
    Calls Tryd.prog 9 #[.int .i64 (N : Int)] w fun e w' => e = .returned (.int .i64 (Tw.countOf N : Int)) ∧ Below w.heap.size w w' := by
  have HD := Lib.hid hD
  have h1 : ¬ (7 : Int) < (N : Int) := by omega
  have HXL : Hid ((Tw.onWalks [] N).length = Tw.countOf N) := Tw.countOf_eq (by omega)
  have hle := Tw.count_le hN
  clear hD
  refine (callsIn_wide (n := 6)).1 ?_
  refine callsIn_of_wp_marks Tryd.func9 rfl trivial ?_
  refine wpIn_wide.2 ?_
  simp only [Tryd.ntmps9, List.size_toArray, List.length_cons, List.length_nil, Nat.reduceAdd, Nat.reduceSub, Array.replicate_succ, Array.replicate_zero, List.push_toArray, List.append_toArray, List.nil_append, List.cons_append]
  go_wp2_with (go_at_call 27; refine (avoiding_any _ _).mono ?_; rintro e w1 ⟨rfl, rfl⟩)
  obtain ⟨R, hR⟩ : ∃ R, w.heap.size = R := ⟨_, rfl⟩
  obtain ⟨W0, hW0⟩ : ∃ W0, ((w.alloc (.cells #[.int .i64 0] 3)).alloc (.cells #[.int .i64 (N : Int)] 3)) = W0 := ⟨_, rfl⟩
  have hsz0 : W0.heap.size = R + 2 := by rw [← hW0, ← hR]; simp
  have hbb0 : Below w.heap.size w W0 := by rw [← hW0]; exact ((Below.refl _ _).alloc (Nat.le_refl _) _).alloc (by simp) _
  have hbox0 : W0.heap[R]? = some (.cells #[.int .i64 0] 3 (0, 0)) := by rw [← hW0, ← hR]; exact (Below.heap_alloc _ _ _ (by simp)).trans (World.alloc_heap_new w _)
  have hst0 : W0.heap[R + 1]? = some (.cells #[.int .i64 (N : Int)] 3 (0, 0)) := by
    rw [← hW0, ← hR]
    have := World.alloc_heap_new (w.alloc (.cells #[.int .i64 0] 3)) (.cells #[.int .i64 (N : Int)] 3)
    rwa [World.size_alloc] at this
  have hs0 := cell_of_row _ _ 0 _ _ _ hst0
  have HR := Lib.hid hR
  rw [hR] at ⊢
  rw [hW0]
  clear hR
  refine (wpIn_wide (n := 6)).1 ?_
  refine wpIn_rangeOwn (α := List UInt8) rfl (by decide) (gf := 43) (lb := #[.pointer (some ⟨R + 1, 0, none⟩)]) rfl trivial (enters_of Tryd.func43 (by kernel_rfl) rfl) (encs := fun x : List UInt8 => #[.string (Tw.str x)]) (xs := Tw.onWalks [] N) (C := fun W => DirsAt W ∧ W.cell? ⟨R + 1, 0, none⟩ = some (.int .i64 (N : Int)))
    (fun l J W _ hsW hA hC hY h0 => callsIn_wide.2 (avoiding1 N l (R + 1) hN J W (by rw [hsW]; exact hA) hC (by rw [hsW]; exact hY) h0)) (fun _ => rfl)
    (fun pre _ W => W.cell? ⟨R, 0, none⟩ = some (.int .i64 pre.length) ∧ W.frozen? ⟨R, 0, none⟩ = false ∧ W.cell? ⟨R + 1, 0, none⟩ = some (.int .i64 (N : Int)) ∧ Below w.heap.size w W)
    ?own (fun _ _ _ h => ⟨HD.out.below' h.2.2.2, h.2.2.1⟩) ?start ?_ ?assign ?body ?done
  case own =>
    rintro pre q W W' ⟨i1, i2, i3, i4⟩ hs9
    have hb9 := hs9.below
    rw [hsz0] at hb9
    exact ⟨(hb9.cell (p := ⟨R, 0, none⟩) (by simp)).trans i1, (hb9.frozen (p := ⟨R, 0, none⟩) (by simp)).trans i2, (hb9.cell (p := ⟨R + 1, 0, none⟩) (by simp)).trans i3, i4.trans (hb9.mono (by rw [HR.out]; omega))⟩
  case start => exact ⟨cell_of_row _ _ 0 _ _ _ hbox0, frozen_of_row _ _ _ _ _ hbox0, hs0, hbb0⟩
  case assign =>
    intro l x W K hK
    gi_wp2
    exact hK
  case body =>
    rintro l pre x q W ⟨i1, i2, i3, i4⟩ hpre hz9 hq9
    have hpl : (pre ++ [x]).length ≤ (Tw.onWalks [] N).length := hpre.length_le
    rw [HXL.out, List.length_append, List.length_singleton] at hpl
    have hlen : pre.length ≤ 2172 := by omega
    clear hpl hpre
    gi_wp2
    refine ⟨q, ⟨?_, (by rw [World.frozen?_setCell]; exact i2), (World.cell?_of_block (w := W) (Below.heap_setCell _ _ _ _ (by simp))).trans i3, i4.setCell (by rw [HR.out]; simp) _⟩, SameOther.setCell (by rw [hsz0]; simp) _, NextRow.refl _ _, fun k e => ?_⟩
    · rw [World.cell?_setCell_same' _ _ _ (by rw [i1]; rfl), List.length_append]
      rfl
    · show k < (W.heap.modify _ _).size
      rw [Array.size_modify]
      exact (hq9 k e).2
  case done =>
    rintro q W ⟨i1, i2, i3, i4⟩ hz9 hk9
    go_wp2
    refine ⟨by simp, .inl ⟨_, _, rfl, run_takeDeferred hk9, ?_⟩⟩
    refine ⟨_, results_tmp rfl _ _ _, ?_, i4.trans (belowK_b (w := w) (Nat.le_refl _) W _ _ _ (by rw [HR.out]; omega) hk9 rfl rfl)⟩
    show Ending.returned (.int .i64 ((Tw.onWalks [] N).length : Int)) = _
    rw [HXL.out]
theorem implCount_no (s : Int) (hs : s < 0 ∨ 7 < s) (w : World) :
    Calls Tryd.prog 9 #[.int .i64 s] w fun e w' => e = .returned (.int .i64 (-1)) ∧ w = w' := by
  rcases hs with h | h
  · go_enter Tryd.func9, Tryd.ntmps9
    go_wp2_with fail
    go_ret
    exact ⟨rfl, rfl⟩
  · have h0 : 0 ≤ s := by omega
    go_enter Tryd.func9, Tryd.ntmps9
    go_wp2_with fail
    go_ret
    exact ⟨rfl, rfl⟩
theorem implCount (s : Int) (w : World) (hD : DirsAt w) :
    Calls Tryd.prog 9 #[.int .i64 s] w fun e w' => e = .returned (.int .i64 (Tw.countI s)) ∧ Below w.heap.size w w' := by
  by_cases h : 0 ≤ s ∧ s ≤ 7
  · obtain ⟨N, rfl⟩ := Int.eq_ofNat_of_zero_le h.1
    unfold Tw.countI
    rw [if_pos h]
    exact implCount_yes N (by omega) w hD
  · unfold Tw.countI
    rw [if_neg h]
    exact (implCount_no s (by omega) w).mono fun e w' ⟨h1, h2⟩ => ⟨h1, h2 ▸ Below.refl _ _⟩
end Go.Proofs.YtjcagkpolfacpaaDoor
