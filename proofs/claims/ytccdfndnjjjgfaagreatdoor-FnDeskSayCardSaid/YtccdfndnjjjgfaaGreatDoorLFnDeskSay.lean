/-
  FnDeskSay: for every code: the drawn desk and lines lead to the reference's desk and answers; two parts of the lines, one after the other, lead to the same; no answer is empty; and behind any lines two questions about the curve are answered as they must be. No condition beyond what the given statement itself bears.
-/
import Derived.Test.YtccdfndnjjjgfaaGreatDoorLFnDeskSayB
import Derived.Deep.RegionLaw
import Derived.Deep.RegionHeld3
import Derived.Deep.DeepCutAuto
import Derived.Test.YtccdfndnjjjgfaaGreatDoorExt
import Derived.ArgAppend
import Derived.Test.YtccdfndnjjjgfaaGreatDoorDeskRun
import Derived.Test.YtccdfndnjjjgfaaGreatDoorDeskNew
import Derived.Test.YtccdfndnjjjgfaaGreatDoorDeeds
import Derived.Test.YtccdfndnjjjgfaaGreatDoorLFnDeskSayC
import Derived.Deep.AppendLies
import Derived.Test.YtccdfndnjjjgfaaGreatDoorRunPure
import Derived.Test.YtccdfndnjjjgfaaGreatDoorPure
import Derived.Test.YtccdfndnjjjgfaaGreatDoorTabs
import Derived.Test.YtccdfndnjjjgfaaGreatDoorRows
import Derived.WalkKit
import Derived.ProofKit
import Derived.OpenShut
import Derived.Carry
import Derived.WalkSmall
import Derived.MakeChecks
import Derived.Deep.DeepHandedRow
import Derived.Lib.LaidTab
import Derived.Test.YtccdfndnjjjgfaaGreatDoorDeedImpl
import Derived.Test.YtccdfndnjjjgfaaGreatDoorDeskDone
import Derived.Test.YtccdfndnjjjgfaaGreatDoorMarks
import Derived.Test.YtccdfndnjjjgfaaGreatDoorStrs
import Derived.BigQuiet
import Derived.Deep.QuietTactic
import Derived.Test.YtccdfndnjjjgfaaGreatDoorBase
import Derived.ChangeSlices
import Derived.Test.YtccdfndnjjjgfaaGreatDoorCards
import Derived.Test.YtccdfndnjjjgfaaGreatDoorTie

namespace Go.Proofs.YtccdfndnjjjgfaaGreatDoor
open Go.RowKit

theorem mod_lt {x : Int} {m : Nat} (hm : 0 < m) : ∃ a : Nat, x % (m : Int) = a ∧ a < m := by
  have h0 := Int.emod_nonneg x (b := (m : Int)) (by omega)
  have h1 := Int.emod_lt_of_pos x (b := (m : Int)) (by omega)
  obtain ⟨a, ha⟩ := Int.eq_ofNat_of_zero_le h0
  exact ⟨a, ha, by omega⟩

theorem cut_size {d : Int} (h : 0 ≤ d ∧ d ≤ 3) : ((⟨#[101, 110, 119, 115]⟩ : ByteArray).extract d.toNat (d + 1).toNat).size = 1 := by
  obtain rfl | rfl | rfl | rfl : d = 0 ∨ d = 1 ∨ d = 2 ∨ d = 3 := by omega
  all_goals rfl

set_option maxRecDepth 100000 in
set_option maxHeartbeats 12800000 in
theorem walk_d (w W : World) (R n p k : Nat) (v : Value) (N : Int) (h : Drawn w W R v n p k) (hp : p + k ≤ 90000) (h1 : 0 ≤ N) (h2 : N ≤ 1000000) :
    Calls Tryz.prog 82 #[.pointer (some ⟨R, 0, none⟩), .int .i64 N] W fun e w' => ∃ s : ByteArray, e = .returned (.string s) ∧ s.size ≤ 41 ∧ Drawn w w' R v n p (k + 60) := by
  go_enter Tryz.func82, Tryz.ntmps82
  go_wp2_with (first
    | (go_at_call 68; first
        | (have hq := hd2; refine (pick_d hd2 (by omega) (by omega) (by omega)).mono ?_; rintro e w3 ⟨b, rfl, hbb0, hbb1, hd3, _⟩)
        | (have hq := hd1; refine (pick_d hd1 (by omega) (by omega) (by omega)).mono ?_; rintro e w2 ⟨a, rfl, ha0, ha1, hd2, _⟩)
        | (refine (pick_d h (by omega) (by omega) (by omega)).mono ?_; rintro e w1 ⟨x, rfl, hx0, hx1, hd1, _⟩; obtain rfl | rfl | rfl | rfl | rfl : x = 0 ∨ x = 1 ∨ x = 2 ∨ x = 3 ∨ x = 4 := by omega)
        | (have hq := hdo; refine (pick_d (hdo.alloc _) (by omega) (by omega) (by omega)).mono ?_; rintro e w8 ⟨y, rfl, hy0, hy1, hd8, hg8⟩; have hlit := lit_cell hdo.lt hg8; have hend := hd8; obtain rfl | rfl : y = 0 ∨ y = 1 := by omega
           all_goals (have l0 := hlit 0 _ rfl; have l1 := hlit 1 _ rfl)))
    | (go_at_call 117; refine (grown_d w w1 R n p _ v hd1 (by omega)).mono ?_; rintro e w5 ⟨s, rfl, hs4, hs40, hdg⟩)
    | (go_at_call 69; refine (odd_d hdg (by omega) h1 h2).mono ?_; rintro e w7 ⟨c, rfl, hdo⟩; have hend := hdo; cases c))
  · obtain ⟨a, rfl⟩ := Int.eq_ofNat_of_zero_le ha0
    go_loopw [5, 6] (fun o i wr => ∃ (s : ByteArray) (j : Nat), o = .string s ∧ i = .int .i64 j ∧ s.size + j ≤ 11 ∧ ∃ m, m + j ≤ k + 2 + 11 ∧ Drawn w wr R v n p m) (fun _ i _ => (intOf i).toNat)
    case atStart => exact ⟨_, a, rfl, rfl, by show 0 + a ≤ 11; omega, k + 2, by omega, hd2⟩
    case round =>
      obtain ⟨s, j, rfl, rfl, hsj, m, hm, hd3⟩ := hrel
      by_cases hlt : 0 < j
      · go_wp2_with (first
          | (go_at_call 68; refine (pick_d (hd3.alloc _) (by omega) (by omega) (by omega)).mono ?_; rintro e w4 ⟨y, rfl, hy0, hy1, hd4, hg4⟩; have hlit := lit_cell hd3.lt hg4; obtain rfl | rfl | rfl | rfl : y = 0 ∨ y = 1 ∨ y = 2 ∨ y = 3 := by omega
             all_goals (have l0 := hlit 0 _ rfl; have l1 := hlit 1 _ rfl; have l2 := hlit 2 _ rfl; have l3 := hlit 3 _ rfl)))
        all_goals
          go_roundw
          case rel => exact ⟨_, j - 1, rfl, by congr 1; omega, by simp [lit_size]; omega, _, by omega, hd4⟩
          case measure => simp [intOf]; omega
      · obtain rfl : j = 0 := by omega
        have hd3 := hd3.mono (k' := k + 13) (by omega)
        go_wp2_with (first
          | (go_at_call 68; refine (pick_d (hdo.alloc _) (by omega) (by omega) (by omega)).mono ?_; rintro e w8 ⟨y, rfl, hy0, hy1, hd8, hg8⟩; have hlit := lit_cell hdo.lt hg8; have hend := hd8; obtain rfl | rfl : y = 0 ∨ y = 1 := by omega
             all_goals (have l0 := hlit 0 _ rfl; have l1 := hlit 1 _ rfl))
          | (go_at_call 69; refine (odd_d hd3 (by omega) h1 h2).mono ?_; rintro e w7 ⟨c, rfl, hdo⟩; have hend := hdo; cases c))
        all_goals
          go_ret
          exact ⟨_, rfl, by first | omega | (simp [lit_size]; done) | (simp [lit_size]; omega), hend.mono (by omega)⟩
  · obtain ⟨a, rfl⟩ := Int.eq_ofNat_of_zero_le ha0
    obtain ⟨b, rfl⟩ := Int.eq_ofNat_of_zero_le hbb0
    go_loopw [5, 9] (fun o i wr => ∃ (s : ByteArray) (j : Nat), o = .string s ∧ i = .int .i64 j ∧ s.size = j ∧ j ≤ 2 * (1 + a + (1 + b)) ∧ Drawn w wr R v n p (k + 3)) (fun _ i _ => 2 * (1 + a + (1 + b)) - (intOf i).toNat)
    case atStart => exact ⟨_, 0, rfl, rfl, rfl, by omega, hd3.mono (by omega)⟩
    case round =>
      obtain ⟨s, j, rfl, rfl, hsj, hj, hd4⟩ := hrel
      by_cases hlt : j < 2 * (1 + a + (1 + b))
      · go_wp2
        all_goals
          go_roundw
          case rel => exact ⟨_, j + 1, rfl, by go_num, by simp [lit_size]; omega, by omega, hd4⟩
          case measure => simp [intOf]; omega
      · obtain rfl : j = 2 * (1 + a + (1 + b)) := by omega
        go_wp2_with (first
          | (go_at_call 68; refine (pick_d (hdo.alloc _) (by omega) (by omega) (by omega)).mono ?_; rintro e w8 ⟨y, rfl, hy0, hy1, hd8, hg8⟩; have hlit := lit_cell hdo.lt hg8; have hend := hd8; obtain rfl | rfl : y = 0 ∨ y = 1 := by omega
             all_goals (have l0 := hlit 0 _ rfl; have l1 := hlit 1 _ rfl))
          | (go_at_call 69; refine (odd_d hd4 (by omega) h1 h2).mono ?_; rintro e w7 ⟨c, rfl, hdo⟩; have hend := hdo; cases c))
        all_goals
          go_ret
          exact ⟨_, rfl, by first | omega | (simp [lit_size]; done) | (simp [lit_size]; omega), hend.mono (by omega)⟩
  · go_ret
    exact ⟨_, rfl, by first | omega | (simp [lit_size]; done) | (simp [lit_size]; omega), hend.mono (by omega)⟩
  · go_ret
    exact ⟨_, rfl, by first | omega | (simp [lit_size]; done) | (simp [lit_size]; omega), hend.mono (by omega)⟩
  · go_ret
    exact ⟨_, rfl, by first | omega | (simp [lit_size]; done) | (simp [lit_size]; omega), hend.mono (by omega)⟩
  · obtain ⟨a, rfl⟩ := Int.eq_ofNat_of_zero_le ha0
    go_loopw [10, 11] (fun o i wr => ∃ (s : ByteArray) (j : Nat), o = .string s ∧ i = .int .i64 j ∧ s.size + j ≤ 8 ∧ ∃ m, m + j ≤ k + 2 + 8 ∧ Drawn w wr R v n p m) (fun _ i _ => (intOf i).toNat)
    case atStart => exact ⟨_, 1 + a, rfl, by congr 1, by show 0 + (1 + a) ≤ 8; omega, k + 2, by omega, hd2⟩
    case round =>
      obtain ⟨s, j, rfl, rfl, hsj, m, hm, hd3⟩ := hrel
      by_cases hlt : 0 < j
      · go_wp2_with (first
          | (go_at_call 68; refine (pick_d (hd3.alloc _) (by omega) (by omega) (by omega)).mono ?_; rintro e w4 ⟨y, rfl, hy0, hy1, hd4, hg4⟩; have hlit := lit_cell hd3.lt hg4; obtain rfl | rfl | rfl | rfl : y = 0 ∨ y = 1 ∨ y = 2 ∨ y = 3 := by omega
             all_goals (have l0 := hlit 0 _ rfl; have l1 := hlit 1 _ rfl; have l2 := hlit 2 _ rfl; have l3 := hlit 3 _ rfl)))
        all_goals
          go_roundw
          case rel => exact ⟨_, j - 1, rfl, by congr 1; omega, by simp [lit_size]; omega, _, by omega, hd4⟩
          case measure => simp [intOf]; omega
      · obtain rfl : j = 0 := by omega
        have hd3 := hd3.mono (k' := k + 10) (by omega)
        go_wp2_with (go_at_call 68; refine (pick_d hd3 (by omega) (by omega) (by omega)).mono ?_; rintro e w4 ⟨q, rfl, hq0, hq1, hd4, _⟩)
        go_loopw [5, 13, 14, 15] (fun o i _ _ wr => ∃ (t : ByteArray) (j : Nat), o = .string t ∧ i = .int .i64 j ∧ t.size = s.size + j ∧ j ≤ s.size ∧ Drawn w wr R v n p (k + 11)) (fun _ i _ _ _ => s.size - (intOf i).toNat)
        case atStart => exact ⟨_, 0, rfl, rfl, rfl, by omega, hd4⟩
        case round =>
          obtain ⟨t, j, rfl, rfl, htj, hj, hd5⟩ := hrel
          by_cases hlt2 : j < s.size
          · obtain rfl | rfl | rfl | rfl | rfl : q = 0 ∨ q = 1 ∨ q = 2 ∨ q = 3 ∨ q = 4 := by omega
            all_goals
              obtain ⟨z0, hz0, hz0s⟩ := mod_lt (x := (j : Int)) (m := s.size) (by omega)
              obtain ⟨z1, hz1, hz1s⟩ := mod_lt (x := (j : Int) * 3 + 1) (m := s.size) (by omega)
              obtain ⟨z2, hz2, hz2s⟩ := mod_lt (x := (j : Int) * 5 + 2) (m := s.size) (by omega)
              obtain ⟨z3, hz3, hz3s⟩ := mod_lt (x := (j : Int) * 7 + 3) (m := s.size) (by omega)
              obtain ⟨z4, hz4, hz4s⟩ := mod_lt (x := (j : Int) * 9 + 4) (m := s.size) (by omega)
              have r0 := Tw.dir_range s[z0]
              have r1 := Tw.dir_range s[z1]
              have r2 := Tw.dir_range s[z2]
              have r3 := Tw.dir_range s[z3]
              have r4 := Tw.dir_range s[z4]
              have r5 := Tw.dir_range s[j]
            all_goals
              go_wp2_with (first
                | (go_at_call 104; refine (look_any _ _).mono ?_; rintro e w' ⟨rfl, rfl⟩))
            all_goals
              go_roundw
              case rel => exact ⟨_, j + 1, rfl, by go_num, by rw [ByteArray.size_append, cut_size (by omega)]; omega, by omega, hd5⟩
              case measure => simp [intOf]; omega
          · obtain rfl : j = s.size := by omega
            have hst : t.size ≤ 16 := by omega
            go_wp2_with (first
              | (go_at_call 68; refine (pick_d (hdo.alloc _) (by omega) (by omega) (by omega)).mono ?_; rintro e w8 ⟨y, rfl, hy0, hy1, hd8, hg8⟩; have hlit := lit_cell hdo.lt hg8; have hend := hd8; obtain rfl | rfl : y = 0 ∨ y = 1 := by omega
                 all_goals (have l0 := hlit 0 _ rfl; have l1 := hlit 1 _ rfl))
              | (go_at_call 69; refine (odd_d hd5 (by omega) h1 h2).mono ?_; rintro e w7 ⟨c, rfl, hdo⟩; have hend := hdo; cases c))
            all_goals
              go_ret
              exact ⟨_, rfl, by first | omega | (simp [lit_size]; done) | (simp [lit_size]; omega), hend.mono (by omega)⟩
  · obtain ⟨a, rfl⟩ := Int.eq_ofNat_of_zero_le ha0
    go_loopw [10, 11] (fun o i wr => ∃ (s : ByteArray) (j : Nat), o = .string s ∧ i = .int .i64 j ∧ s.size + j ≤ 8 ∧ ∃ m, m + j ≤ k + 2 + 8 ∧ Drawn w wr R v n p m) (fun _ i _ => (intOf i).toNat)
    case atStart => exact ⟨_, 1 + a, rfl, by congr 1, by show 0 + (1 + a) ≤ 8; omega, k + 2, by omega, hd2⟩
    case round =>
      obtain ⟨s, j, rfl, rfl, hsj, m, hm, hd3⟩ := hrel
      by_cases hlt : 0 < j
      · go_wp2_with (first
          | (go_at_call 68; refine (pick_d (hd3.alloc _) (by omega) (by omega) (by omega)).mono ?_; rintro e w4 ⟨y, rfl, hy0, hy1, hd4, hg4⟩; have hlit := lit_cell hd3.lt hg4; obtain rfl | rfl | rfl | rfl : y = 0 ∨ y = 1 ∨ y = 2 ∨ y = 3 := by omega
             all_goals (have l0 := hlit 0 _ rfl; have l1 := hlit 1 _ rfl; have l2 := hlit 2 _ rfl; have l3 := hlit 3 _ rfl)))
        all_goals
          go_roundw
          case rel => exact ⟨_, j - 1, rfl, by congr 1; omega, by simp [lit_size]; omega, _, by omega, hd4⟩
          case measure => simp [intOf]; omega
      · obtain rfl : j = 0 := by omega
        have hd3 := hd3.mono (k' := k + 10) (by omega)
        go_wp2_with (go_at_call 68; refine (pick_d hd3 (by omega) (by omega) (by omega)).mono ?_; rintro e w4 ⟨q, rfl, hq0, hq1, hd4, _⟩)
        go_loopw [5, 13, 14, 15] (fun o i _ _ wr => ∃ (t : ByteArray) (j : Nat), o = .string t ∧ i = .int .i64 j ∧ t.size = s.size + j ∧ j ≤ s.size ∧ Drawn w wr R v n p (k + 11)) (fun _ i _ _ _ => s.size - (intOf i).toNat)
        case atStart => exact ⟨_, 0, rfl, rfl, rfl, by omega, hd4⟩
        case round =>
          obtain ⟨t, j, rfl, rfl, htj, hj, hd5⟩ := hrel
          by_cases hlt2 : j < s.size
          · obtain rfl | rfl | rfl | rfl | rfl : q = 0 ∨ q = 1 ∨ q = 2 ∨ q = 3 ∨ q = 4 := by omega
            all_goals
              obtain ⟨z0, hz0, hz0s⟩ := mod_lt (x := (j : Int)) (m := s.size) (by omega)
              obtain ⟨z1, hz1, hz1s⟩ := mod_lt (x := (j : Int) * 3 + 1) (m := s.size) (by omega)
              obtain ⟨z2, hz2, hz2s⟩ := mod_lt (x := (j : Int) * 5 + 2) (m := s.size) (by omega)
              obtain ⟨z3, hz3, hz3s⟩ := mod_lt (x := (j : Int) * 7 + 3) (m := s.size) (by omega)
              obtain ⟨z4, hz4, hz4s⟩ := mod_lt (x := (j : Int) * 9 + 4) (m := s.size) (by omega)
              have r0 := Tw.dir_range s[z0]
              have r1 := Tw.dir_range s[z1]
              have r2 := Tw.dir_range s[z2]
              have r3 := Tw.dir_range s[z3]
              have r4 := Tw.dir_range s[z4]
              have r5 := Tw.dir_range s[j]
            all_goals
              go_wp2_with (first
                | (go_at_call 104; refine (look_any _ _).mono ?_; rintro e w' ⟨rfl, rfl⟩))
            all_goals
              go_roundw
              case rel => exact ⟨_, j + 1, rfl, by go_num, by rw [ByteArray.size_append, cut_size (by omega)]; omega, by omega, hd5⟩
              case measure => simp [intOf]; omega
          · obtain rfl : j = s.size := by omega
            have hst : t.size ≤ 16 := by omega
            go_wp2_with (first
              | (go_at_call 68; refine (pick_d (hdo.alloc _) (by omega) (by omega) (by omega)).mono ?_; rintro e w8 ⟨y, rfl, hy0, hy1, hd8, hg8⟩; have hlit := lit_cell hdo.lt hg8; have hend := hd8; obtain rfl | rfl : y = 0 ∨ y = 1 := by omega
                 all_goals (have l0 := hlit 0 _ rfl; have l1 := hlit 1 _ rfl))
              | (go_at_call 69; refine (odd_d hd5 (by omega) h1 h2).mono ?_; rintro e w7 ⟨c, rfl, hdo⟩; have hend := hdo; cases c))
            all_goals
              go_ret
              exact ⟨_, rfl, by first | omega | (simp [lit_size]; done) | (simp [lit_size]; omega), hend.mono (by omega)⟩

end Go.Proofs.YtccdfndnjjjgfaaGreatDoor

namespace Go.Proofs.YtccdfndnjjjgfaaGreatDoor
open Go.RowKit

theorem Drawn.drew {w W : World} {R n p k : Nat} {v : Value} (h : Drawn w W R v n p k) : Drawn w W.drew R v n p k := h.below (Below.refl _ _).drew
theorem grow_row' {X w' : World} {R b : Nat} {o : Obj} (hg : X.grownBy w' (some R)) (h : X.heap[b]? = some o) (hne : b ≠ R) : w'.heap[b]? = some o :=
  (hg.block b (Array.getElem?_eq_some_iff.1 h).1 (fun e => hne (Option.some.inj e))).trans h
section
variable {Y w' : World} {R : Nat} {cs : Array Value} {t : TypeId} {o : Obj}
theorem row_old (Y : World) (a o : Obj) : ((Y.alloc a).alloc o).heap[Y.heap.size]? = (Y.alloc a).heap[Y.heap.size]? := Below.heap_alloc (Y.alloc a) o _ (by simp)
theorem g_a (hg : (Y.alloc (.cells cs t)).grownBy w' (some R)) (hR : R < Y.heap.size) : w'.heap[Y.heap.size]? = some (.cells cs t (0, 0)) := grow_row' hg (heap_alloc_new Y _) (by omega)
theorem g_ad (hg : (Y.alloc (.cells cs t)).drew.grownBy w' (some R)) (hR : R < Y.heap.size) : w'.heap[Y.heap.size]? = some (.cells cs t (0, 0)) := grow_row' hg (heap_alloc_new Y _) (by omega)
theorem g_b (hg : ((Y.alloc (.cells cs t)).alloc o).grownBy w' (some R)) (hR : R < Y.heap.size) : w'.heap[Y.heap.size]? = some (.cells cs t (0, 0)) := grow_row' hg ((row_old Y _ _).trans (heap_alloc_new Y _)) (by omega)
theorem g_bd (hg : ((Y.alloc (.cells cs t)).alloc o).drew.grownBy w' (some R)) (hR : R < Y.heap.size) : w'.heap[Y.heap.size]? = some (.cells cs t (0, 0)) := grow_row' hg ((row_old Y _ _).trans (heap_alloc_new Y _)) (by omega)
theorem g_a2 (hg : ((Y.alloc o).alloc (.cells cs t)).grownBy w' (some R)) (hR : R < Y.heap.size) : w'.heap[Y.heap.size + 1]? = some (.cells cs t (0, 0)) := by
  have := heap_alloc_new (Y.alloc o) (.cells cs t)
  rw [World.size_alloc] at this
  exact grow_row' hg this (by omega)
theorem g_a2d (hg : ((Y.alloc o).alloc (.cells cs t)).drew.grownBy w' (some R)) (hR : R < Y.heap.size) : w'.heap[Y.heap.size + 1]? = some (.cells cs t (0, 0)) := by
  have := heap_alloc_new (Y.alloc o) (.cells cs t)
  rw [World.size_alloc] at this
  exact grow_row' hg this (by omega)
theorem g_c {L : Nat} (h : Y.heap[L]? = some (.cells cs t (0, 0))) (hg : Y.grownBy w' (some R)) (hne : L ≠ R) : w'.heap[L]? = some (.cells cs t (0, 0)) := grow_row' hg h hne
theorem g_d {L : Nat} (h : Y.heap[L]? = some (.cells cs t (0, 0))) (hg : (Y.alloc o).grownBy w' (some R)) (hne : L ≠ R) : w'.heap[L]? = some (.cells cs t (0, 0)) := grow_row' hg ((Below.heap_alloc Y o L (Array.getElem?_eq_some_iff.1 h).1).trans h) hne
theorem g_e {L : Nat} {o' : Obj} (h : Y.heap[L]? = some (.cells cs t (0, 0))) (hg : ((Y.alloc o).alloc o').grownBy w' (some R)) (hne : L ≠ R) : w'.heap[L]? = some (.cells cs t (0, 0)) := by
  have hl := (Array.getElem?_eq_some_iff.1 h).1
  exact grow_row' hg ((Below.heap_alloc (Y.alloc o) o' L (by simp; omega)).trans ((Below.heap_alloc Y o L hl).trans h)) hne
theorem lit_at {L j : Nat} {u : Value} (h : Y.heap[L]? = some (.cells cs t (0, 0))) (hu : cs[j]? = some u) : Y.cell? ⟨L, j, none⟩ = some u := (cell_of_row _ _ _ _ _ _ h).trans hu
theorem lit_at_alloc {L j : Nat} {u : Value} (h : Y.heap[L]? = some (.cells cs t (0, 0))) (hu : cs[j]? = some u) (o : Obj) : (Y.alloc o).cell? ⟨L, j, none⟩ = some u :=
  lit_at (Y := Y.alloc o) ((Below.heap_alloc Y o L (Array.getElem?_eq_some_iff.1 h).1).trans h) hu
theorem froz_alloc {L j : Nat} (h : Y.heap[L]? = some (.cells cs t (0, 0))) (o : Obj) : (Y.alloc o).frozen? ⟨L, j, none⟩ = false := frozen_of_row _ _ _ _ _ ((Below.heap_alloc Y o L (Array.getElem?_eq_some_iff.1 h).1).trans h)
theorem lit_new {j : Nat} {u : Value} (Y : World) (hu : cs[j]? = some u) : (Y.alloc (.cells cs t)).cell? ⟨Y.heap.size, j, none⟩ = some u := lit_at (heap_alloc_new Y _) hu
theorem lit_new2 {j : Nat} {u : Value} (Y : World) (o : Obj) (hu : cs[j]? = some u) : ((Y.alloc (.cells cs t)).alloc o).cell? ⟨Y.heap.size, j, none⟩ = some u := lit_at ((row_old Y _ _).trans (heap_alloc_new Y _)) hu
end
theorem kind_at {y : Int} (h0 : 0 ≤ y) (h1 : y < 8) : ∃ K : Int, (#[.int .i64 0, .int .i64 0, .int .i64 0, .int .i64 1, .int .i64 2, .int .i64 3, .int .i64 4, .int .i64 5] : Array Value)[y.toNat]? = some (.int .i64 K) ∧ (∀ h, ([.int .i64 0, .int .i64 0, .int .i64 0, .int .i64 1, .int .i64 2, .int .i64 3, .int .i64 4, .int .i64 5] : List Value)[y.toNat]'h = .int .i64 K) ∧ 0 ≤ K ∧ K ≤ 5 := by
  obtain rfl | rfl | rfl | rfl | rfl | rfl | rfl | rfl : y = 0 ∨ y = 1 ∨ y = 2 ∨ y = 3 ∨ y = 4 ∨ y = 5 ∨ y = 6 ∨ y = 7 := by omega
  all_goals exact ⟨_, rfl, fun _ => rfl, by omega, by omega⟩
theorem div59 {q : Int} (h0 : 0 ≤ q) (h1 : q < 60) : ∃ d : Int, q.tdiv 59 = d ∧ 0 ≤ d ∧ d ≤ 1 := by
  refine ⟨_, rfl, ?_⟩
  rw [Int.tdiv_eq_ediv_of_nonneg h0]
  omega
theorem Drawn.setCell {w W W1 : World} {R n p k k0 N : Nat} {v : Value} (h : Drawn w W R v n p k) (h0 : Drawn w W1 R v n p k0) (hN : W1.heap.size ≤ N) (j : Nat) (u : Value) : Drawn w (W.setCell ⟨N, j, none⟩ u) R v n p k := by
  obtain ⟨p', hp, hr, hg⟩ := h
  obtain ⟨p0, _, hr0, hg0⟩ := h0
  have hlR := hr0.lt
  have hsz := hg0.size
  have hne : R ≠ N := by omega
  refine ⟨p', hp, ⟨(heap_setCell_other W ⟨N, j, none⟩ R u hne).trans hr.cells, ?_, hr.few, hr.off⟩, ⟨hg.os, hg.tape, hg.output, by simpa [World.setCell] using hg.size, fun i hi hR => (heap_setCell_other W ⟨N, j, none⟩ i u (by show i ≠ N; omega)).trans (hg.block i hi hR)⟩⟩
  rcases hr.code with hc | ⟨a, cap, hv, hl, hc⟩
  · exact .inl hc
  · refine .inr ⟨a, cap, hv, hl, fun i hi => ?_⟩
    obtain ⟨b, h1, h2, h3⟩ := hc i hi
    refine ⟨b, h1, h2, ?_⟩
    have hlt : a.block < W1.heap.size := by
      rcases hr0.code with ⟨hv0, _⟩ | ⟨a0, cap0, hv0, _, hc0⟩
      · rw [hv0] at hv
        cases hv
      · rw [hv0] at hv
        simp only [Value.slice.injEq, Option.some.injEq] at hv
        obtain ⟨rfl, _, _⟩ := hv
        obtain ⟨_, _, _, h4⟩ := hc0 i hi
        have := World.block_lt_of_cell? W1 _ h4
        rwa [show (a0.add i).block = a0.block by unfold Addr.add; split <;> rfl] at this
    rw [← h3]
    exact World.cell?_of_block (heap_setCell_other W ⟨N, j, none⟩ _ u (by show (a.add i).block ≠ N; rw [show (a.add i).block = a.block by unfold Addr.add; split <;> rfl]; omega))
theorem odd_g {w W : World} {R n p k : Nat} {v : Value} {N : Int} (h : Drawn w W R v n p k) (hp : p + k ≤ 1000000) (h1 : 0 ≤ N) (h2 : N ≤ 1000000) :
    Calls Tryz.prog 69 #[.pointer (some ⟨R, 0, none⟩), .int .i64 N] W fun e w' => ∃ b : Bool, e = .returned (.bool b) ∧ Drawn w w' R v n p (k + 1) ∧ W.grownBy w' (some R) := by
  obtain ⟨p', hp', hr, hg⟩ := h
  refine (odd_any R n p' v N W hr (by omega) h1 h2).mono ?_
  rintro e w' ⟨b, p2, rfl, hp2, hr', hg'⟩
  exact ⟨b, rfl, ⟨p2, by omega, hr', grown_trans hg hg'⟩, hg'⟩
/-- A deed in the making lies in block N, the result in B. -/
structure DeedSt (w W1 X : World) (R N B : Nat) (v : Value) (n p k : Nat) (K M : Int) : Prop where
  drawn : Drawn w X R v n p k
  row : X.heap[N]? = some (.cells #[.int .i64 K, .int .i64 M] 53 (0, 0))
  res : X.heap[B]? = some (.cells #[.int .i64 0, .int .i64 0] 53 (0, 0))
  ge : W1.heap.size ≤ N
  lt : B < W1.heap.size
  neR : B ≠ R
  neN : N ≠ R
theorem DeedSt.grow {w W1 X X' : World} {R N B n p k k' : Nat} {v : Value} {K M : Int} (h : DeedSt w W1 X R N B v n p k K M) (hd : Drawn w X' R v n p k') (hg : X.grownBy X' (some R)) : DeedSt w W1 X' R N B v n p k' K M :=
  ⟨hd, grow_row' hg h.row h.neN, grow_row' hg h.res h.neR, h.ge, h.lt, h.neR, h.neN⟩
theorem DeedSt.alloc {w W1 X : World} {R N B n p k : Nat} {v : Value} {K M : Int} (h : DeedSt w W1 X R N B v n p k K M) (o : Obj) : DeedSt w W1 (X.alloc o) R N B v n p k K M :=
  ⟨h.drawn.alloc o, (Below.heap_alloc X o N (Array.getElem?_eq_some_iff.1 h.row).1).trans h.row, (Below.heap_alloc X o B (Array.getElem?_eq_some_iff.1 h.res).1).trans h.res, h.ge, h.lt, h.neR, h.neN⟩
theorem DeedSt.put {w W1 X : World} {R N B n p k k0 : Nat} {v : Value} {K M : Int} (h : DeedSt w W1 X R N B v n p k K M) (h0 : Drawn w W1 R v n p k0) (x : Int) : DeedSt w W1 (X.setCell ⟨N, 1, none⟩ (.int .i64 x)) R N B v n p k K x := by
  have h1 := h.ge
  have h2 := h.lt
  refine ⟨h.drawn.setCell h0 h.ge 1 _, ?_, (heap_setCell_other X ⟨N, 1, none⟩ B _ (by show B ≠ N; omega)).trans h.res, h.ge, h.lt, h.neR, h.neN⟩
  simp [World.setCell, Array.getElem?_modify, h.row]
theorem DeedSt.cells {w W1 X : World} {R N B n p k : Nat} {v : Value} {K M : Int} (h : DeedSt w W1 X R N B v n p k K M) : X.cell? ⟨N, 0, none⟩ = some (.int .i64 K) ∧ X.cell? ⟨N, 1, none⟩ = some (.int .i64 M) ∧ X.frozen? ⟨N, 1, none⟩ = false :=
  ⟨cell_of_row _ _ 0 _ _ _ h.row, cell_of_row _ _ 1 _ _ _ h.row, frozen_of_row _ _ 1 _ _ h.row⟩
theorem DeedSt.rests {w W1 X : World} {R N B n p k : Nat} {v : Value} {K M : Int} (h : DeedSt w W1 X R N B v n p k K M) : X.cell? ⟨B, 0, none⟩ = some (.int .i64 0) ∧ X.cell? ⟨B, 1, none⟩ = some (.int .i64 0) ∧ X.frozen? ⟨B, 0, none⟩ = false ∧ X.frozen? ⟨B, 1, none⟩ = false :=
  ⟨cell_of_row _ _ 0 _ _ _ h.res, cell_of_row _ _ 1 _ _ _ h.res, frozen_of_row _ _ 0 _ _ h.res, frozen_of_row _ _ 1 _ _ h.res⟩
theorem sz_le {X W1 w' : World} {r : Option Nat} (hg : X.grownBy w' r) (h : W1.heap.size ≤ X.heap.size) : W1.heap.size ≤ w'.heap.size := Nat.le_trans h hg.size
theorem le_alloc (Y : World) (o : Obj) : Y.heap.size ≤ (Y.alloc o).heap.size := by simp
theorem two_put {X : World} {N : Nat} {t : TypeId} {a b : Value} (h : X.heap[N]? = some (.cells #[a, b] t (0, 0))) (x y : Value) : ((X.setCell ⟨N, 0, none⟩ x).setCell ⟨N, 1, none⟩ y).heap[N]? = some (.cells #[x, y] t (0, 0)) := by
  simp [World.setCell, Array.getElem?_modify, h]
theorem set_far2 {X : World} {N B : Nat} {o : Obj} (h : X.heap[B]? = some o) (hne : B ≠ N) (x y : Value) : ((X.setCell ⟨N, 0, none⟩ x).setCell ⟨N, 1, none⟩ y).heap[B]? = some o := (heap_setCell_other _ ⟨N, 1, none⟩ B y hne).trans ((heap_setCell_other X ⟨N, 0, none⟩ B x hne).trans h)
theorem row_alloc {X : World} {N : Nat} {o' : Obj} (h : X.heap[N]? = some o') (o : Obj) : (X.alloc o).heap[N]? = some o' := (Below.heap_alloc X o N (Array.getElem?_eq_some_iff.1 h).1).trans h

set_option maxRecDepth 100000 in
set_option maxHeartbeats 3200000 in
theorem deed_d (s : ByteArray) (w W : World) (R n p k : Nat) (v : Value) (h : Drawn w W R v n p k) (hp : p + k ≤ 90000) (hs : s.size ≤ 41) :
    Calls Tryz.prog 83 #[.pointer (some ⟨R, 0, none⟩), .string s] W fun e w' => ∃ K M : Int, e = .returned (.agg #[.int .i64 K, .int .i64 M]) ∧ 0 ≤ K ∧ K ≤ 11 ∧ -1 ≤ M ∧ M ≤ 100 ∧ Drawn w w' R v n p (k + 5) := by
  have h1 := h.alloc (.cells #[.int .i64 0, .int .i64 0] 53)
  obtain ⟨W1, hW1⟩ : ∃ W1, W.alloc (.cells #[.int .i64 0, .int .i64 0] 53) = W1 := ⟨_, rfl⟩
  rw [hW1] at h1
  have hr0 : W1.heap[W.heap.size]? = some (.cells #[.int .i64 0, .int .i64 0] 53 (0, 0)) := hW1 ▸ heap_alloc_new W _
  have hlW := h.lt
  have hs0 := h1.lt
  have RES0 := Lib.hid hr0
  have hlB : W.heap.size < W1.heap.size := by rw [← hW1]; simp
  have HW1 := Lib.hid hW1
  clear hW1 hr0
  go_enter Tryz.func83, Tryz.ntmps83
  go_wp2_with fail
  rw [HW1.out]
  go_upto_region 1 with fail
  go_cut [5] (fun q wx => ∃ (N : Nat) (K : Int), q = .pointer (some ⟨N, 0, none⟩) ∧ 0 ≤ K ∧ K ≤ 11 ∧ Hid (DeedSt w W1 wx R N W.heap.size v n p (k + 2) K 0))
  case first =>
    go_region_law (first
      | (go_simp; go_at_call_of 68 (Value.int .i64 8); first
          | (have hq := hd1; refine (pick_d (N := 8) (by first | exact hd1 | exact hd1.alloc _ | exact (hd1.alloc _).alloc _) (by omega) (by omega) (by omega)).mono ?_; rintro e w2 ⟨y, rfl, y0, y1, hd2, hg2⟩; have sw2 := hd2.lt; have tw2 := sz_le (W1 := w1) hg2 (by first | exact Nat.le_refl _ | exact le_alloc _ _ | exact Nat.le_trans (le_alloc _ _) (le_alloc _ _)); obtain ⟨K, hKy, hKl, hK0, hK5⟩ := kind_at y0 y1; have uL := fun Y : World => lit_new (t := 3) Y hKy; have uL2 := fun (Y : World) (o : Obj) => lit_new2 (t := 3) Y o hKy; (first | (have HL := g_a2 (cs := #[.int .i64 0, .int .i64 0, .int .i64 0, .int .i64 1, .int .i64 2, .int .i64 3, .int .i64 4, .int .i64 5]) (t := 3) hg2 (by omega)) | (have HL := g_a2d (cs := #[.int .i64 0, .int .i64 0, .int .i64 0, .int .i64 1, .int .i64 2, .int .i64 3, .int .i64 4, .int .i64 5]) (t := 3) hg2 (by omega)) | (have HL := g_a (cs := #[.int .i64 0, .int .i64 0, .int .i64 0, .int .i64 1, .int .i64 2, .int .i64 3, .int .i64 4, .int .i64 5]) (t := 3) hg2 (by omega)) | (have HL := g_ad (cs := #[.int .i64 0, .int .i64 0, .int .i64 0, .int .i64 1, .int .i64 2, .int .i64 3, .int .i64 4, .int .i64 5]) (t := 3) hg2 (by omega)) | (have HL := g_b (cs := #[.int .i64 0, .int .i64 0, .int .i64 0, .int .i64 1, .int .i64 2, .int .i64 3, .int .i64 4, .int .i64 5]) (t := 3) hg2 (by omega)) | (have HL := g_bd (cs := #[.int .i64 0, .int .i64 0, .int .i64 0, .int .i64 1, .int .i64 2, .int .i64 3, .int .i64 4, .int .i64 5]) (t := 3) hg2 (by omega)) | (have HL := g_c HL hg2 (by omega)) | (have HL := g_d HL hg2 (by omega)) | (have HL := g_e HL hg2 (by omega)) | skip); (first | (have HN := g_a2 (cs := #[.int .i64 0, .int .i64 0]) (t := 53) hg2 (by omega)) | (have HN := g_a2d (cs := #[.int .i64 0, .int .i64 0]) (t := 53) hg2 (by omega)) | (have HN := g_a (cs := #[.int .i64 0, .int .i64 0]) (t := 53) hg2 (by omega)) | (have HN := g_ad (cs := #[.int .i64 0, .int .i64 0]) (t := 53) hg2 (by omega)) | (have HN := g_b (cs := #[.int .i64 0, .int .i64 0]) (t := 53) hg2 (by omega)) | (have HN := g_bd (cs := #[.int .i64 0, .int .i64 0]) (t := 53) hg2 (by omega)) | (have HN := g_c HN hg2 (by omega)) | (have HN := g_d HN hg2 (by omega)) | (have HN := g_e HN hg2 (by omega)) | skip); have RES := Lib.hid (grow_row' hg2 (show _ = _ from (by first | exact RES1.out | exact row_alloc RES1.out _ | exact row_alloc (row_alloc RES1.out _) _)) (by omega)); (first | (have cL := lit_at HL hKy; have cLa := lit_at_alloc HL hKy) | skip); (first | (have nf0 := frozen_of_row _ _ 0 _ _ HN; have nf1 := frozen_of_row _ _ 1 _ _ HN; have nc0 := cell_of_row _ _ 0 _ _ _ HN; have nc1 := cell_of_row _ _ 1 _ _ _ HN; have na0 := fun o => lit_at_alloc (j := 0) HN rfl o; have na1 := fun o => lit_at_alloc (j := 1) HN rfl o; have nz0 := fun o => froz_alloc (j := 0) HN o; have nz1 := fun o => froz_alloc (j := 1) HN o) | skip); (first | (have z1 := IntWalk.i64_in d (by omega); have z2 := IntWalk.i64_in (d * 6) (by omega); have z3 := IntWalk.i64_in (K + d * 6) (by omega)) | skip))
          | (refine (pick_d (N := 8) (by first | exact h1.drew | exact (h1.alloc _).drew | exact ((h1.alloc _).alloc _).drew | exact h1.drew.alloc _ | exact (h1.drew.alloc _).alloc _) (by omega) (by omega) (by omega)).mono ?_; rintro e w1 ⟨y, rfl, y0, y1, hd1, hg1⟩; have sw1 := hd1.lt; have tw1 := sz_le (W1 := W1) hg1 (by first | exact Nat.le_refl _ | exact le_alloc _ _ | exact Nat.le_trans (le_alloc _ _) (le_alloc _ _)); obtain ⟨K, hKy, hKl, hK0, hK5⟩ := kind_at y0 y1; have uL := fun Y : World => lit_new (t := 3) Y hKy; have uL2 := fun (Y : World) (o : Obj) => lit_new2 (t := 3) Y o hKy; (first | (have HL := g_a2 (cs := #[.int .i64 0, .int .i64 0, .int .i64 0, .int .i64 1, .int .i64 2, .int .i64 3, .int .i64 4, .int .i64 5]) (t := 3) hg1 (by omega)) | (have HL := g_a2d (cs := #[.int .i64 0, .int .i64 0, .int .i64 0, .int .i64 1, .int .i64 2, .int .i64 3, .int .i64 4, .int .i64 5]) (t := 3) hg1 (by omega)) | (have HL := g_a (cs := #[.int .i64 0, .int .i64 0, .int .i64 0, .int .i64 1, .int .i64 2, .int .i64 3, .int .i64 4, .int .i64 5]) (t := 3) hg1 (by omega)) | (have HL := g_ad (cs := #[.int .i64 0, .int .i64 0, .int .i64 0, .int .i64 1, .int .i64 2, .int .i64 3, .int .i64 4, .int .i64 5]) (t := 3) hg1 (by omega)) | (have HL := g_b (cs := #[.int .i64 0, .int .i64 0, .int .i64 0, .int .i64 1, .int .i64 2, .int .i64 3, .int .i64 4, .int .i64 5]) (t := 3) hg1 (by omega)) | (have HL := g_bd (cs := #[.int .i64 0, .int .i64 0, .int .i64 0, .int .i64 1, .int .i64 2, .int .i64 3, .int .i64 4, .int .i64 5]) (t := 3) hg1 (by omega)) | (have HL := g_c HL hg1 (by omega)) | (have HL := g_d HL hg1 (by omega)) | (have HL := g_e HL hg1 (by omega)) | skip); (first | (have HN := g_a2 (cs := #[.int .i64 0, .int .i64 0]) (t := 53) hg1 (by omega)) | (have HN := g_a2d (cs := #[.int .i64 0, .int .i64 0]) (t := 53) hg1 (by omega)) | (have HN := g_a (cs := #[.int .i64 0, .int .i64 0]) (t := 53) hg1 (by omega)) | (have HN := g_ad (cs := #[.int .i64 0, .int .i64 0]) (t := 53) hg1 (by omega)) | (have HN := g_b (cs := #[.int .i64 0, .int .i64 0]) (t := 53) hg1 (by omega)) | (have HN := g_bd (cs := #[.int .i64 0, .int .i64 0]) (t := 53) hg1 (by omega)) | (have HN := g_c HN hg1 (by omega)) | (have HN := g_d HN hg1 (by omega)) | (have HN := g_e HN hg1 (by omega)) | skip); have RES1 := Lib.hid (grow_row' hg1 (show _ = _ from (by first | exact RES0.out | exact row_alloc RES0.out _ | exact row_alloc (row_alloc RES0.out _) _)) (by omega)); (first | (have cL := lit_at HL hKy; have cLa := lit_at_alloc HL hKy) | skip); (first | (have nf0 := frozen_of_row _ _ 0 _ _ HN; have nf1 := frozen_of_row _ _ 1 _ _ HN; have nc0 := cell_of_row _ _ 0 _ _ _ HN; have nc1 := cell_of_row _ _ 1 _ _ _ HN; have na0 := fun o => lit_at_alloc (j := 0) HN rfl o; have na1 := fun o => lit_at_alloc (j := 1) HN rfl o; have nz0 := fun o => froz_alloc (j := 0) HN o; have nz1 := fun o => froz_alloc (j := 1) HN o) | skip); (first | (have z1 := IntWalk.i64_in d (by omega); have z2 := IntWalk.i64_in (d * 6) (by omega); have z3 := IntWalk.i64_in (K + d * 6) (by omega)) | skip)))
      | (go_simp; go_at_call_of 68 (Value.int .i64 60); first
          | (have hq := hd1; refine (pick_d (N := 60) (by first | exact hd1 | exact hd1.alloc _ | exact (hd1.alloc _).alloc _) (by omega) (by omega) (by omega)).mono ?_; rintro e w2 ⟨q, rfl, q0, q1, hd2, hg2⟩; have sw2 := hd2.lt; have tw2 := sz_le (W1 := w1) hg2 (by first | exact Nat.le_refl _ | exact le_alloc _ _ | exact Nat.le_trans (le_alloc _ _) (le_alloc _ _)); obtain ⟨d, hdq, hd0, hd1'⟩ := div59 q0 q1; (first | (have HL := g_a2 (cs := #[.int .i64 0, .int .i64 0, .int .i64 0, .int .i64 1, .int .i64 2, .int .i64 3, .int .i64 4, .int .i64 5]) (t := 3) hg2 (by omega)) | (have HL := g_a2d (cs := #[.int .i64 0, .int .i64 0, .int .i64 0, .int .i64 1, .int .i64 2, .int .i64 3, .int .i64 4, .int .i64 5]) (t := 3) hg2 (by omega)) | (have HL := g_a (cs := #[.int .i64 0, .int .i64 0, .int .i64 0, .int .i64 1, .int .i64 2, .int .i64 3, .int .i64 4, .int .i64 5]) (t := 3) hg2 (by omega)) | (have HL := g_ad (cs := #[.int .i64 0, .int .i64 0, .int .i64 0, .int .i64 1, .int .i64 2, .int .i64 3, .int .i64 4, .int .i64 5]) (t := 3) hg2 (by omega)) | (have HL := g_b (cs := #[.int .i64 0, .int .i64 0, .int .i64 0, .int .i64 1, .int .i64 2, .int .i64 3, .int .i64 4, .int .i64 5]) (t := 3) hg2 (by omega)) | (have HL := g_bd (cs := #[.int .i64 0, .int .i64 0, .int .i64 0, .int .i64 1, .int .i64 2, .int .i64 3, .int .i64 4, .int .i64 5]) (t := 3) hg2 (by omega)) | (have HL := g_c HL hg2 (by omega)) | (have HL := g_d HL hg2 (by omega)) | (have HL := g_e HL hg2 (by omega)) | skip); (first | (have HN := g_a2 (cs := #[.int .i64 0, .int .i64 0]) (t := 53) hg2 (by omega)) | (have HN := g_a2d (cs := #[.int .i64 0, .int .i64 0]) (t := 53) hg2 (by omega)) | (have HN := g_a (cs := #[.int .i64 0, .int .i64 0]) (t := 53) hg2 (by omega)) | (have HN := g_ad (cs := #[.int .i64 0, .int .i64 0]) (t := 53) hg2 (by omega)) | (have HN := g_b (cs := #[.int .i64 0, .int .i64 0]) (t := 53) hg2 (by omega)) | (have HN := g_bd (cs := #[.int .i64 0, .int .i64 0]) (t := 53) hg2 (by omega)) | (have HN := g_c HN hg2 (by omega)) | (have HN := g_d HN hg2 (by omega)) | (have HN := g_e HN hg2 (by omega)) | skip); have RES := Lib.hid (grow_row' hg2 (show _ = _ from (by first | exact RES1.out | exact row_alloc RES1.out _ | exact row_alloc (row_alloc RES1.out _) _)) (by omega)); (first | (have cL := lit_at HL hKy; have cLa := lit_at_alloc HL hKy) | skip); (first | (have nf0 := frozen_of_row _ _ 0 _ _ HN; have nf1 := frozen_of_row _ _ 1 _ _ HN; have nc0 := cell_of_row _ _ 0 _ _ _ HN; have nc1 := cell_of_row _ _ 1 _ _ _ HN; have na0 := fun o => lit_at_alloc (j := 0) HN rfl o; have na1 := fun o => lit_at_alloc (j := 1) HN rfl o; have nz0 := fun o => froz_alloc (j := 0) HN o; have nz1 := fun o => froz_alloc (j := 1) HN o) | skip); (first | (have z1 := IntWalk.i64_in d (by omega); have z2 := IntWalk.i64_in (d * 6) (by omega); have z3 := IntWalk.i64_in (K + d * 6) (by omega)) | skip))
          | (refine (pick_d (N := 60) (by first | exact h1.drew | exact (h1.alloc _).drew | exact ((h1.alloc _).alloc _).drew | exact h1.drew.alloc _ | exact (h1.drew.alloc _).alloc _) (by omega) (by omega) (by omega)).mono ?_; rintro e w1 ⟨q, rfl, q0, q1, hd1, hg1⟩; have sw1 := hd1.lt; have tw1 := sz_le (W1 := W1) hg1 (by first | exact Nat.le_refl _ | exact le_alloc _ _ | exact Nat.le_trans (le_alloc _ _) (le_alloc _ _)); obtain ⟨d, hdq, hd0, hd1'⟩ := div59 q0 q1; (first | (have HL := g_a2 (cs := #[.int .i64 0, .int .i64 0, .int .i64 0, .int .i64 1, .int .i64 2, .int .i64 3, .int .i64 4, .int .i64 5]) (t := 3) hg1 (by omega)) | (have HL := g_a2d (cs := #[.int .i64 0, .int .i64 0, .int .i64 0, .int .i64 1, .int .i64 2, .int .i64 3, .int .i64 4, .int .i64 5]) (t := 3) hg1 (by omega)) | (have HL := g_a (cs := #[.int .i64 0, .int .i64 0, .int .i64 0, .int .i64 1, .int .i64 2, .int .i64 3, .int .i64 4, .int .i64 5]) (t := 3) hg1 (by omega)) | (have HL := g_ad (cs := #[.int .i64 0, .int .i64 0, .int .i64 0, .int .i64 1, .int .i64 2, .int .i64 3, .int .i64 4, .int .i64 5]) (t := 3) hg1 (by omega)) | (have HL := g_b (cs := #[.int .i64 0, .int .i64 0, .int .i64 0, .int .i64 1, .int .i64 2, .int .i64 3, .int .i64 4, .int .i64 5]) (t := 3) hg1 (by omega)) | (have HL := g_bd (cs := #[.int .i64 0, .int .i64 0, .int .i64 0, .int .i64 1, .int .i64 2, .int .i64 3, .int .i64 4, .int .i64 5]) (t := 3) hg1 (by omega)) | (have HL := g_c HL hg1 (by omega)) | (have HL := g_d HL hg1 (by omega)) | (have HL := g_e HL hg1 (by omega)) | skip); (first | (have HN := g_a2 (cs := #[.int .i64 0, .int .i64 0]) (t := 53) hg1 (by omega)) | (have HN := g_a2d (cs := #[.int .i64 0, .int .i64 0]) (t := 53) hg1 (by omega)) | (have HN := g_a (cs := #[.int .i64 0, .int .i64 0]) (t := 53) hg1 (by omega)) | (have HN := g_ad (cs := #[.int .i64 0, .int .i64 0]) (t := 53) hg1 (by omega)) | (have HN := g_b (cs := #[.int .i64 0, .int .i64 0]) (t := 53) hg1 (by omega)) | (have HN := g_bd (cs := #[.int .i64 0, .int .i64 0]) (t := 53) hg1 (by omega)) | (have HN := g_c HN hg1 (by omega)) | (have HN := g_d HN hg1 (by omega)) | (have HN := g_e HN hg1 (by omega)) | skip); have RES1 := Lib.hid (grow_row' hg1 (show _ = _ from (by first | exact RES0.out | exact row_alloc RES0.out _ | exact row_alloc (row_alloc RES0.out _) _)) (by omega)); (first | (have cL := lit_at HL hKy; have cLa := lit_at_alloc HL hKy) | skip); (first | (have nf0 := frozen_of_row _ _ 0 _ _ HN; have nf1 := frozen_of_row _ _ 1 _ _ HN; have nc0 := cell_of_row _ _ 0 _ _ _ HN; have nc1 := cell_of_row _ _ 1 _ _ _ HN; have na0 := fun o => lit_at_alloc (j := 0) HN rfl o; have na1 := fun o => lit_at_alloc (j := 1) HN rfl o; have nz0 := fun o => froz_alloc (j := 0) HN o; have nz1 := fun o => froz_alloc (j := 1) HN o) | skip); (first | (have z1 := IntWalk.i64_in d (by omega); have z2 := IntWalk.i64_in (d * 6) (by omega); have z3 := IntWalk.i64_in (K + d * 6) (by omega)) | skip))))
    all_goals
      go_wp2_with fail
      go_meet
      first
        | exact ⟨_, _, rfl, by omega, by omega, ⟨hd2.alloc _, heap_alloc_new w2 _, row_alloc RES.out _, by omega, by omega, by omega, by omega⟩⟩
        | exact ⟨_, _, rfl, by omega, by omega, ⟨(hd2.setCell h1 (by omega) 0 _).setCell h1 (by omega) 1 _, two_put HN _ _, set_far2 RES.out (by omega) _ _, by omega, by omega, by omega, by omega⟩⟩
        | exact ⟨_, _, rfl, by omega, by omega, ⟨((hd2.alloc _).setCell h1 (by omega) 0 _).setCell h1 (by omega) 1 _, two_put (row_alloc HN _) _ _, set_far2 (row_alloc RES.out _) (by omega) _ _, by omega, by omega, by omega, by omega⟩⟩
        | exact ⟨_, _, rfl, by omega, by omega, ⟨(hd2.alloc _).alloc _, heap_alloc2_new w2 _ _, row_alloc (row_alloc RES.out _) _, by omega, by omega, by omega, by omega⟩⟩
        | exact ⟨_, _, rfl, by omega, by omega, ⟨(hd2.alloc _).alloc _, heap_alloc2_old w2 _ _, row_alloc (row_alloc RES.out _) _, by omega, by omega, by omega, by omega⟩⟩
  case rest =>
    obtain ⟨N, K, rfl, hK0, hK11, HS⟩ := hcut
    obtain ⟨q0, q1, q2⟩ := HS.out.cells
    have hmx0 : 1 ≤ max (s.size : Int) 1 := by omega
    have hmx1 : max (s.size : Int) 1 ≤ 41 := by omega
    obtain ⟨mx, hmx⟩ : ∃ mx, max (s.size : Int) 1 = mx := ⟨_, rfl⟩
    have hcase : K = 0 ∨ K = 2 ∨ K = 3 ∨ ((K == 0) = false ∧ (K == 2) = false ∧ (K == 3) = false) := by
      rcases Decidable.em (K = 0) with e | e
      · exact .inl e
      rcases Decidable.em (K = 2) with e2 | e2
      · exact .inr (.inl e2)
      rcases Decidable.em (K = 3) with e3 | e3
      · exact .inr (.inr (.inl e3))
      exact .inr (.inr (.inr ⟨beq_false_of_ne e, beq_false_of_ne e2, beq_false_of_ne e3⟩))
    rcases hcase with rfl | rfl | rfl | ⟨e0, e2, e3⟩
    all_goals
      go_wp2_with (first
        | (go_at_call 68; first
            | (have hq := HSo; refine (pick_d (HSo.out.drawn.alloc _) (by omega) (by omega) (by omega)).mono ?_; rintro e wg ⟨z, rfl, hz0, hz1, hdg, hgg⟩; have hlit := lit_cell HSo.out.drawn.lt hgg; have HSg := Lib.hid ((HSo.out.alloc _).grow hdg hgg); obtain ⟨g0, g1, g2⟩ := HSg.out.cells; have t0 := fun z => (HSg.out.put h1 z).rests.1; have t1 := fun z => (HSg.out.put h1 z).rests.2.1; have t2 := fun z => (HSg.out.put h1 z).rests.2.2.1; have t3 := fun z => (HSg.out.put h1 z).rests.2.2.2; have t4 := fun z => (HSg.out.put h1 z).cells.1; have t5 := fun z => (HSg.out.put h1 z).cells.2.1; obtain rfl | rfl | rfl | rfl : z = 0 ∨ z = 1 ∨ z = 2 ∨ z = 3 := by omega
               all_goals (have l0 := hlit 0 _ rfl; have l1 := hlit 1 _ rfl; have l2 := hlit 2 _ rfl; have l3 := hlit 3 _ rfl))
            | (refine (pick_d HS.out.drawn (by omega) (by omega) (by omega)).mono ?_; rintro e wd ⟨x, rfl, hx0, hx1, hdd, hgd⟩; have HSd := Lib.hid (HS.out.grow hdd hgd); obtain ⟨d0, d1, d2⟩ := HSd.out.cells; have HSp := Lib.hid (HSd.out.put h1 x)))
        | (go_at_call 69; first
            | (have hq := HSp; refine (odd_g HSp.out.drawn (by omega) (by omega) (by omega)).mono ?_; rintro e we ⟨b, rfl, hde, hge⟩; have HSo := Lib.hid (HSp.out.grow hde hge); obtain ⟨o0, o1, o2⟩ := HSo.out.cells; obtain ⟨r0, r1, r2, r3⟩ := HSo.out.rests; cases b)
            | (refine (odd_g HS.out.drawn (by omega) (by omega) (by omega)).mono ?_; rintro e we ⟨b, rfl, hde, hge⟩; have HSo := Lib.hid (HS.out.grow hde hge); obtain ⟨o0, o1, o2⟩ := HSo.out.cells; obtain ⟨r0, r1, r2, r3⟩ := HSo.out.rests; cases b)))
    · have q := two_put HSo.out.res (.int .i64 0) (.int .i64 x)
      have q0' := cell_of_row _ _ 0 _ _ _ q
      have q1' := cell_of_row _ _ 1 _ _ _ q
      refine bodyPost_ret (v := .agg #[.int .i64 0, .int .i64 x]) (by simp [results, Tryz.results83, go_sem, q0', q1']) rfl ⟨_, _, rfl, by omega, by omega, by omega, by omega, ?_⟩
      exact ((HSo.out.drawn.setCell h (Nat.le_refl _) 0 _).setCell h (Nat.le_refl _) 1 _).mono (by omega)
    · have q := two_put (HSg.out.put h1 (-1)).res (.int .i64 0) (.int .i64 (-1))
      have q0' := cell_of_row _ _ 0 _ _ _ q
      have q1' := cell_of_row _ _ 1 _ _ _ q
      refine bodyPost_ret (v := .agg #[.int .i64 0, .int .i64 (-1)]) (by simp [results, Tryz.results83, go_sem, q0', q1']) rfl ⟨_, _, rfl, by omega, by omega, by omega, by omega, ?_⟩
      exact (((HSg.out.put h1 (-1)).drawn.setCell h (Nat.le_refl _) 0 _).setCell h (Nat.le_refl _) 1 _).mono (by omega)
    · have q := two_put (HSg.out.put h1 8).res (.int .i64 0) (.int .i64 8)
      have q0' := cell_of_row _ _ 0 _ _ _ q
      have q1' := cell_of_row _ _ 1 _ _ _ q
      refine bodyPost_ret (v := .agg #[.int .i64 0, .int .i64 8]) (by simp [results, Tryz.results83, go_sem, q0', q1']) rfl ⟨_, _, rfl, by omega, by omega, by omega, by omega, ?_⟩
      exact (((HSg.out.put h1 8).drawn.setCell h (Nat.le_refl _) 0 _).setCell h (Nat.le_refl _) 1 _).mono (by omega)
    · have q := two_put (HSg.out.put h1 40).res (.int .i64 0) (.int .i64 40)
      have q0' := cell_of_row _ _ 0 _ _ _ q
      have q1' := cell_of_row _ _ 1 _ _ _ q
      refine bodyPost_ret (v := .agg #[.int .i64 0, .int .i64 40]) (by simp [results, Tryz.results83, go_sem, q0', q1']) rfl ⟨_, _, rfl, by omega, by omega, by omega, by omega, ?_⟩
      exact (((HSg.out.put h1 40).drawn.setCell h (Nat.le_refl _) 0 _).setCell h (Nat.le_refl _) 1 _).mono (by omega)
    · have q := two_put (HSg.out.put h1 100).res (.int .i64 0) (.int .i64 100)
      have q0' := cell_of_row _ _ 0 _ _ _ q
      have q1' := cell_of_row _ _ 1 _ _ _ q
      refine bodyPost_ret (v := .agg #[.int .i64 0, .int .i64 100]) (by simp [results, Tryz.results83, go_sem, q0', q1']) rfl ⟨_, _, rfl, by omega, by omega, by omega, by omega, ?_⟩
      exact (((HSg.out.put h1 100).drawn.setCell h (Nat.le_refl _) 0 _).setCell h (Nat.le_refl _) 1 _).mono (by omega)
    · have q := two_put HSo.out.res (.int .i64 2) (.int .i64 x)
      have q0' := cell_of_row _ _ 0 _ _ _ q
      have q1' := cell_of_row _ _ 1 _ _ _ q
      refine bodyPost_ret (v := .agg #[.int .i64 2, .int .i64 x]) (by simp [results, Tryz.results83, go_sem, q0', q1']) rfl ⟨_, _, rfl, by omega, by omega, by omega, by omega, ?_⟩
      exact ((HSo.out.drawn.setCell h (Nat.le_refl _) 0 _).setCell h (Nat.le_refl _) 1 _).mono (by omega)
    · have q := two_put (HSg.out.put h1 (-1)).res (.int .i64 2) (.int .i64 (-1))
      have q0' := cell_of_row _ _ 0 _ _ _ q
      have q1' := cell_of_row _ _ 1 _ _ _ q
      refine bodyPost_ret (v := .agg #[.int .i64 2, .int .i64 (-1)]) (by simp [results, Tryz.results83, go_sem, q0', q1']) rfl ⟨_, _, rfl, by omega, by omega, by omega, by omega, ?_⟩
      exact (((HSg.out.put h1 (-1)).drawn.setCell h (Nat.le_refl _) 0 _).setCell h (Nat.le_refl _) 1 _).mono (by omega)
    · have q := two_put (HSg.out.put h1 8).res (.int .i64 2) (.int .i64 8)
      have q0' := cell_of_row _ _ 0 _ _ _ q
      have q1' := cell_of_row _ _ 1 _ _ _ q
      refine bodyPost_ret (v := .agg #[.int .i64 2, .int .i64 8]) (by simp [results, Tryz.results83, go_sem, q0', q1']) rfl ⟨_, _, rfl, by omega, by omega, by omega, by omega, ?_⟩
      exact (((HSg.out.put h1 8).drawn.setCell h (Nat.le_refl _) 0 _).setCell h (Nat.le_refl _) 1 _).mono (by omega)
    · have q := two_put (HSg.out.put h1 40).res (.int .i64 2) (.int .i64 40)
      have q0' := cell_of_row _ _ 0 _ _ _ q
      have q1' := cell_of_row _ _ 1 _ _ _ q
      refine bodyPost_ret (v := .agg #[.int .i64 2, .int .i64 40]) (by simp [results, Tryz.results83, go_sem, q0', q1']) rfl ⟨_, _, rfl, by omega, by omega, by omega, by omega, ?_⟩
      exact (((HSg.out.put h1 40).drawn.setCell h (Nat.le_refl _) 0 _).setCell h (Nat.le_refl _) 1 _).mono (by omega)
    · have q := two_put (HSg.out.put h1 100).res (.int .i64 2) (.int .i64 100)
      have q0' := cell_of_row _ _ 0 _ _ _ q
      have q1' := cell_of_row _ _ 1 _ _ _ q
      refine bodyPost_ret (v := .agg #[.int .i64 2, .int .i64 100]) (by simp [results, Tryz.results83, go_sem, q0', q1']) rfl ⟨_, _, rfl, by omega, by omega, by omega, by omega, ?_⟩
      exact (((HSg.out.put h1 100).drawn.setCell h (Nat.le_refl _) 0 _).setCell h (Nat.le_refl _) 1 _).mono (by omega)
    · have q := two_put HSo.out.res (.int .i64 3) (.int .i64 x)
      have q0' := cell_of_row _ _ 0 _ _ _ q
      have q1' := cell_of_row _ _ 1 _ _ _ q
      refine bodyPost_ret (v := .agg #[.int .i64 3, .int .i64 x]) (by simp [results, Tryz.results83, go_sem, q0', q1']) rfl ⟨_, _, rfl, by omega, by omega, by omega, by omega, ?_⟩
      exact ((HSo.out.drawn.setCell h (Nat.le_refl _) 0 _).setCell h (Nat.le_refl _) 1 _).mono (by omega)
    · have q := two_put (HSg.out.put h1 (-1)).res (.int .i64 3) (.int .i64 (-1))
      have q0' := cell_of_row _ _ 0 _ _ _ q
      have q1' := cell_of_row _ _ 1 _ _ _ q
      refine bodyPost_ret (v := .agg #[.int .i64 3, .int .i64 (-1)]) (by simp [results, Tryz.results83, go_sem, q0', q1']) rfl ⟨_, _, rfl, by omega, by omega, by omega, by omega, ?_⟩
      exact (((HSg.out.put h1 (-1)).drawn.setCell h (Nat.le_refl _) 0 _).setCell h (Nat.le_refl _) 1 _).mono (by omega)
    · have q := two_put (HSg.out.put h1 8).res (.int .i64 3) (.int .i64 8)
      have q0' := cell_of_row _ _ 0 _ _ _ q
      have q1' := cell_of_row _ _ 1 _ _ _ q
      refine bodyPost_ret (v := .agg #[.int .i64 3, .int .i64 8]) (by simp [results, Tryz.results83, go_sem, q0', q1']) rfl ⟨_, _, rfl, by omega, by omega, by omega, by omega, ?_⟩
      exact (((HSg.out.put h1 8).drawn.setCell h (Nat.le_refl _) 0 _).setCell h (Nat.le_refl _) 1 _).mono (by omega)
    · have q := two_put (HSg.out.put h1 40).res (.int .i64 3) (.int .i64 40)
      have q0' := cell_of_row _ _ 0 _ _ _ q
      have q1' := cell_of_row _ _ 1 _ _ _ q
      refine bodyPost_ret (v := .agg #[.int .i64 3, .int .i64 40]) (by simp [results, Tryz.results83, go_sem, q0', q1']) rfl ⟨_, _, rfl, by omega, by omega, by omega, by omega, ?_⟩
      exact (((HSg.out.put h1 40).drawn.setCell h (Nat.le_refl _) 0 _).setCell h (Nat.le_refl _) 1 _).mono (by omega)
    · have q := two_put (HSg.out.put h1 100).res (.int .i64 3) (.int .i64 100)
      have q0' := cell_of_row _ _ 0 _ _ _ q
      have q1' := cell_of_row _ _ 1 _ _ _ q
      refine bodyPost_ret (v := .agg #[.int .i64 3, .int .i64 100]) (by simp [results, Tryz.results83, go_sem, q0', q1']) rfl ⟨_, _, rfl, by omega, by omega, by omega, by omega, ?_⟩
      exact (((HSg.out.put h1 100).drawn.setCell h (Nat.le_refl _) 0 _).setCell h (Nat.le_refl _) 1 _).mono (by omega)
    · have q := two_put HSo.out.res (.int .i64 K) (.int .i64 0)
      have q0' := cell_of_row _ _ 0 _ _ _ q
      have q1' := cell_of_row _ _ 1 _ _ _ q
      refine bodyPost_ret (v := .agg #[.int .i64 K, .int .i64 0]) (by simp [results, Tryz.results83, go_sem, q0', q1']) rfl ⟨_, _, rfl, by omega, by omega, by omega, by omega, ?_⟩
      exact ((HSo.out.drawn.setCell h (Nat.le_refl _) 0 _).setCell h (Nat.le_refl _) 1 _).mono (by omega)
    · have q := two_put (HSg.out.put h1 (-1)).res (.int .i64 K) (.int .i64 (-1))
      have q0' := cell_of_row _ _ 0 _ _ _ q
      have q1' := cell_of_row _ _ 1 _ _ _ q
      refine bodyPost_ret (v := .agg #[.int .i64 K, .int .i64 (-1)]) (by simp [results, Tryz.results83, go_sem, q0', q1']) rfl ⟨_, _, rfl, by omega, by omega, by omega, by omega, ?_⟩
      exact (((HSg.out.put h1 (-1)).drawn.setCell h (Nat.le_refl _) 0 _).setCell h (Nat.le_refl _) 1 _).mono (by omega)
    · have q := two_put (HSg.out.put h1 8).res (.int .i64 K) (.int .i64 8)
      have q0' := cell_of_row _ _ 0 _ _ _ q
      have q1' := cell_of_row _ _ 1 _ _ _ q
      refine bodyPost_ret (v := .agg #[.int .i64 K, .int .i64 8]) (by simp [results, Tryz.results83, go_sem, q0', q1']) rfl ⟨_, _, rfl, by omega, by omega, by omega, by omega, ?_⟩
      exact (((HSg.out.put h1 8).drawn.setCell h (Nat.le_refl _) 0 _).setCell h (Nat.le_refl _) 1 _).mono (by omega)
    · have q := two_put (HSg.out.put h1 40).res (.int .i64 K) (.int .i64 40)
      have q0' := cell_of_row _ _ 0 _ _ _ q
      have q1' := cell_of_row _ _ 1 _ _ _ q
      refine bodyPost_ret (v := .agg #[.int .i64 K, .int .i64 40]) (by simp [results, Tryz.results83, go_sem, q0', q1']) rfl ⟨_, _, rfl, by omega, by omega, by omega, by omega, ?_⟩
      exact (((HSg.out.put h1 40).drawn.setCell h (Nat.le_refl _) 0 _).setCell h (Nat.le_refl _) 1 _).mono (by omega)
    · have q := two_put (HSg.out.put h1 100).res (.int .i64 K) (.int .i64 100)
      have q0' := cell_of_row _ _ 0 _ _ _ q
      have q1' := cell_of_row _ _ 1 _ _ _ q
      refine bodyPost_ret (v := .agg #[.int .i64 K, .int .i64 100]) (by simp [results, Tryz.results83, go_sem, q0', q1']) rfl ⟨_, _, rfl, by omega, by omega, by omega, by omega, ?_⟩
      exact (((HSg.out.put h1 100).drawn.setCell h (Nat.le_refl _) 0 _).setCell h (Nat.le_refl _) 1 _).mono (by omega)
end Go.Proofs.YtccdfndnjjjgfaaGreatDoor

namespace Go.Proofs.YtccdfndnjjjgfaaGreatDoor
open Go.RowKit

theorem past_end {w : World} {g off cap : Nat} {cur : Array Value} {zs : List ByteArray} (hl : zs.length + 1 ≤ cap) (hg : w.heap[g]? = some (.cells cur 9 (0, 0))) (hc : off + cap ≤ cur.size) (hz : ∀ (j : Nat) (z : ByteArray), zs[j]? = some z → cur[off + j]? = some (.string z)) (z : ByteArray) :
    PastAt (w.setCell ⟨g, off + zs.length, none⟩ (.string z)) (.slice (some ⟨g, off, none⟩) (zs.length + 1) cap) (zs ++ [z]) := by
  have e0 : (zs ++ [z]).length = zs.length + 1 := by simp
  refine .inr ⟨g, off, cap, cur.set! (off + zs.length) (.string z), by rw [e0], by rw [e0]; exact hl, ?_, by simpa using hc, fun i y hi => ?_⟩
  · simp [World.setCell, Array.getElem?_modify, hg]
  · rw [Array.set!_eq_setIfInBounds, Array.getElem?_setIfInBounds]
    rcases Nat.lt_trichotomy i zs.length with h | h | h
    · rw [if_neg (by omega)]
      rw [List.getElem?_append_left h] at hi
      exact hz i y hi
    · subst h
      rw [if_pos rfl, if_pos (by omega)]
      simp at hi
      rw [hi]
    · have := (List.getElem?_eq_some_iff.1 hi).1
      omega
theorem wpList_append_past {w : World} {ops : Array Oper} {rest : List Oper} {o : Oper} {a : Act} {Q : Exit → Act → World → Prop} (hgd : o.guard = none) (s x : Operand)
    (ho : o.op = .call { callee := .builtin .append, args := #[s, x], argTypes := #[22, 22] })
    {v : Value} {zs : List ByteArray} (hs : a.eval s = v) (hp : PastAt w v zs) (hl : zs.length ≤ 1000) {b c : Nat} {z : ByteArray} (hx : a.eval x = .slice (some ⟨b, 0, none⟩) 1 c) (hz : w.cell? ⟨b, 0, none⟩ = some (.string z))
    (h : ∀ v' w', PastAt w' v' (zs ++ [z]) → But v w w' → (∀ g, v'.ownBlock = some g → v.ownBlock = some g ∨ w.heap.size ≤ g) → wpList Tryz.prog ops Q rest (a.put o.dst v') w') : wpList Tryz.prog ops Q (o :: rest) a w := by
  obtain ⟨i0, hi0, hz0, hz1, hz2⟩ := info_parts stringInfo
  have hnews : ∀ j u, [Value.string z][j]? = some u → w.cell? ((⟨b, 0, none⟩ : Addr).add j) = some u := by
    intro j u hj
    cases j with
    | zero => rw [add_plain]; rw [← hj]; exact hz
    | succ j => simp at hj
  have hown : ∀ v' w', w'.ownsRow w.heap.size 9 1 v' (zs.length + 1) (strVals zs ++ [.string z]) → w.grownBy w' none → wpList Tryz.prog ops Q rest (a.put o.dst v') w' := by
    intro v' w' hw hg
    have e1 : strVals (zs ++ [z]) = strVals zs ++ [.string z] := by unfold strVals; rw [List.map_append]; rfl
    have e2 : (zs ++ [z]).length = zs.length + 1 := by simp
    refine h v' w' (past_own (by rw [e1, e2]; exact hw)) ⟨hg.os, hg.tape, hg.output, hg.size, fun k hk _ => hg.block k hk (by simp)⟩ (fun g hg' => .inr ?_)
    rcases hw.2 with ⟨rfl, _⟩ | ⟨g', _, _, rfl, hb, _⟩
    · cases hg'
    · cases hg'
      exact hb
  rcases hp with ⟨rfl, rfl⟩ | ⟨g, off, cap, cur, rfl, hlc, hg, hc, hzz⟩
  · exact wpList_append_grows w hgd s x _ ho 9 i0 _ 1 16 Tryz.underlying22 hi0 hz0 hz1 hz2 rfl (by omega) none 0 0 [] hs (fun _ => ⟨rfl, rfl⟩) rfl (fun b h => by cases h) ⟨b, 0, none⟩ 1 c [.string z] hx rfl hnews (by simp [Value.oneCell']) (by omega) (by unfold maxLen; omega) (by omega) (fun v' w' h1 h2 => hown v' w' h1 h2)
  · refine wpList_append_arg w hgd s x _ ho 9 i0 _ 1 16 Tryz.underlying22 hi0 hz0 hz1 hz2 rfl (by omega) g off zs.length cap (strVals zs) hs (by rw [strVals_len]; omega) (fun j u hj => ?_) ⟨b, 0, none⟩ 1 c [.string z] hx rfl hnews (by simp [Value.oneCell']) (fun hr j hj => ?_) (by unfold maxLen; omega) (by omega) (fun hr => ?_) (fun _ v' w' h1 h2 => hown v' w' h1 h2)
    · unfold strVals at hj
      rw [List.getElem?_map] at hj
      cases hzj : zs[j]? with
      | none => rw [hzj] at hj; cases hj
      | some y =>
        rw [hzj] at hj
        rw [cell_of_row _ _ _ _ _ _ hg, hzz j y hzj]
        exact hj
    · refine ⟨?_, frozen_of_row _ _ _ _ _ hg⟩
      simp only [List.length_singleton] at hj
      rw [cell_of_row _ _ _ _ _ _ hg, Array.getElem?_eq_getElem (by omega)]
      rfl
    · have e : w.setCells g (off + zs.length * 1) [.string z] = w.setCell ⟨g, off + zs.length, none⟩ (.string z) := by rw [Nat.mul_one]; rfl
      rw [e]
      exact h _ _ (past_end hr hg hc hzz z) (But.setCell w rfl _) (fun g' hg' => .inl hg')
end Go.Proofs.YtccdfndnjjjgfaaGreatDoor

namespace Go.Proofs.YtccdfndnjjjgfaaGreatDoor
open Go.RowKit

theorem Drawn.belowB {w W W' W1 : World} {R n p k k0 : Nat} {v : Value} (h : Drawn w W R v n p k) (h0 : Drawn w W1 R v n p k0) (hb : Below W1.heap.size W W') : Drawn w W' R v n p k := by
  obtain ⟨p', hp, hr, hg⟩ := h
  obtain ⟨p0, _, hr0, hg0⟩ := h0
  have hlR := hr0.lt
  have hsz := hg0.size
  refine ⟨p', hp, ⟨(hb.block R hlR).trans hr.cells, ?_, hr.few, hr.off⟩, ⟨hb.os.trans hg.os, hb.tape.trans hg.tape, hb.output.trans hg.output, Nat.le_trans hg.size hb.size, fun i hi hR => (hb.block i (by omega)).trans (hg.block i hi hR)⟩⟩
  rcases hr.code with hc | ⟨a, cap, hv, hl, hc⟩
  · exact .inl hc
  · refine .inr ⟨a, cap, hv, hl, fun i hi => ?_⟩
    obtain ⟨b, h1, h2, h3⟩ := hc i hi
    refine ⟨b, h1, h2, ?_⟩
    have hlt : a.block < W1.heap.size := by
      rcases hr0.code with ⟨hv0, _⟩ | ⟨a0, cap0, hv0, _, hc0⟩
      · rw [hv0] at hv
        cases hv
      · rw [hv0] at hv
        simp only [Value.slice.injEq, Option.some.injEq] at hv
        obtain ⟨rfl, _, _⟩ := hv
        obtain ⟨_, _, _, h4⟩ := hc0 i hi
        have := World.block_lt_of_cell? W1 _ h4
        rwa [show (a0.add i).block = a0.block by unfold Addr.add; split <;> rfl] at this
    rw [← h3]
    exact World.cell?_of_block (hb.block _ (by rw [show (a.add i).block = a.block by unfold Addr.add; split <;> rfl]; exact hlt))
theorem past_grown {X X' : World} {v : Value} {zs : List ByteArray} {R : Nat} (h : PastAt X v zs) (hg : X.grownBy X' (some R)) (hne : v.ownBlock ≠ some R) : PastAt X' v zs := by
  rcases h with h | ⟨g, off, cap, cur, rfl, hl, hr, hc, hz⟩
  · exact .inl h
  · exact .inr ⟨g, off, cap, cur, rfl, hl, grow_row' hg hr (fun e => hne (by rw [← e]; rfl)), hc, hz⟩

structure FinSt (w W1 X : World) (R D B : Nat) (v0 : Value) (n p m : Nat) (s : ByteArray) (v : Value) (zs : List ByteArray) : Prop where
  row : X.heap[D]? = some (.cells #[.string s, v] 27 (0, 0))
  past : PastAt X v zs
  ne : v.ownBlock ≠ some D
  ge : W1.heap.size ≤ D
  fresh : Fresh W1.heap.size v
  drawn : Drawn w X R v0 n p m
  res : X.heap[B]? = some (.cells #[.string ⟨#[]⟩, .slice none 0 0] 27 (0, 0))
  size : W1.heap.size ≤ X.heap.size
  hs : s.size ≤ 41
  hl : zs.length ≤ 9
  hz : ∀ z ∈ zs, z.size ≤ 41
section
variable {w W1 X : World} {R D B n p m k0 : Nat} {v0 : Value} {s : ByteArray} {v : Value} {zs : List ByteArray}
theorem FinSt.facts (h : FinSt w W1 X R D B v0 n p m s v zs) : X.cell? ⟨D, 0, none⟩ = some (.string s) ∧ X.cell? ⟨D, 1, none⟩ = some v ∧ X.frozen? ⟨D, 0, none⟩ = false ∧ X.frozen? ⟨D, 1, none⟩ = false ∧ X.cell? ⟨B, 0, none⟩ = some (.string ⟨#[]⟩) ∧ X.cell? ⟨B, 1, none⟩ = some (.slice none 0 0) ∧ X.frozen? ⟨B, 0, none⟩ = false ∧ X.frozen? ⟨B, 1, none⟩ = false :=
  ⟨cell_of_row _ _ 0 _ _ _ h.row, cell_of_row _ _ 1 _ _ _ h.row, frozen_of_row _ _ 0 _ _ h.row, frozen_of_row _ _ 1 _ _ h.row, cell_of_row _ _ 0 _ _ _ h.res, cell_of_row _ _ 1 _ _ _ h.res, frozen_of_row _ _ 0 _ _ h.res, frozen_of_row _ _ 1 _ _ h.res⟩
theorem FinSt.grown (h : FinSt w W1 X R D B v0 n p m s v zs) {X' : World} {m' : Nat} (hg : X.grownBy X' (some R)) (hd : Drawn w X' R v0 n p m') (hR : R < W1.heap.size) (hB : B ≠ R) : FinSt w W1 X' R D B v0 n p m' s v zs :=
  ⟨grow_row' hg h.row (by have := h.ge; omega), past_grown h.past hg (fun e => by have := h.fresh R e; omega), h.ne, h.ge, h.fresh, hd, grow_row' hg h.res hB, Nat.le_trans h.size hg.size, h.hs, h.hl, h.hz⟩
theorem FinSt.alloc (h : FinSt w W1 X R D B v0 n p m s v zs) (o : Obj) : FinSt w W1 (X.alloc o) R D B v0 n p m s v zs :=
  ⟨row_alloc h.row o, ((Ext.refl X).alloc o).past h.past, h.ne, h.ge, h.fresh, h.drawn.alloc o, row_alloc h.res o, by have := h.size; simp; omega, h.hs, h.hl, h.hz⟩
theorem FinSt.putx (h : FinSt w W1 X R D B v0 n p m s v zs) (h0 : Drawn w W1 R v0 n p k0) (hB : B < W1.heap.size) (x : ByteArray) (hx : x.size ≤ 41) : FinSt w W1 (X.setCell ⟨D, 0, none⟩ (.string x)) R D B v0 n p m x v zs :=
  ⟨by simp [World.setCell, Array.getElem?_modify, h.row], past_put h.past _ _ h.ne, h.ne, h.ge, h.fresh, h.drawn.setCell h0 h.ge 0 _, (heap_setCell_other _ _ _ _ (by have := h.ge; show B ≠ D; omega)).trans h.res, by simpa [World.setCell] using h.size, hx, h.hl, h.hz⟩
theorem FinSt.app (h : FinSt w W1 X R D B v0 n p m s v zs) (h0 : Drawn w W1 R v0 n p k0) (hB : B < W1.heap.size) (hl8 : zs.length ≤ 8) {X' : World} {v' : Value} {z : ByteArray} (hz : z.size ≤ 41) (hp : PastAt X' v' (zs ++ [z])) (hb : But v X X') (hf : ∀ g, v'.ownBlock = some g → v.ownBlock = some g ∨ X.heap.size ≤ g) : FinSt w W1 (X'.setCell ⟨D, 1, none⟩ v') R D B v0 n p m s v' (zs ++ [z]) := by
  have hbb := hb.below h.fresh h.size
  have hDX := lt_at h.row
  have hge := h.ge
  have hne : v'.ownBlock ≠ some D := fun e => by
    rcases hf D e with h1 | h1
    · exact h.ne h1
    · omega
  have hrow : X'.heap[D]? = some (.cells #[.string s, v] 27 (0, 0)) := (hb.block D hDX h.ne).trans h.row
  refine ⟨by simp [World.setCell, Array.getElem?_modify, hrow], past_put hp _ _ hne, hne, h.ge, fun g hg => ?_, (h.drawn.belowB h0 hbb).setCell h0 h.ge 1 _, (heap_setCell_other _ _ _ _ (by show B ≠ D; omega)).trans ((hbb.block B hB).trans h.res), by simpa [World.setCell] using Nat.le_trans h.size hb.size, h.hs, by simp; omega, fun y hy => ?_⟩
  · rcases hf g hg with h1 | h1
    · exact h.fresh g h1
    · have := h.size
      omega
  · rcases List.mem_append.1 hy with h1 | h1
    · exact h.hz y h1
    · rw [List.mem_singleton.1 h1]
      exact hz
theorem FinSt.but_facts (h : FinSt w W1 X R D B v0 n p m s v zs) (hB : B < W1.heap.size) {X' : World} (hb : But v X X') : X'.cell? ⟨D, 0, none⟩ = some (.string s) ∧ X'.cell? ⟨D, 1, none⟩ = some v ∧ X'.frozen? ⟨D, 0, none⟩ = false ∧ X'.frozen? ⟨D, 1, none⟩ = false ∧ X'.cell? ⟨B, 0, none⟩ = some (.string ⟨#[]⟩) ∧ X'.cell? ⟨B, 1, none⟩ = some (.slice none 0 0) ∧ X'.frozen? ⟨B, 0, none⟩ = false ∧ X'.frozen? ⟨B, 1, none⟩ = false := by
  have hrow := (hb.block D (lt_at h.row) h.ne).trans h.row
  have hres := ((hb.below h.fresh h.size).block B hB).trans h.res
  exact ⟨cell_of_row _ _ 0 _ _ _ hrow, cell_of_row _ _ 1 _ _ _ hrow, frozen_of_row _ _ 0 _ _ hrow, frozen_of_row _ _ 1 _ _ hrow, cell_of_row _ _ 0 _ _ _ hres, cell_of_row _ _ 1 _ _ _ hres, frozen_of_row _ _ 0 _ _ hres, frozen_of_row _ _ 1 _ _ hres⟩
theorem FinSt.finish (h : FinSt w W1 X R D B v0 n p m s v zs) {W : World} (hW0 : Drawn w W R v0 n p k0) (hBW : B = W.heap.size) (hB : B < W1.heap.size) {k : Nat} (hk : m ≤ k) :
    ((X.setCell ⟨B, 0, none⟩ (.string s)).setCell ⟨B, 1, none⟩ v).cell? ⟨B, 0, none⟩ = some (.string s) ∧ ((X.setCell ⟨B, 0, none⟩ (.string s)).setCell ⟨B, 1, none⟩ v).cell? ⟨B, 1, none⟩ = some v ∧
    ∃ (s' : ByteArray) (v' : Value) (zs' : List ByteArray), Ending.returned (.agg #[.string s, v]) = .returned (.agg #[.string s', v']) ∧ PastAt ((X.setCell ⟨B, 0, none⟩ (.string s)).setCell ⟨B, 1, none⟩ v) v' zs' ∧ Fresh W.heap.size v' ∧ s'.size ≤ 41 ∧ zs'.length ≤ 9 ∧ (∀ z ∈ zs', z.size ≤ 41) ∧ Drawn w ((X.setCell ⟨B, 0, none⟩ (.string s)).setCell ⟨B, 1, none⟩ v) R v0 n p k := by
  have q := pair_put h.res (.string s) v
  have hne : v.ownBlock ≠ some B := fun e => by have := h.fresh B e; omega
  exact ⟨cell_of_row _ _ 0 _ _ _ q, cell_of_row _ _ 1 _ _ _ q, s, v, zs, rfl, past_put (past_put h.past _ _ hne) _ _ hne, fun g hg => by have := h.fresh g hg; omega, h.hs, h.hl, h.hz, ((h.drawn.setCell hW0 (by omega) 0 _).setCell hW0 (by omega) 1 _).mono hk⟩
end
end Go.Proofs.YtccdfndnjjjgfaaGreatDoor

namespace Go.Proofs.YtccdfndnjjjgfaaGreatDoor
open Go.RowKit

theorem grown_refl (a : World) (r : Option Nat) : a.grownBy a r := ⟨rfl, rfl, rfl, Nat.le_refl _, fun _ _ _ => rfl⟩
theorem grown_alloc {a X : World} {r : Option Nat} (h : a.grownBy X r) (o : Obj) : a.grownBy (X.alloc o) r := grown_trans h (World.grownBy_alloc X o r)
theorem grown_drew {a X : World} {r : Option Nat} (h : a.grownBy X r) : a.grownBy X.drew r := grown_trans h ⟨rfl, rfl, rfl, Nat.le_refl _, fun _ _ _ => rfl⟩
theorem grown_ext {a X Y : World} {r : Option Nat} (h : a.grownBy X r) (k : Below X.heap.size X Y) : a.grownBy Y r := grown_trans h (grown_of_below k r)
theorem BoxB.grown {A B R : Nat} {W X : World} {N : Nat} {x : ByteArray} {v : Value} {ys : List ByteArray} (h : BoxB A B W N x v ys) (hg : W.grownBy X (some R)) (hR : R < A) : BoxB A B X N x v ys :=
  ⟨grow_row' hg h.row (by have := h.ge; omega), past_grown h.past hg (fun e => by have := h.fresh R e; omega), h.ne, h.ge, h.fresh, h.lt, h.vlt⟩
theorem deed_g {s : ByteArray} {w W : World} {R n p k : Nat} {v : Value} (h : Drawn w W R v n p k) (hp : p + k ≤ 90000) (hs : s.size ≤ 41) :
    Calls Tryz.prog 83 #[.pointer (some ⟨R, 0, none⟩), .string s] W fun e w' => ∃ K M : Int, e = .returned (.agg #[.int .i64 K, .int .i64 M]) ∧ 0 ≤ K ∧ K ≤ 11 ∧ -1 ≤ M ∧ M ≤ 100 ∧ Drawn w w' R v n p (k + 5) ∧ W.grownBy w' (some R) := by
  obtain ⟨p', hp', hr, hg⟩ := h
  refine (deed_d s W W R n p' 0 v (Drawn.start hr) (by omega) hs).mono ?_
  rintro e w' ⟨K, M, rfl, h1, h2, h3, h4, p2, hp2, hr2, hg2⟩
  exact ⟨K, M, rfl, h1, h2, h3, h4, ⟨p2, by omega, hr2, grown_trans hg hg2⟩, hg2⟩

/-- A desk that grows by deeds. -/
structure GrowSt (w W1 X : World) (R D B : Nat) (v0 : Value) (n p m : Nat) (s : ByteArray) (v : Value) (zs : List ByteArray) : Prop where
  box : BoxB W1.heap.size X.heap.size X D s v zs
  ok : deskOk s zs = true
  drawn : Drawn w X R v0 n p m
  res : X.heap[B]? = some (.cells #[.string ⟨#[]⟩, .slice none 0 0] 27 (0, 0))
  size : W1.heap.size ≤ X.heap.size
theorem GrowSt.grown {w W1 X X' : World} {R D B n p m m' : Nat} {v0 : Value} {s : ByteArray} {v : Value} {zs : List ByteArray} (h : GrowSt w W1 X R D B v0 n p m s v zs) (hg : X.grownBy X' (some R)) (hd : Drawn w X' R v0 n p m') (hR : R < W1.heap.size) (hB : B ≠ R) : GrowSt w W1 X' R D B v0 n p m' s v zs :=
  ⟨boxB_size (h.box.grown hg hR), h.ok, hd, grow_row' hg h.res hB, Nat.le_trans h.size hg.size⟩
theorem GrowSt.ext {w W1 X X' : World} {R D B n p m : Nat} {v0 : Value} {s : ByteArray} {v : Value} {zs : List ByteArray} (h : GrowSt w W1 X R D B v0 n p m s v zs) (e : Ext X X') : GrowSt w W1 X' R D B v0 n p m s v zs :=
  ⟨boxB_size (h.box.ext e), h.ok, h.drawn.below e, e.row h.res, Nat.le_trans h.size e.size⟩
theorem GrowSt.put {w W1 X : World} {R D B n p m k0 : Nat} {v0 : Value} {s x : ByteArray} {v u : Value} {zs ys : List ByteArray} (h : GrowSt w W1 X R D B v0 n p m s v zs) (h0 : Drawn w W1 R v0 n p k0) (hB : B < W1.heap.size) (hp : PastAt X u ys) (hf : Fresh W1.heap.size u) (hne : u.ownBlock ≠ some D) (hok : deskOk x ys = true) :
    GrowSt w W1 ((X.setCell ⟨D, 0, none⟩ (.string x)).setCell ⟨D, 1, none⟩ u) R D B v0 n p m x u ys :=
  ⟨box_set h.box.row hp hf hne h.box.ge, hok, (h.drawn.setCell h0 h.box.ge 0 _).setCell h0 h.box.ge 1 _, set_far2 h.res (by have := h.box.ge; omega) _ _, by simpa [World.setCell] using h.size⟩
theorem Drawn.set2 {w W W1 : World} {R n p k k0 N : Nat} {v : Value} (h : Drawn w W R v n p k) (h0 : Drawn w W1 R v n p k0) (hN : W1.heap.size ≤ N) (x y : Value) : Drawn w ((W.setCell ⟨N, 0, none⟩ x).setCell ⟨N, 1, none⟩ y) R v n p k := (h.setCell h0 hN 0 x).setCell h0 hN 1 y
theorem gs_new {w W1 X : World} {R D B n p m : Nat} {v0 : Value} {s : ByteArray} {v : Value} {zs : List ByteArray} {A A' N : Nat} {x : ByteArray} {u : Value} {ys : List ByteArray} {o : Obj} (_ : BoxB A A' (X.alloc o) N x u ys) (h : GrowSt w W1 X R D B v0 n p m s v zs) : GrowSt w W1 (X.alloc o) R D B v0 n p m s v zs := h.ext ((Ext.refl X).alloc o)
theorem gs_set {w W1 X : World} {R D B n p m k0 : Nat} {v0 : Value} {s : ByteArray} {v : Value} {zs : List ByteArray} {A A' N : Nat} {x : ByteArray} {u a b : Value} {ys : List ByteArray} (_ : BoxB A A' ((X.setCell ⟨N, 0, none⟩ a).setCell ⟨N, 1, none⟩ b) N x u ys) (h : GrowSt w W1 X R D B v0 n p m s v zs) (h0 : Drawn w W1 R v0 n p k0) (hN : W1.heap.size ≤ N) (hD : D ≠ N) (hv : v.ownBlock ≠ some N) (hB : B < W1.heap.size) : GrowSt w W1 ((X.setCell ⟨N, 0, none⟩ a).setCell ⟨N, 1, none⟩ b) R D B v0 n p m s v zs :=
  ⟨⟨set_far2 h.box.row hD _ _, past_put (past_put h.box.past _ _ hv) _ _ hv, h.box.ne, h.box.ge, h.box.fresh, by simpa [World.setCell] using h.box.lt, fun c hc => by simpa [World.setCell] using h.box.vlt c hc⟩, h.ok, h.drawn.set2 h0 hN _ _, set_far2 h.res (by omega) _ _, by simpa [World.setCell] using h.size⟩
theorem walk_g {w W : World} {R n p k : Nat} {v : Value} {N : Int} (h : Drawn w W R v n p k) (hp : p + k ≤ 90000) (h1 : 0 ≤ N) (h2 : N ≤ 1000000) :
    Calls Tryz.prog 82 #[.pointer (some ⟨R, 0, none⟩), .int .i64 N] W fun e w' => ∃ s : ByteArray, e = .returned (.string s) ∧ s.size ≤ 41 ∧ Drawn w w' R v n p (k + 60) ∧ W.grownBy w' (some R) := by
  obtain ⟨p', hp', hr, hg⟩ := h
  refine (walk_d W W R n p' 0 v N (Drawn.start hr) (by omega) h1 h2).mono ?_
  rintro e w' ⟨s, rfl, hs, p2, hp2, hr2, hg2⟩
  exact ⟨s, rfl, hs, ⟨p2, by omega, hr2, grown_trans hg hg2⟩, hg2⟩
theorem GrowSt.fin {w W1 X : World} {R D B n p m : Nat} {v0 : Value} {s : ByteArray} {v : Value} {zs : List ByteArray} (h : GrowSt w W1 X R D B v0 n p m s v zs) : FinSt w W1 X R D B v0 n p m s v zs := by
  obtain ⟨hx1, hx8, hx2⟩ := deskOk_parts h.ok
  have hs40 := ok_size hx1
  exact ⟨h.box.row, h.box.past, h.box.ne, h.box.ge, h.box.fresh, h.drawn, h.res, h.size, by omega, by omega, fun z hz => by have := ok_size (hx2 z hz); omega⟩
theorem deskNew_ok (s : ByteArray) : deskOk (deskNew s) [] = true := by
  unfold deskNew
  split
  · rename_i h
    exact deskOk_mk h (by simp) (by simp)
  · rfl
set_option maxRecDepth 100000 in
set_option maxHeartbeats 3200000 in
theorem desk_d (w W : World) (R n p k : Nat) (v0 : Value) (N : Int) (h : Drawn w W R v0 n p k) (hp : p + k ≤ 80000) (h1 : 0 ≤ N) (h2 : N ≤ 1000000) :
    Calls Tryz.prog 42 #[.pointer (some ⟨R, 0, none⟩), .int .i64 N] W fun e w' => ∃ (s : ByteArray) (v : Value) (zs : List ByteArray), e = .returned (.agg #[.string s, v]) ∧ PastAt w' v zs ∧ Fresh W.heap.size v ∧ s.size ≤ 41 ∧ zs.length ≤ 9 ∧ (∀ z ∈ zs, z.size ≤ 41) ∧ Drawn w w' R v0 n p (k + 110) := by
  have hd1 := h.alloc (.cells #[.string ⟨#[]⟩, .slice none 0 0] 27)
  obtain ⟨W1, hW1⟩ : ∃ W1, W.alloc (.cells #[.string ⟨#[]⟩, .slice none 0 0] 27) = W1 := ⟨_, rfl⟩
  rw [hW1] at hd1
  have RES1 := Lib.hid (show W1.heap[W.heap.size]? = _ from hW1 ▸ heap_alloc_new W _)
  have hlW := h.lt
  have hl1 := hd1.lt
  have hlB : W.heap.size < W1.heap.size := by rw [← hW1]; simp
  have HW1 := Lib.hid hW1
  clear hW1
  go_enter Tryz.func42, Tryz.ntmps42
  go_wp2_with fail
  rw [HW1.out]
  go_upto_region 2 with (first
    | (go_at_call 82; refine (walk_g hd1 (by omega) (by omega) (by omega)).mono ?_; rintro e w2 ⟨s0, rfl, hs0, hd2, hg2⟩)
    | (go_at_call 81; refine (specDeskNew s0 _ (by omega)).mono ?_; rintro e w3 ⟨rfl, hb3⟩; have hd3 := hd2.below hb3; have hg3 := grown_ext hg2 hb3))
  have hok0 := deskNew_ok s0
  obtain ⟨x0, hx0⟩ : ∃ x, deskNew s0 = x := ⟨_, rfl⟩
  rw [hx0] at hok0 ⊢
  clear hx0
  have hbn := box_new (x := x0) (A := W1.heap.size) (X := w3) (v := .slice none 0 0) (ys := []) (.inl ⟨rfl, rfl⟩) (Fresh.none _) hg3.size
  have hg4 : GrowSt w W1 (w3.alloc (.cells #[.string x0, .slice none 0 0] 27)) R w3.heap.size W.heap.size v0 n p (k + 60) x0 (.slice none 0 0) [] :=
    ⟨hbn, hok0, hd3.alloc _, row_alloc (grow_row' hg3 RES1.out (by omega)) _, by have := hg3.size; simp; omega⟩
  obtain ⟨w4, hw4⟩ : ∃ w4, w3.alloc (.cells #[.string x0, .slice none 0 0] 27) = w4 := ⟨_, rfl⟩
  obtain ⟨D, hD⟩ : ∃ D, w3.heap.size = D := ⟨_, rfl⟩
  rw [hw4, hD] at hg4
  rw [hw4, hD]
  have G4 := Lib.hid hg4
  have hDge : W1.heap.size ≤ D := hg4.box.ge
  clear hw4 hD hbn hg4 hd3 hg3 hb3 hd2 hg2
  go_wp2_with (first
    | (go_at_call 68; refine (pick_d G4.out.drawn (by omega) (by omega) (by omega)).mono ?_; rintro e w5 ⟨y, rfl, hy0, hy1, hd5, hg5⟩; have G5 := Lib.hid (G4.out.grown hg5 hd5 hl1 (by omega)); clear hd5 hg5))
  obtain ⟨a, rfl⟩ := Int.eq_ofNat_of_zero_le hy0
  go_loopw [7] (fun i wr => ∃ (j m : Nat) (s : ByteArray) (v : Value) (zs : List ByteArray), i = .int .i64 j ∧ m + 5 * j ≤ k + 95 ∧ Hid (GrowSt w W1 wr R D W.heap.size v0 n p m s v zs)) (fun i _ => (intOf i).toNat)
  case atStart => exact ⟨a, k + 61, _, _, _, rfl, by omega, G5.out⟩
  case round =>
    obtain ⟨j, m, s, v, zs, rfl, hjm, HG⟩ := hrel
    obtain ⟨aV, cV, hv⟩ := past_value HG.out.box.past
    obtain ⟨hx1, hx8, hx2⟩ := deskOk_parts HG.out.ok
    have hs40 := ok_size hx1
    have HZX : Hid (∀ z ∈ zs, z.size ≤ 41) := fun z hz => by have := ok_size (hx2 z hz); omega
    have HP := Lib.hid HG.out.box.past
    have hdr := HG.out.drawn
    have hlr := hdr.lt
    have hszr := HG.out.size
    have hDlt := HG.out.box.lt
    clear hx1 hx2
    by_cases hlt : 0 < j
    · subst hv
      obtain ⟨o0, o1⟩ := HG.out.box.cells
      have hvfr := HG.out.box.fresh
      have HVF := Lib.hid hvfr
      have hvlt := HG.out.box.vlt
      have HVL := Lib.hid hvlt
      clear hvfr hvlt
      have HRR := Lib.hid (fun (X : World) (hg : wr.grownBy X (some R)) => (HG.out.box.grown hg hl1).cells)
      go_wp2_with fail
      go_region_held3 (fun w' => w'.cell? ⟨D, 0, none⟩ = some (.string s) ∧ w'.cell? ⟨D, 1, none⟩ = some (.slice aV zs.length cV))
        (first
          | exact ⟨o0, o1⟩
          | exact HRR.out _ (grown_alloc (grown_refl _ _) _)
          | exact HRR.out _ (grown_drew (grown_alloc (grown_refl _ _) _))
          | exact HRR.out _ gA
          | exact HRR.out _ (grown_alloc gA _)
          | exact HRR.out _ (grown_ext gA eC)
          | exact HRR.out _ (grown_alloc (grown_ext gA eC) _)
          | exact other_cells (by first | omega | (simp <;> omega)) (HRR.out _ (grown_ext gA eC)).1 (HRR.out _ (grown_ext gA eC)).2)
        (first
          | (go_at_call 83; refine (deed_g (by first | exact hdr.drew | exact (hdr.alloc _).drew | exact hdr.drew.alloc _) (by omega) (by omega)).mono ?_; rintro e wA ⟨K, M, rfl, hK0, hK1, hM0, hM1, hdA, hgA⟩; have gA : wr.grownBy wA (some R) := grown_trans (by first | exact grown_drew (grown_refl _ _) | exact grown_drew (grown_alloc (grown_refl _ _) _) | exact grown_alloc (grown_drew (grown_refl _ _)) _) hgA; have sA := hgA.size; have GA := Lib.hid (HG.out.grown gA hdA hl1 (by omega)); have szA : wr.heap.size ≤ wA.heap.size := gA.size; (first | (have hN := g_a (cs := #[.string ⟨#[]⟩, .slice none 0 0]) (t := 27) hgA (by omega)) | (have hN := g_ad (cs := #[.string ⟨#[]⟩, .slice none 0 0]) (t := 27) hgA (by omega)) | skip); obtain ⟨x1, h1e⟩ : ∃ x1, (deskDo s zs K M).1 = x1 := ⟨_, rfl⟩; obtain ⟨y1, h2e⟩ : ∃ x1, (deskDo s zs K M).2.1 = x1 := ⟨_, rfl⟩; obtain ⟨t1, h3e⟩ : ∃ x1, (deskDo s zs K M).2.2 = x1 := ⟨_, rfl⟩; have hok1 := deskOk_do HG.out.ok K M; rw [h1e, h2e] at hok1; have HOK1 := Lib.hid hok1; have hdo : ∀ X, StrsAt X (.slice aV zs.length cV) zs → Calls Tryz.prog 49 #[.agg #[.string s, .slice aV zs.length cV], .agg #[.int .i64 K, .int .i64 M]] X (DeskOut X x1 y1 t1) := (fun X hX => by
              have h9 := specDeskDo s (.slice aV zs.length cV) zs K M X hX (by omega) (by omega) (fun z hz => by have := HZX.out z hz; omega) (by omega)
              rwa [h1e, h2e, h3e] at h9); have HDO := Lib.hid hdo; clear hdo hok1 h1e h2e h3e hdA hgA)
          | (go_at_call 49; refine (HDO.out _ (by first | exact GA.out.box.past.strs | exact ((Ext.refl wA).alloc _).strs GA.out.box.past.strs)).mono ?_; rintro e wC ⟨vC, rfl, hpC, hfC, hbC⟩; obtain ⟨aC, cC, hvC⟩ := past_value hpC; subst hvC; have gC : Fresh wA.heap.size (Value.slice aC y1.length cC) := fresh_ext (show Ext wA _ by (first | exact Ext.refl _ | exact (Ext.refl _).alloc _)) hfC; have eC : Ext wA wC := Ext.call (by first | exact Ext.refl _ | exact (Ext.refl _).alloc _) hbC; (first | (have hN := box_keep hbC; have nN := box_ne hfC) | (have hN := box_keep_drew hbC; have nN := box_ne_drew hfC) | (have nN := fresh_ne hfC hN; have hN := Ext.row hbC hN) | skip); have PC := Lib.hid hpC; have szC := eC.size; have FC : Hid (Fresh W1.heap.size (Value.slice aC y1.length cC)) := (fun b hb => Nat.le_trans (by omega) (gC b hb)); have FCN : (Value.slice aC y1.length cC).ownBlock ≠ some D := (fun h9 => by have := gC D h9; omega); have sC : W1.heap.size ≤ wC.heap.size := (by omega); have GC := Lib.hid (GA.out.ext eC); (first | (have zN := frozen_of_row _ _ 0 _ _ hN; have zN1 := frozen_of_row _ _ 1 _ _ hN; have yN := cell_of_row _ _ 0 _ _ _ hN; have yN1 := cell_of_row _ _ 1 _ _ _ hN; have HN2 := Lib.hid hN; clear hN) | skip); clear hpC hfC gC))
      all_goals
        first
          | (have hBN := box_set (x := x1) HN2.out PC.out FC.out nN (by first | omega | (simp <;> omega)))
          | (have hBN := box_new (x := x1) PC.out FC.out sC)
        (first | (have hGX := gs_new hBN GC.out) | (have hGX := gs_set hBN GC.out hd1 (by first | omega | (simp <;> omega)) (by first | omega | (simp <;> omega)) (fun h9 => by have := HVL.out _ h9; omega) (by omega)))
        obtain ⟨n0, n1⟩ := hBN.cells
        obtain ⟨p0, p1⟩ := hGX.box.cells
        have pf0 := frozen_of_row _ _ 0 _ _ hGX.box.row
        have pf1 := frozen_of_row _ _ 1 _ _ hGX.box.row
        have HBN := Lib.hid hBN
        have GX := Lib.hid hGX
        clear hBN hGX
        cases t1
        · go_wp2
          go_roundw
          case rel => exact ⟨j - 1, m + 5, s, _, zs, by congr 1; omega, by omega, GX.out⟩
          case measure => simp [intOf]; omega
        · go_wp2
          go_roundw
          case rel => exact ⟨j - 1, m + 5, x1, _, y1, by congr 1; omega, by omega, GX.out.put hd1 hlB HBN.out.past FC.out FCN HOK1.out⟩
          case measure => simp [intOf]; omega
    · subst hv
      have FS := Lib.hid HG.out.fin
      obtain ⟨hl8x⟩ : Nonempty (zs.length ≤ 8) := ⟨(deskOk_parts HG.out.ok).2.1⟩
      go_wp2_with (first
        | (go_at_call 69; refine (odd_g hdr (by omega) (by omega) (by omega)).mono ?_; rintro e we ⟨b, rfl, hde, hge⟩; have FE := Lib.hid (FS.out.grown hge hde hl1 (by omega)); obtain ⟨c0, c1, c2, c3, c4, c5, c6, c7⟩ := FE.out.facts; cases b)
        | (go_at_call 68; refine (pick_d FE.out.drawn (by omega) (by omega) (by omega)).mono ?_; rintro e wf ⟨y, rfl, hy0, hy1, hdf, hgf⟩; have FF := Lib.hid (FE.out.grown hgf hdf hl1 (by omega)); obtain ⟨f0, f1, f2, f3, f4, f5, f6, f7⟩ := FF.out.facts; have FX := Lib.hid (FF.out.putx hd1 hlB ⟨#[120]⟩ (by decide)); obtain ⟨x0, x1, x2, x3, x4, x5, x6, x7⟩ := FX.out.facts; have FA := Lib.hid (fun o => FF.out.alloc o); obtain rfl | rfl : y = 0 ∨ y = 1 := by omega)
        | (at_builtin; refine wpList_append_past rfl (.tmp 41) (.tmp 42) rfl (v := .slice aV zs.length cV) rfl (FA.out _).past (by omega) rfl (cell_of_row _ _ 0 _ _ _ (heap_alloc_new wf _)) ?_; intro v' w' hp' hb' hf'; obtain ⟨aP, cP, hvP⟩ := past_slice hp' (M := zs.length + 1) (by simp); subst hvP; have FP := Lib.hid ((FA.out _).app hd1 hlB hl8x (by decide) hp' hb' hf'); obtain ⟨g0, g1, g2, g3, g4, g5, g6, g7⟩ := FP.out.facts; obtain ⟨i0, i1, i2, i3, i4, i5, i6, i7⟩ := (FA.out _).but_facts hlB hb'))
      · obtain ⟨r0, r1, r2⟩ := FE.out.finish h rfl hlB (k := k + 110) (by omega)
        exact bodyPost_ret (v := .agg #[.string s, .slice aV zs.length cV]) (by simp [results, Tryz.results42, go_sem, r0, r1]) rfl r2
      · obtain ⟨r0, r1, r2⟩ := FX.out.finish h rfl hlB (k := k + 110) (by omega)
        exact bodyPost_ret (v := .agg #[.string ⟨#[120]⟩, .slice aV zs.length cV]) (by simp [results, Tryz.results42, go_sem, r0, r1]) rfl r2
      all_goals
        obtain ⟨r0, r1, r2⟩ := FP.out.finish h rfl hlB (k := k + 110) (by omega)
        exact bodyPost_ret (by simp [results, Tryz.results42, go_sem, r0, r1]) rfl r2

end Go.Proofs.YtccdfndnjjjgfaaGreatDoor

namespace Go.Proofs.YtccdfndnjjjgfaaGreatDoor
open Go.RowKit

theorem Drawn.below_base {w w1 w2 : World} {R n p k : Nat} {v : Value} (h : Drawn w1 w2 R v n p k) (hb : Below w.heap.size w w1) (hR : w.heap.size ≤ R) : Below w.heap.size w w2 := by
  obtain ⟨_, _, _, hg⟩ := h
  exact hb.grown hg hb.size (fun j hj => by cases hj; exact hR)



end Go.Proofs.YtccdfndnjjjgfaaGreatDoor

namespace Go.Proofs.YtccdfndnjjjgfaaGreatDoor
open Go.RowKit

theorem code_alloc {w : World} {v : Value} {n : Nat} (h : CodeAt w v n) (o : Obj) : CodeAt (w.alloc o) v n := by
  rcases h with h | ⟨a, cap, hv, hl, hc⟩
  · exact .inl h
  · refine .inr ⟨a, cap, hv, hl, fun j hj => ?_⟩
    obtain ⟨b, h1, h2, h3⟩ := hc j hj
    exact ⟨b, h1, h2, (((Below.refl w.heap.size w).alloc (Nat.le_refl _) _).cell (World.block_lt_of_cell? w _ h3)).trans h3⟩
theorem code_value {w : World} {v : Value} {n : Nat} (h : CodeAt w v n) : ∃ a cap, v = .slice a n cap := by
  rcases h with ⟨rfl, rfl⟩ | ⟨a, cap, rfl, _⟩
  · exact ⟨_, _, rfl⟩
  · exact ⟨_, _, rfl⟩
/-- A drawn desk. -/
structure Desk41 (w : World) (s : ByteArray) (u : Value) (zs : List ByteArray) : Prop where
  past : PastAt w u zs
  hs : s.size ≤ 41
  hl : zs.length ≤ 9
  hz : ∀ z ∈ zs, z.size ≤ 41

theorem Desk41.ext {w X : World} {s : ByteArray} {u : Value} {zs : List ByteArray} (h : Desk41 w s u zs) (e : Ext w X) : Desk41 X s u zs := ⟨e.past h.past, h.hs, h.hl, h.hz⟩


theorem own_noneD (W : World) (t : TypeId) (base : Nat) (hb : base ≤ W.heap.size) : (W.alloc (.cells #[] t)).ownsRow base t 2 (.slice (some ⟨W.heap.size, 0, none⟩) 0 0) 0 [] :=
  ⟨rfl, .inr ⟨W.heap.size, 0, #[], rfl, hb, heap_alloc_new W _, Nat.le_refl _, by decide, rfl, rfl⟩⟩
/-! ### the reader stays while other memory is written -/
theorem cell_not {X : World} {B : Nat} {cs : Array Value} {t : TypeId} {a : Addr} {b : Int} (h : X.heap[B]? = some (.cells cs t (0, 0))) (hn : ∀ (j : Nat) (b : Int), cs[j]? ≠ some (.int .u8 b)) (hc : X.cell? a = some (.int .u8 b)) : a.block ≠ B := by
  intro e
  subst e
  unfold World.cell? at hc
  rw [h] at hc
  simp only at hc
  split at hc
  · cases hc
  · exact hn _ _ hc
theorem ReaderAt.put {X : World} {R B n p : Nat} {v : Value} {cs : Array Value} {t : TypeId} (h : ReaderAt X R v n p) (hB : X.heap[B]? = some (.cells cs t (0, 0))) (hn : ∀ (j : Nat) (b : Int), cs[j]? ≠ some (.int .u8 b)) (hR : R ≠ B) (x y : Value) : ReaderAt ((X.setCell ⟨B, 0, none⟩ x).setCell ⟨B, 1, none⟩ y) R v n p := by
  have hk : ∀ b, b ≠ B → ((X.setCell ⟨B, 0, none⟩ x).setCell ⟨B, 1, none⟩ y).heap[b]? = X.heap[b]? := fun b hb => (heap_setCell_other _ ⟨B, 1, none⟩ b y hb).trans (heap_setCell_other _ ⟨B, 0, none⟩ b x hb)
  refine ⟨(hk R hR).trans h.cells, ?_, h.few, h.off⟩
  rcases h.code with hc | ⟨a, cap, hv, hl, hc⟩
  · exact .inl hc
  · refine .inr ⟨a, cap, hv, hl, fun i hi => ?_⟩
    obtain ⟨b, h1, h2, h3⟩ := hc i hi
    refine ⟨b, h1, h2, ?_⟩
    rw [← h3]
    exact World.cell?_of_block (hk _ (cell_not hB hn h3))
theorem read_drew {X : World} {R n p : Nat} {v : Value} (h : ReaderAt X R v n p) : ReaderAt X.drew R v n p := ⟨h.cells, h.code, h.few, h.off⟩
theorem not_u8_desk (s : ByteArray) (a : Option Addr) (n c : Nat) : ∀ (j : Nat) (b : Int), (#[.string s, .slice a n c] : Array Value)[j]? ≠ some (.int .u8 b)
  | 0, _ => by simp
  | 1, _ => by simp
  | j + 2, _ => by simp
theorem below2 {w X : World} {A N : Nat} (h : Below A w X) (hN : A ≤ N) (x y : Value) : Below A w ((X.setCell ⟨N, 0, none⟩ x).setCell ⟨N, 1, none⟩ y) := (h.setCell hN x).setCell hN y

set_option maxRecDepth 100000 in
set_option maxHeartbeats 1600000 in
theorem deeds_d (s : ByteArray) (w W : World) (R n p k : Nat) (v : Value) (h : Drawn w W R v n p k) (hp : p + k ≤ 80000) (hs : s.size ≤ 41) :
    Calls Tryz.prog 74 #[.pointer (some ⟨R, 0, none⟩), .string s] W fun e w' => ∃ (g cap : Nat) (ds : List (Int × Int)), e = .returned (.slice (some ⟨g, 0, none⟩) ds.length cap) ∧ w'.ownsRow W.heap.size 53 2 (.slice (some ⟨g, 0, none⟩) ds.length cap) ds.length (pairCells ds) ∧ ds.length ≤ 5 ∧ (∀ d ∈ ds, (0 ≤ d.1 ∧ d.1 ≤ 11) ∧ -1 ≤ d.2 ∧ d.2 ≤ 100) ∧ Drawn w w' R v n p (k + 31) := by
  obtain ⟨i0, hi0, hz0, hz1, hz2⟩ := info_parts deedInfo
  have hown0 := own_noneD W 53 W.heap.size (Nat.le_refl _)
  have HO := Lib.hid hown0
  have HD0 := Lib.hid (h.alloc (.cells #[] 53))
  have hlR := h.lt
  have H0 := Lib.hid h
  clear hown0 h
  go_enter Tryz.func74, Tryz.ntmps74
  go_wp2_with (first
    | (go_at_call 68; refine (pick_d HD0.out (by omega) (by omega) (by omega)).mono ?_; rintro e w5 ⟨y, rfl, hy0, hy1, hd5, hg5⟩; have OWN5 := Lib.hid (HO.out.kept hg5 (.inr (fun h9 => by have h8 : W.heap.size = R := Option.some.inj h9; omega))); have HD5 := Lib.hid hd5; have hz5 : W.heap.size ≤ w5.heap.size := Nat.le_trans (by simp) hg5.size; clear hd5 hg5))
  obtain ⟨a, rfl⟩ := Int.eq_ofNat_of_zero_le hy0
  go_loopw [5, 6] (fun o i wr => ∃ (g cap j m : Nat) (ds : List (Int × Int)), o = .slice (some ⟨g, 0, none⟩) ds.length cap ∧ i = .int .i64 j ∧ ds.length + j ≤ 5 ∧ m + 5 * j ≤ k + 26 ∧ Hid (wr.ownsRow W.heap.size 53 2 (.slice (some ⟨g, 0, none⟩) ds.length cap) ds.length (pairCells ds)) ∧ Hid (Drawn w wr R v n p m) ∧ Hid (∀ d ∈ ds, (0 ≤ d.1 ∧ d.1 ≤ 11) ∧ -1 ≤ d.2 ∧ d.2 ≤ 100) ∧ W.heap.size ≤ wr.heap.size) (fun _ i _ => (intOf i).toNat)
  case atStart => exact ⟨_, _, a, k + 1, [], rfl, rfl, by simp; omega, by omega, OWN5.out, HD5.out, by show ∀ d ∈ ([] : List (Int × Int)), _; simp, hz5⟩
  case round =>
    obtain ⟨g, cap, j, m, ds, rfl, rfl, hdj, hmj, HOWN, HD, HK, hszr⟩ := hrel
    by_cases hlt : 0 < j
    · have hgb := (HOWN.out.lt g rfl).1
      go_wp2_with (first
        | (go_at_call 83; refine (deed_g HD.out (by omega) hs).mono ?_; rintro e w3 ⟨K, M, rfl, hK0, hK1, hM0, hM1, hd3, hg3⟩; have OWN3 := Lib.hid (HOWN.out.kept hg3 (.inr (fun h9 => by have h8 : g = R := Option.some.inj h9; omega))); have HD3 := Lib.hid hd3; have hs3 : W.heap.size ≤ w3.heap.size := Nat.le_trans hszr hg3.size; clear hd3 hg3)
        | (at_builtin; refine wpList_append_lies _ rfl _ _ 45 rfl W.heap.size 53 i0 _ 2 16 Tryz.underlying45 hi0 hz0 hz1 hz2 rfl (by omega) _ ds.length (pairCells ds) rfl (OWN3.out.alloc _) ⟨w3.heap.size, 0, none⟩ 1 1 [.int .i64 K, .int .i64 M] rfl rfl (World.news_of_block (cs := #[.int .i64 K, .int .i64 M]) (t := 53) (fr := (0, 0)) (heap_alloc_new w3 _)) (by simp [Value.oneCell']) (by omega) (by unfold maxLen; omega) (by omega) (by simp; omega) (w3.heap.size + 1) (by simp) ?_; intro g4 cap4 w4 hown4 hgrow4 hat4 hlt4))
      go_roundw
      case rel =>
        have e1 : (ds ++ [(K, M)]).length = ds.length + 1 := by simp
        have e2 : pairCells (ds ++ [(K, M)]) = pairCells ds ++ [.int .i64 K, .int .i64 M] := by simp [pairCells]
        have hb4 : Below W.heap.size w3 w4 := ((Below.refl W.heap.size w3).alloc hs3 _).grown hgrow4 (by simp; omega) (fun i hi => by have h8 : g = i := Option.some.inj hi; omega)
        refine ⟨g4, cap4, j - 1, m + 5, ds ++ [(K, M)], by rw [e1], by congr 1; omega, by omega, by omega, ?_, HD3.out.belowB H0.out hb4, ?_, ?_⟩
        · show World.ownsRow _ _ _ _ _ _ _
          rw [e1, e2]
          exact hown4
        · intro d hd
          rcases List.mem_append.1 hd with h1 | h1
          · exact HK.out d h1
          · rw [List.mem_singleton.1 h1]
            exact ⟨⟨hK0, hK1⟩, hM0, hM1⟩
        · exact Nat.le_trans hs3 hb4.size
      case measure => simp [intOf]; omega
    · obtain rfl : j = 0 := by omega
      go_wp2_with fail
      go_ret
      exact ⟨g, cap, ds, rfl, HOWN.out, by omega, HK.out, HD.out.mono (by omega)⟩

theorem four_bc {X : World} {B C : Nat} {tB tC : TypeId} {b0 b1 c0 c1 : Value} (rB : X.heap[B]? = some (.cells #[b0, b1] tB (0, 0))) (rC : X.heap[C]? = some (.cells #[c0, c1] tC (0, 0))) (hne : B ≠ C) (x y k m : Value) :
    ((((X.setCell ⟨B, 0, none⟩ x).setCell ⟨B, 1, none⟩ y).setCell ⟨C, 0, none⟩ k).setCell ⟨C, 1, none⟩ m).heap[B]? = some (.cells #[x, y] tB (0, 0)) ∧ ((((X.setCell ⟨B, 0, none⟩ x).setCell ⟨B, 1, none⟩ y).setCell ⟨C, 0, none⟩ k).setCell ⟨C, 1, none⟩ m).heap[C]? = some (.cells #[k, m] tC (0, 0)) :=
  ⟨set_far2 (two_put rB x y) hne k m, two_put (set_far2 rC (Ne.symm hne) x y) k m⟩
theorem two_c {X : World} {B C : Nat} {tB tC : TypeId} {x y c0 c1 : Value} (rB : X.heap[B]? = some (.cells #[x, y] tB (0, 0))) (rC : X.heap[C]? = some (.cells #[c0, c1] tC (0, 0))) (hne : B ≠ C) (k m : Value) :
    ((X.setCell ⟨C, 0, none⟩ k).setCell ⟨C, 1, none⟩ m).heap[B]? = some (.cells #[x, y] tB (0, 0)) ∧ ((X.setCell ⟨C, 0, none⟩ k).setCell ⟨C, 1, none⟩ m).heap[C]? = some (.cells #[k, m] tC (0, 0)) :=
  ⟨set_far2 rB hne k m, two_put rC k m⟩
theorem cells4 {Z : World} {B C : Nat} {tB tC : TypeId} {x y k m : Value} (q : Z.heap[B]? = some (.cells #[x, y] tB (0, 0)) ∧ Z.heap[C]? = some (.cells #[k, m] tC (0, 0))) : Z.cell? ⟨B, 0, none⟩ = some x ∧ Z.cell? ⟨B, 1, none⟩ = some y ∧ Z.cell? ⟨C, 0, none⟩ = some k ∧ Z.cell? ⟨C, 1, none⟩ = some m :=
  ⟨cell_of_row _ _ 0 _ _ _ q.1, cell_of_row _ _ 1 _ _ _ q.1, cell_of_row _ _ 0 _ _ _ q.2, cell_of_row _ _ 1 _ _ _ q.2⟩
theorem past_put2 {w : World} {v : Value} {ys : List ByteArray} (h : PastAt w v ys) {N : Nat} (hne : v.ownBlock ≠ some N) (x y : Value) : PastAt ((w.setCell ⟨N, 0, none⟩ x).setCell ⟨N, 1, none⟩ y) v ys := past_put (past_put h _ _ hne) _ _ hne


end Go.Proofs.YtccdfndnjjjgfaaGreatDoor

namespace Go.Proofs.YtccdfndnjjjgfaaGreatDoor
open Go.RowKit


end Go.Proofs.YtccdfndnjjjgfaaGreatDoor

namespace Go.Proofs.YtccdfndnjjjgfaaGreatDoor
open Go.RowKit

theorem spoil_at {z : Int} (h0 : 0 ≤ z) (h1 : z < 6) : ∃ t : ByteArray, (#[.string ⟨#[]⟩, .string ⟨#[48]⟩, .string ⟨#[32]⟩, .string ⟨#[10]⟩, .string ⟨#[45]⟩, .string ⟨#[98, 97, 99, 107]⟩] : Array Value)[z.toNat]? = some (.string t) ∧ (∀ h, ([.string ⟨#[]⟩, .string ⟨#[48]⟩, .string ⟨#[32]⟩, .string ⟨#[10]⟩, .string ⟨#[45]⟩, .string ⟨#[98, 97, 99, 107]⟩] : List Value)[z.toNat]'h = .string t) ∧ t.size ≤ 4 := by
  obtain rfl | rfl | rfl | rfl | rfl | rfl : z = 0 ∨ z = 1 ∨ z = 2 ∨ z = 3 ∨ z = 4 ∨ z = 5 := by omega
  all_goals exact ⟨_, rfl, fun _ => rfl, by simp [lit_size]⟩
set_option maxRecDepth 100000 in
set_option maxHeartbeats 3200000 in
theorem spoil_d (s : ByteArray) (w W : World) (R n p k : Nat) (v : Value) (h : Drawn w W R v n p k) (hp : p + k ≤ 90000) (hs : s.size ≤ 10000) :
    Calls Tryz.prog 72 #[.pointer (some ⟨R, 0, none⟩), .string s] W fun e w' => ∃ x : ByteArray, e = .returned (.string x) ∧ x.size ≤ 20010 ∧ Drawn w w' R v n p (k + 2) := by
  by_cases h0 : s.size = 0
  · have h00 : ((s.size : Int) == 0) = true := by rw [h0]; rfl
    go_enter Tryz.func72, Tryz.ntmps72
    go_wp2
    go_ret
    exact ⟨_, rfl, by simp [lit_size], h.mono (by omega)⟩
  · have h00 : ((s.size : Int) == 0) = false := beq_false_of_ne (by omega)
    go_enter Tryz.func72, Tryz.ntmps72
    go_upto_region 4 with (first
      | (go_at_call 68; refine (pick_d h (by omega) (by omega) (by omega)).mono ?_; rintro e w1 ⟨y, rfl, hy0, hy1, hd1, hg1⟩))
    have hz1 := IntWalk.i64_in (y + 1) ⟨by omega, by omega⟩
    have hz2 : 0 ≤ y + 1 := by omega
    have hz3 : y + 1 ≤ (s.size : Int) := by omega
    have hz4 : y ≤ (s.size : Int) := by omega
    have hl1 := hd1.lt
    have e1 : (s.extract 0 y.toNat).size ≤ s.size := by rw [ByteArray.size_extract]; omega
    have e2 : (s.extract (y + 1).toNat s.size).size ≤ s.size := by rw [ByteArray.size_extract]; omega
    obtain ⟨a, ha⟩ : ∃ a, s.extract 0 y.toNat = a := ⟨_, rfl⟩
    obtain ⟨b, hb⟩ : ∃ b, s.extract (y + 1).toNat s.size = b := ⟨_, rfl⟩
    rw [ha] at e1
    rw [hb] at e2
    go_region_law (first
      | (go_simp; go_at_call 68; refine (pick_d (by first | exact hd1.drew | exact (hd1.alloc _).drew | exact hd1.drew.alloc _) (by omega) (by omega) (by omega)).mono ?_; rintro e w2 ⟨z, rfl, hzz0, hzz1, hd2, hg2⟩; obtain ⟨t, hty, htl, htz⟩ := spoil_at hzz0 hzz1; have uL := fun Y : World => lit_new (t := 9) Y hty; have hq1 : ¬ 9223372036854775807 < a.size + t.size := (by omega); have hq3 : (a ++ t).size = a.size + t.size := ByteArray.size_append; have hq2 : ¬ 9223372036854775807 < a.size + t.size + b.size := (by omega); (first | (have HL := g_a (cs := #[.string ⟨#[]⟩, .string ⟨#[48]⟩, .string ⟨#[32]⟩, .string ⟨#[10]⟩, .string ⟨#[45]⟩, .string ⟨#[98, 97, 99, 107]⟩]) (t := 9) hg2 (by omega)) | (have HL := g_ad (cs := #[.string ⟨#[]⟩, .string ⟨#[48]⟩, .string ⟨#[32]⟩, .string ⟨#[10]⟩, .string ⟨#[45]⟩, .string ⟨#[98, 97, 99, 107]⟩]) (t := 9) hg2 (by omega)) | skip); (first | (have cL := lit_at HL hty; have cLa := lit_at_alloc HL hty) | skip)))
    all_goals
      go_wp2
      go_ret
      refine ⟨_, rfl, by rw [ByteArray.size_append, ByteArray.size_append]; omega, ?_⟩
      first
        | exact hd2.mono (by omega)
        | exact (hd2.alloc _).mono (by omega)

theorem deed_size (k n : Int) : (Tw.str (deedText k n)).size ≤ 10000 := by
  rw [Tw.str_size]
  unfold deedText
  split
  · rename_i hk
    split
    · rename_i hn
      have h2 := dec_few (i := n.toNat) (by omega)
      rw [Tw.str_size] at h2
      rw [List.length_append, List.length_cons]
      rcases hk with h | h | h
      all_goals
        rw [h]
        simp [deedWord]
        omega
    · simp
  · split
    · rename_i hk
      split
      · rcases hk with h | h | h
        all_goals
          rw [h]
          simp [deedWord]
      · simp
    · simp

end Go.Proofs.YtccdfndnjjjgfaaGreatDoor

namespace Go.Proofs.YtccdfndnjjjgfaaGreatDoor
open Go.RowKit

theorem Drawn.callB {w W w' : World} {R n p k : Nat} {v : Value} (h : Drawn w W R v n p k) (hb : Below W.heap.size W w') : Drawn w w' R v n p k := h.below hb
theorem num_named (m : Int) (h0 : 0 ≤ m) (h1 : m ≤ 1000) (W : World) : Calls Tryz.prog 51 #[.int .i64 m] W fun e w' => ∃ x : ByteArray, e = .returned (.string x) ∧ x.size ≤ 21 ∧ Below W.heap.size W w' := by
  refine (number_int m (by omega) (by omega) W).mono ?_
  rintro e w' ⟨he, hb⟩
  exact ⟨_, he, numText_len (by omega) (by omega), hb⟩
set_option maxRecDepth 100000 in
set_option maxHeartbeats 3200000 in
theorem line_d (s : ByteArray) (w W : World) (R n p k : Nat) (v : Value) (h : Drawn w W R v n p k) (hp : p + k ≤ 80000) (hs : s.size ≤ 41) :
    Calls Tryz.prog 43 #[.pointer (some ⟨R, 0, none⟩), .string s] W fun e w' => ∃ x : ByteArray, e = .returned (.string x) ∧ x.size ≤ 20000 ∧ Drawn w w' R v n p (k + 6) := by
  go_enter Tryz.func43, Tryz.ntmps43
  go_wp2_with (first
    | (have hq := hdC; go_at_call 51; refine (num_named _ (by omega) (by omega) _).mono ?_; rintro e wC1 ⟨x3, rfl, hx3, hbC⟩; have hdC1 := hdC.callB hbC; have f6 : ¬ 9223372036854775807 < 7 + x1.size + 1 + x2.size + 1 + x3.size := (by omega))
    | (have hq := hdB1; go_at_call 68; refine (pick_d hdB1 (by omega) (by omega) (by omega)).mono ?_; rintro e wC ⟨c, rfl, hc0, hc1, hdC, _⟩)
    | (have hq := hdB; go_at_call 51; refine (num_named _ (by omega) (by omega) _).mono ?_; rintro e wB1 ⟨x2, rfl, hx2, hbB⟩; have hdB1 := hdB.callB hbB; have f3 : ¬ 9223372036854775807 < 5 + x1.size + 1 + x2.size := (by omega); have f4 : ¬ 9223372036854775807 < 7 + x1.size + 1 + x2.size := (by omega); have f5 : ¬ 9223372036854775807 < 7 + x1.size + 1 + x2.size + 1 := (by omega))
    | (have hq := hdA1; go_at_call 68; refine (pick_d hdA1 (by omega) (by omega) (by omega)).mono ?_; rintro e wB ⟨b, rfl, hb0, hb1, hdB, _⟩)
    | (have hq := hdA; go_at_call 51; refine (num_named _ (by omega) (by omega) _).mono ?_; rintro e wA1 ⟨x1, rfl, hx1, hbA⟩; have hdA1 := hdA.callB hbA; have f1 : ¬ 9223372036854775807 < 5 + x1.size := (by omega); have f2 : ¬ 9223372036854775807 < 5 + x1.size + 1 := (by omega); have g1 : ¬ 9223372036854775807 < 7 + x1.size := (by omega); have g2 : ¬ 9223372036854775807 < 7 + x1.size + 1 := (by omega))
    | (go_at_call_of 68 (Value.int .i64 6); refine (pick_d hd1 (by omega) (by omega) (by omega)).mono ?_; rintro e wA ⟨a, rfl, ha0, ha1, hdA, _⟩)
    | (go_at_call_of 68 (Value.int .i64 9); refine (pick_d (hd1.alloc _) (by omega) (by omega) (by omega)).mono ?_; rintro e w2 ⟨z, rfl, hz0, hz1, hd2, hg2⟩; have hlit := lit_cell hd1.lt hg2; obtain rfl | rfl | rfl | rfl | rfl | rfl | rfl | rfl | rfl : z = 0 ∨ z = 1 ∨ z = 2 ∨ z = 3 ∨ z = 4 ∨ z = 5 ∨ z = 6 ∨ z = 7 ∨ z = 8 := by omega)
    | (go_at_call_of 68 (Value.int .i64 13); refine (pick_d (hd1.alloc _) (by omega) (by omega) (by omega)).mono ?_; rintro e w2 ⟨z, rfl, hz0, hz1, hd2, hg2⟩; have hlit := lit_cell hd1.lt hg2; obtain rfl | rfl | rfl | rfl | rfl | rfl | rfl | rfl | rfl | rfl | rfl | rfl | rfl : z = 0 ∨ z = 1 ∨ z = 2 ∨ z = 3 ∨ z = 4 ∨ z = 5 ∨ z = 6 ∨ z = 7 ∨ z = 8 ∨ z = 9 ∨ z = 10 ∨ z = 11 ∨ z = 12 := by omega)
    | (go_at_call 83; refine (deed_d s _ _ _ _ _ _ _ hd1 (by omega) hs).mono ?_; rintro e wD ⟨K, M, rfl, hK0, hK1, hM0, hM1, hdD⟩)
    | (go_at_call 84; refine (specDeedText K M _).mono ?_; rintro e wT ⟨rfl, hbT⟩; have hdT := hdD.callB hbT)
    | (go_at_call_of 68 (Value.int .i64 7); refine (pick_d h (by omega) (by omega) (by omega)).mono ?_; rintro e w1 ⟨y, rfl, hy0, hy1, hd1, _⟩; obtain rfl | rfl | rfl | rfl | rfl | rfl | rfl : y = 0 ∨ y = 1 ∨ y = 2 ∨ y = 3 ∨ y = 4 ∨ y = 5 ∨ y = 6 := by omega))
  all_goals
    go_ret
    first
      | exact ⟨_, rfl, by have := deed_size K M; omega, hdT.mono (by omega)⟩
      | exact ⟨_, rfl, by simp only [ByteArray.size_append, lit_size]; simp; omega, hdC1.mono (by omega)⟩
      | exact ⟨_, rfl, by simp only [ByteArray.size_append, lit_size]; simp; omega, hdB1.mono (by omega)⟩
      | exact ⟨_, rfl, by simp [lit_size], hd2.mono (by omega)⟩

def boxesDL (w : World) : World := w.alloc (.cells #[.string ⟨#[]⟩, .slice none 0 0] 27)
set_option maxRecDepth 100000 in
set_option maxHeartbeats 1600000 in
theorem drawDeskLine (v : Value) (n : Nat) (w : World) (h : CodeAt w v n) :
    Calls Tryz.prog 20 #[v] w fun e w' => ∃ (s : ByteArray) (u : Value) (zs : List ByteArray) (X : ByteArray), e = .returned (.tuple #[.agg #[.string s, u], .string X]) ∧ Desk41 w' s u zs ∧ X.size ≤ 20000 ∧ Below w.heap.size w w' := by
  have hzB := heap_alloc_new w (.cells #[.string ⟨#[]⟩, .slice none 0 0] 27)
  have hc := code_alloc h (.cells #[.string ⟨#[]⟩, .slice none 0 0] 27)
  obtain ⟨W, hW⟩ : ∃ W, w.alloc (.cells #[.string ⟨#[]⟩, .slice none 0 0] 27) = W := ⟨_, rfl⟩
  have hbW : Below w.heap.size w W := hW ▸ (Below.refl _ _).alloc (Nat.le_refl _) _
  have hsW : w.heap.size < W.heap.size := by rw [← hW]; simp
  rw [hW] at hzB hc
  have HW := Lib.hid hW
  have HZB := Lib.hid hzB
  clear hW hzB h
  go_enter Tryz.func20, Tryz.ntmps20
  go_wp2_with fail
  rw [HW.out]
  go_upto_region 3 with (first
    | (go_at_call 41; refine (open_any v n _ hc).mono ?_; rintro e w1 ⟨rfl, ⟨v', n', hr⟩, hb1⟩)
    | (go_at_call 42; refine (desk_d w1 w1 _ n' 0 0 v' _ (Drawn.start hr) (by omega) (by omega) (by omega)).mono ?_; rintro e w3 ⟨s, u, zs, rfl, hp3, hf3, hs3, hl3, hz3, hd3⟩; have hb3 := hd3.below_base hb1 (Nat.le_refl _); obtain ⟨aU, cU, hvU⟩ := past_slice hp3 (M := zs.length) rfl; subst hvU; have HZ3 := Lib.hid hz3; have HP3 := Lib.hid hp3; have HF3 := Lib.hid hf3; have HD3 := Lib.hid hd3; clear hz3 hp3 hf3 hd3))
  have hsb := hb1.size
  have hltR := (Drawn.start hr).lt
  have hs13 : w1.heap.size ≤ w3.heap.size := by
    obtain ⟨_, _, _, hg⟩ := HD3.out
    exact hg.size
  obtain ⟨p3, hp3, hr3, hg3⟩ := HD3.out.alloc (.cells #[.string s, .slice aU zs.length cU] 27)
  have hRow3 := heap_alloc_new w3 (.cells #[.string s, .slice aU zs.length cU] 27)
  have hx3 : Ext w3 (w3.alloc (.cells #[.string s, .slice aU zs.length cU] 27)) := (Ext.refl w3).alloc _
  obtain ⟨w4, hw4⟩ : ∃ w4, w3.alloc (.cells #[.string s, .slice aU zs.length cU] 27) = w4 := ⟨_, rfl⟩
  obtain ⟨D, hD⟩ : ∃ D, w3.heap.size = D := ⟨_, rfl⟩
  rw [hw4] at hr3 hg3 hRow3 hx3 ⊢
  rw [hD] at hRow3 hs13 ⊢
  clear hw4
  have rB : w4.heap[w.heap.size]? = _ := (hx3.row ((hb3.block w.heap.size (by omega)).trans HZB.out))
  have hb4 : Below w.heap.size w w4 := (hbW.trans (hb3.mono (by omega))).trans (Below.mono hx3 (by have := hb3.size; omega))
  have o0 := cell_of_row _ _ 0 _ _ _ hRow3
  have o1 := cell_of_row _ _ 1 _ _ _ hRow3
  have RD := Lib.hid hRow3
  have RB := Lib.hid rB
  have R3 := Lib.hid hr3
  have HP4 := Lib.hid (hx3.past HP3.out)
  have HNB : Hid ((Value.slice aU zs.length cU).ownBlock ≠ some w.heap.size) := fun e => by have := HF3.out _ e; omega
  have HNR : Hid ((Value.slice aU zs.length cU).ownBlock ≠ some W.heap.size) := fun e => by
    have h1 := HF3.out _ e
    omega
  clear hr3 rB hRow3 hg3
  go_region_held3 (fun w' => w'.cell? ⟨D, 0, none⟩ = some (.string s) ∧ w'.cell? ⟨D, 1, none⟩ = some (.slice aU zs.length cU))
    (first
      | exact ⟨o0, o1⟩
      | exact ⟨x0, x1⟩
      | exact other_cells (by omega) x0 x1
      | exact other_cells (by omega) o0 o1)
    (first
      | (go_at_call 43; refine (line_d s _ _ W.heap.size n' p3 0 v' (Drawn.start (by first | exact R3.out | exact read_drew R3.out)) (by omega) hs3).mono ?_; rintro e wx ⟨X, rfl, hX, ⟨px, hpx, hrx, hgx⟩⟩; have rDx : wx.heap[D]? = _ := grow_row' hgx (by first | exact RD.out) (by omega); have rBx : wx.heap[w.heap.size]? = _ := grow_row' hgx (by first | exact RB.out) (by omega); have HPx := Lib.hid (past_grown (by first | exact HP4.out) hgx HNR.out); have hbx : Below w.heap.size w wx := Below.grown (by first | exact hb4 | exact hb4.drew) hgx (by first | exact hb4.size) (fun k9 e9 => by cases e9; omega); have x0 := cell_of_row _ _ 0 _ _ _ rDx; have x1 := cell_of_row _ _ 1 _ _ _ rDx; have fB0 := frozen_of_row _ _ 0 _ _ rBx; have fB1 := frozen_of_row _ _ 1 _ _ rBx; have gB0 := cell_of_row _ _ 0 _ _ _ rBx; have gB1 := cell_of_row _ _ 1 _ _ _ rBx; have RBx := Lib.hid rBx; clear rDx rBx hrx hgx))
  all_goals
    go_wp2
    obtain ⟨e0, e1⟩ := two_cells (two_put RBx.out (.string s) (.slice aU zs.length cU))
    refine bodyPost_ret (v := .tuple #[.agg #[.string s, .slice aU zs.length cU], .string X]) (by simp [results, Tryz.results20, go_sem, e0, e1]) rfl ⟨s, _, zs, X, rfl, ⟨past_put2 HPx.out HNB.out _ _, hs3, hl3, HZ3.out⟩, hX, ?_⟩
    first
      | exact below2 hbx (Nat.le_refl _) _ _
      | exact (below2 hbx (Nat.le_refl _) _ _).drew

end Go.Proofs.YtccdfndnjjjgfaaGreatDoor

namespace Go.Proofs.YtccdfndnjjjgfaaGreatDoor
open Go.RowKit

theorem line_g {s : ByteArray} {w W : World} {R n p k : Nat} {v : Value} (h : Drawn w W R v n p k) (hp : p + k ≤ 80000) (hs : s.size ≤ 41) :
    Calls Tryz.prog 43 #[.pointer (some ⟨R, 0, none⟩), .string s] W fun e w' => ∃ x : ByteArray, e = .returned (.string x) ∧ x.size ≤ 20000 ∧ Drawn w w' R v n p (k + 6) ∧ W.grownBy w' (some R) := by
  obtain ⟨p', hp', hr, hg⟩ := h
  refine (line_d s W W R n p' 0 v (Drawn.start hr) (by omega) hs).mono ?_
  rintro e w' ⟨x, rfl, hx, p2, hp2, hr2, hg2⟩
  exact ⟨x, rfl, hx, ⟨p2, by omega, hr2, grown_trans hg hg2⟩, hg2⟩
/-- Forty-one empty texts. -/
def zeroTexts : Array Value := Array.replicate 41 (.string ⟨#[]⟩)
theorem make41s : ∀ w : World, (Instr.makeSlice 22 (.int .i64 41) (.int .i64 41)).run Tryz.prog w = .ok (.slice (some ⟨w.heap.size, 0, none⟩) 41 41) (w.alloc (.cells zeroTexts 9)) := fun _ => by kernel_rfl
theorem zero_past {w : World} {g : Nat} (h : w.heap[g]? = some (.cells zeroTexts 9 (0, 0))) : PastAt w (.slice (some ⟨g, 0, none⟩) 41 41) (List.replicate 41 ⟨#[]⟩) := by
  refine .inr ⟨g, 0, 41, zeroTexts, by simp, by simp, h, by simp [zeroTexts], fun j d hd => ?_⟩
  obtain ⟨hj, rfl⟩ := List.getElem?_eq_some_iff.1 hd
  rw [List.length_replicate] at hj
  unfold zeroTexts
  rw [List.getElem_replicate, Nat.zero_add, Array.getElem?_replicate, if_pos (by omega)]
/-- Drawn lines. -/
structure Lines41 (w : World) (x : Value) (ls : List ByteArray) : Prop where
  past : PastAt w x ls
  hl : ls.length ≤ 41
  hz : ∀ z ∈ ls, z.size ≤ 20000
theorem past_cap {w : World} {a : Option Addr} {n cap : Nat} {ls : List ByteArray} (h : PastAt w (.slice a n cap) ls) : n ≤ cap := by
  rcases h with ⟨h, _⟩ | ⟨g, off, cap', cur, he, hl, _⟩
  · simp only [Value.slice.injEq] at h
    omega
  · simp only [Value.slice.injEq] at he
    omega
/-- While lines are drawn: all that lay there stays, but for the reader. -/
structure Kept (w w1 B0 : World) (R n m : Nat) (v : Value) (Y : World) : Prop where
  drawn : Drawn w1 Y R v n 0 m
  kept : ∀ b, b < B0.heap.size → b ≠ R → Y.heap[b]? = B0.heap[b]?
  below : Below w.heap.size w Y
  size : B0.heap.size ≤ Y.heap.size
theorem Kept.row {w w1 B0 Y : World} {R n m b : Nat} {v : Value} {o : Obj} (h : Kept w w1 B0 R n m v Y) (hb : B0.heap[b]? = some o) (hne : b ≠ R) : Y.heap[b]? = some o := (h.kept b (lt_at hb) hne).trans hb
theorem Kept.past {w w1 B0 Y : World} {R n m : Nat} {v u : Value} {zs : List ByteArray} (h : Kept w w1 B0 R n m v Y) (hp : PastAt B0 u zs) (hne : u.ownBlock ≠ some R) : PastAt Y u zs := by
  rcases hp with hp | ⟨g, off, cap, cur, rfl, hl, hg, hc, hz⟩
  · exact .inl hp
  · exact .inr ⟨g, off, cap, cur, rfl, hl, h.row hg (fun e => hne (by rw [e]; rfl)), hc, hz⟩
theorem Kept.draw {w w1 B0 Y Z : World} {R n m m2 : Nat} {v : Value} (h : Kept w w1 B0 R n m v Y) (hd : Drawn w1 Z R v n 0 m2) (hg : Y.grownBy Z (some R)) (hR : w.heap.size ≤ R) : Kept w w1 B0 R n m2 v Z :=
  ⟨hd, fun b hb hne => (hg.block b (Nat.lt_of_lt_of_le hb h.size) (fun e => hne (Option.some.inj e))).trans (h.kept b hb hne), h.below.grown hg h.below.size (fun k e => by cases e; exact hR), Nat.le_trans h.size hg.size⟩
theorem Kept.more {w w1 B0 Y Z : World} {R n m : Nat} {v : Value} (h : Kept w w1 B0 R n m v Y) {k0 : Nat} (h0 : Drawn w1 B0 R v n 0 k0) (hb : Below B0.heap.size Y Z) (hB : w.heap.size ≤ B0.heap.size) : Kept w w1 B0 R n m v Z :=
  ⟨h.drawn.belowB h0 hb, fun b hlt hne => (hb.block b hlt).trans (h.kept b hlt hne), h.below.trans (hb.mono hB), Nat.le_trans h.size hb.size⟩
set_option maxRecDepth 100000 in
set_option maxHeartbeats 3200000 in
theorem drawDeskSay (v : Value) (n : Nat) (w : World) (h : CodeAt w v n) :
    Calls Tryz.prog 28 #[v] w fun e w' => ∃ (s : ByteArray) (u : Value) (zs : List ByteArray) (g cap : Nat) (ls : List ByteArray), e = .returned (.tuple #[.agg #[.string s, u], .slice (some ⟨g, 0, none⟩) ls.length cap]) ∧ Desk41 w' s u zs ∧ Lines41 w' (.slice (some ⟨g, 0, none⟩) ls.length cap) ls ∧ ls.length ≤ cap ∧ Below w.heap.size w w' := by
  obtain ⟨i0, hi0, hz0, hz1, hz2⟩ := info_parts stringInfo
  have hzB := heap_alloc_new w (.cells #[.string ⟨#[]⟩, .slice none 0 0] 27)
  have hc := code_alloc h (.cells #[.string ⟨#[]⟩, .slice none 0 0] 27)
  obtain ⟨W, hW⟩ : ∃ W, w.alloc (.cells #[.string ⟨#[]⟩, .slice none 0 0] 27) = W := ⟨_, rfl⟩
  have hbW : Below w.heap.size w W := hW ▸ (Below.refl _ _).alloc (Nat.le_refl _) _
  have hsW : w.heap.size < W.heap.size := by rw [← hW]; simp
  rw [hW] at hzB hc
  have HW := Lib.hid hW
  have HZB := Lib.hid hzB
  clear hW hzB h
  go_enter Tryz.func28, Tryz.ntmps28
  go_wp2_with fail
  rw [HW.out]
  go_upto_region 3 with (first
    | (go_at_call 41; refine (open_any v n _ hc).mono ?_; rintro e w1 ⟨rfl, ⟨v', n', hr⟩, hb1⟩)
    | (go_at_call 42; refine (desk_d w1 w1 _ n' 0 0 v' _ (Drawn.start hr) (by omega) (by omega) (by omega)).mono ?_; rintro e w3 ⟨s, u, zs, rfl, hp3, hf3, hs3, hl3, hz3, hd3⟩; have hb3 := hd3.below_base hb1 (Nat.le_refl _); obtain ⟨aU, cU, hvU⟩ := past_slice hp3 (M := zs.length) rfl; subst hvU; have HZ3 := Lib.hid hz3; have HP3 := Lib.hid hp3; have HF3 := Lib.hid hf3; have HD3 := Lib.hid hd3; clear hz3 hp3 hf3 hd3))
  have hsb := hb1.size
  have hltR := (Drawn.start hr).lt
  have hs13 : w1.heap.size ≤ w3.heap.size := by
    obtain ⟨_, _, _, hg⟩ := HD3.out
    exact hg.size
  have hd3a := HD3.out.alloc (.cells #[.string s, .slice aU zs.length cU] 27)
  have hRow3 := heap_alloc_new w3 (.cells #[.string s, .slice aU zs.length cU] 27)
  have hx3 : Ext w3 (w3.alloc (.cells #[.string s, .slice aU zs.length cU] 27)) := (Ext.refl w3).alloc _
  obtain ⟨w4, hw4⟩ : ∃ w4, w3.alloc (.cells #[.string s, .slice aU zs.length cU] 27) = w4 := ⟨_, rfl⟩
  obtain ⟨D, hD⟩ : ∃ D, w3.heap.size = D := ⟨_, rfl⟩
  have hlD : w3.heap.size < w4.heap.size := by rw [← hw4]; simp
  rw [hw4] at hd3a hRow3 hx3 ⊢
  rw [hD] at hRow3 hs13 hlD ⊢
  clear hw4
  have HD4 := Lib.hid hd3a
  have RB4 := Lib.hid (hx3.row ((hb3.block w.heap.size (by omega)).trans HZB.out))
  have hb4 : Below w.heap.size w w4 := (hbW.trans (hb3.mono (by omega))).trans (Below.mono hx3 (by have := hb3.size; omega))
  have RD4 := Lib.hid hRow3
  have HP4 := Lib.hid (hx3.past HP3.out)
  have HNB : Hid ((Value.slice aU zs.length cU).ownBlock ≠ some w.heap.size) := fun e => by have := HF3.out _ e; omega
  have HNR : Hid ((Value.slice aU zs.length cU).ownBlock ≠ some W.heap.size) := fun e => by
    have h1 := HF3.out _ e
    omega
  have HO := Lib.hid (own_none w4 9 w4.heap.size (Nat.le_refl _))
  have HKP : Hid (Kept w w1 w4 W.heap.size n' 200 v' (w4.alloc (.cells #[] 9))) := ⟨(HD4.out.mono (by omega)).alloc _, fun b hlt _ => ((Below.refl w4.heap.size w4).alloc (Nat.le_refl _) _).block b hlt, hb4.alloc hb4.size _, by simp⟩
  have hws4 := hb4.size
  clear hd3a hRow3
  go_wp2_with (first
    | (go_at_call 68; refine (pick_d HKP.out.drawn (by omega) (by omega) (by omega)).mono ?_; rintro e w5 ⟨y, rfl, hy0, hy1, hd5, hg5⟩; have HK5 := Lib.hid (HKP.out.draw hd5 hg5 (by omega)); have HO5 := Lib.hid (HO.out.kept hg5 (.inr (fun h9 => by have h8 : w4.heap.size = W.heap.size := Option.some.inj h9; omega))); clear hd5 hg5))
  obtain ⟨y, rfl⟩ := Int.eq_ofNat_of_zero_le hy0
  go_loopw [6, 7] (fun o i wr => ∃ (g cap j m : Nat) (ls : List ByteArray), o = .slice (some ⟨g, 0, none⟩) ls.length cap ∧ i = .int .i64 j ∧ ls.length + j ≤ 6 ∧ m + 6 * j ≤ 300 ∧ Hid (wr.ownsRow w4.heap.size 9 1 (.slice (some ⟨g, 0, none⟩) ls.length cap) ls.length (strVals ls)) ∧ Hid (Kept w w1 w4 W.heap.size n' m v' wr) ∧ Hid (∀ z ∈ ls, z.size ≤ 20000)) (fun _ i _ => (intOf i).toNat)
  case atStart => exact ⟨_, _, y, 201, [], rfl, rfl, by simp; omega, by omega, HO5.out, HK5.out, by show ∀ z ∈ ([] : List ByteArray), _; simp⟩
  case round =>
    obtain ⟨g, cap, j, m, ls, rfl, rfl, hlj, hmj, HOWN, HK, HLS⟩ := hrel
    have hgb := (HOWN.out.lt g rfl).1
    by_cases hlt : 0 < j
    · have hrD := HK.out.row RD4.out (by omega)
      have o0 := cell_of_row _ _ 0 _ _ _ hrD
      have hs5 := HK.out.size
      clear hrD
      go_wp2_with (first
        | (go_at_call 43; refine (line_g HK.out.drawn (by omega) hs3).mono ?_; rintro e w6 ⟨x, rfl, hx, hd6, hg6⟩; have HK6 := Lib.hid (HK.out.draw hd6 hg6 (by omega)); have OWN6 := Lib.hid (HOWN.out.kept hg6 (.inr (fun h9 => by have h8 : g = W.heap.size := Option.some.inj h9; omega))); have hs6 : w4.heap.size ≤ w6.heap.size := HK6.out.size; clear hd6 hg6)
        | (at_builtin; refine wpList_append_lies _ rfl _ _ 22 rfl w4.heap.size 9 i0 _ 1 16 Tryz.underlying22 hi0 hz0 hz1 hz2 rfl (by omega) _ ls.length (strVals ls) rfl (OWN6.out.alloc _) ⟨w6.heap.size, 0, none⟩ 1 1 [.string x] rfl rfl (World.news_of_block (cs := #[.string x]) (t := 9) (fr := (0, 0)) (heap_alloc_new w6 _)) (by simp [Value.oneCell']) (by omega) (by unfold maxLen; omega) (by omega) (by simp; omega) (w6.heap.size + 1) (by simp) ?_; intro g4 cap4 w7 hown7 hgrow7 hat7 hlt7))
      go_roundw
      case rel =>
        have e1 : (ls ++ [x]).length = ls.length + 1 := by simp
        have e2 : strVals (ls ++ [x]) = strVals ls ++ [.string x] := by unfold strVals; rw [List.map_append]; rfl
        have hb7 : Below w4.heap.size w6 w7 := ((Below.refl w4.heap.size w6).alloc hs6 _).grown hgrow7 (by simp; omega) (fun i hi => by have h8 : g = i := Option.some.inj hi; omega)
        refine ⟨g4, cap4, j - 1, m + 6, ls ++ [x], by rw [e1], by congr 1; omega, by omega, by omega, ?_, HK6.out.more HD4.out hb7 hws4, ?_⟩
        · show World.ownsRow _ _ _ _ _ _ _
          rw [e1, e2]
          exact hown7
        · intro z hz
          rcases List.mem_append.1 hz with h1 | h1
          · exact HLS.out z h1
          · rw [List.mem_singleton.1 h1]
            exact hx
      case measure => simp [intOf]; omega
    · obtain rfl : j = 0 := by omega
      go_upto_region 10 with (first
        | (go_at_call 69; refine (odd_g HK.out.drawn (by omega) (by omega) (by omega)).mono ?_; rintro e w8 ⟨b, rfl, hd8, hg8⟩; have HK8 := Lib.hid (HK.out.draw hd8 hg8 (by omega)); have OWN8 := Lib.hid (HOWN.out.kept hg8 (.inr (fun h9 => by have h8 : g = W.heap.size := Option.some.inj h9; omega))); have hmk := make41s w8; clear hd8 hg8))
      · have HK9 := Lib.hid (HK8.out.more HD4.out ((Below.refl w4.heap.size w8).alloc HK8.out.size (.cells zeroTexts 9)) hws4)
        have hrD := HK9.out.row RD4.out (by omega)
        have hrB := HK9.out.row RB4.out (by omega)
        have d0 := cell_of_row _ _ 0 _ _ _ hrD
        have d1 := cell_of_row _ _ 1 _ _ _ hrD
        have f0 := frozen_of_row _ _ 0 _ _ hrB
        have f1 := frozen_of_row _ _ 1 _ _ hrB
        have m0 := cell_of_row _ _ 0 _ _ _ hrB
        have m1 := cell_of_row _ _ 1 _ _ _ hrB
        obtain ⟨q0, q1⟩ := two_cells (two_put hrB (.string s) (.slice aU zs.length cU))
        have hs8 := HK8.out.size
        clear hrD hrB
        go_wp2
        have hpl : PastAt (w8.alloc (.cells zeroTexts 9)) (.slice (some ⟨w8.heap.size, 0, none⟩) 41 41) (List.replicate 41 ⟨#[]⟩) := zero_past (heap_alloc_new w8 _)
        have hnl : (Value.slice (some ⟨w8.heap.size, 0, none⟩) 41 41).ownBlock ≠ some w.heap.size := fun h9 => by have h8 : w8.heap.size = w.heap.size := Option.some.inj h9; omega
        refine bodyPost_ret (v := .tuple #[.agg #[.string s, .slice aU zs.length cU], .slice (some ⟨w8.heap.size, 0, none⟩) 41 41]) (by simp [results, Tryz.results28, go_sem, q0, q1]) rfl ⟨s, _, zs, w8.heap.size, 41, List.replicate 41 ⟨#[]⟩, by simp, ⟨past_put2 (HK9.out.past HP4.out HNR.out) HNB.out _ _, hs3, hl3, HZ3.out⟩, ⟨by simpa using past_put2 hpl hnl _ _, by simp, fun z hz => by rw [(List.mem_replicate.1 hz).2]; decide⟩, by simp, below2 HK9.out.below (Nat.le_refl _) _ _⟩
      · have hrD := HK8.out.row RD4.out (by omega)
        have hrB := HK8.out.row RB4.out (by omega)
        have d0 := cell_of_row _ _ 0 _ _ _ hrD
        have d1 := cell_of_row _ _ 1 _ _ _ hrD
        have f0 := frozen_of_row _ _ 0 _ _ hrB
        have f1 := frozen_of_row _ _ 1 _ _ hrB
        have m0 := cell_of_row _ _ 0 _ _ _ hrB
        have m1 := cell_of_row _ _ 1 _ _ _ hrB
        obtain ⟨q0, q1⟩ := two_cells (two_put hrB (.string s) (.slice aU zs.length cU))
        clear hrD hrB
        go_wp2
        have hpl : PastAt w8 (.slice (some ⟨g, 0, none⟩) ls.length cap) ls := past_own OWN8.out
        have hnl : (Value.slice (some ⟨g, 0, none⟩) ls.length cap).ownBlock ≠ some w.heap.size := fun h9 => by have h8 : g = w.heap.size := Option.some.inj h9; omega
        refine bodyPost_ret (v := .tuple #[.agg #[.string s, .slice aU zs.length cU], .slice (some ⟨g, 0, none⟩) ls.length cap]) (by simp [results, Tryz.results28, go_sem, q0, q1]) rfl ⟨s, _, zs, g, cap, ls, rfl, ⟨past_put2 (HK8.out.past HP4.out HNR.out) HNB.out _ _, hs3, hl3, HZ3.out⟩, ⟨past_put2 hpl hnl _ _, by omega, HLS.out⟩, past_cap hpl, below2 HK8.out.below (Nat.le_refl _) _ _⟩

end Go.Proofs.YtccdfndnjjjgfaaGreatDoor

namespace Go.Proofs.YtccdfndnjjjgfaaGreatDoor
open Go.RowKit

theorem ask_free {X : ByteArray} (h : askAt X = none) {i : Nat} (hi : i < 9) : askWords.getD i ⟨#[]⟩ ≠ X := fun e => by
  unfold askAt at h
  rw [List.findIdx?_eq_none_iff] at h
  have h2 := h (askWords.getD i ⟨#[]⟩) (by rw [List.getD_eq_getElem?_getD, List.getElem?_eq_getElem (by exact hi)]; exact List.getElem_mem _)
  rw [e] at h2
  exact absurd h2 (by simp)
theorem list_free {X : ByteArray} (h : askAt X = none) {i : Nat} (hi : i < 9) {l : List UInt8} (hl : (askWords.getD i ⟨#[]⟩).data.toList = l) : (X.toList == l) = false := by
  rw [Lib.toList_data, ← hl]
  refine beq_false_of_ne fun e => ask_free h hi ?_
  rw [← Tw.str_of X, e, Tw.str_of]
/-- At a part that is no number. -/
theorem curve_bad {p0 : List UInt8} {qs : List (List UInt8)} {p : List UInt8} (h : p ∈ qs) (hp : numOk p 4 = false) : curveOf (p0 :: qs) = whatText := by
  rcases qs with _ | ⟨a, _ | ⟨b, _ | ⟨d, _ | ⟨f, g⟩⟩⟩⟩
  · rfl
  · rfl
  · refine if_neg fun h9 => ?_
    rcases List.mem_cons.1 h with rfl | h
    · rw [h9.2.1] at hp
      cases hp
    · rw [List.mem_singleton] at h
      subst h
      rw [h9.2.2] at hp
      cases hp
  · refine if_neg fun h9 => ?_
    rcases List.mem_cons.1 h with rfl | h
    · rw [h9.2.1] at hp
      cases hp
    · rcases List.mem_cons.1 h with rfl | h
      · rw [h9.2.2.1] at hp
        cases hp
      · rw [List.mem_singleton] at h
        subst h
        rw [h9.2.2.2] at hp
        cases hp
  · rfl
theorem curve_not {p0 : List UInt8} {qs : List (List UInt8)} (h1 : ¬ (p0 = cellWord ∧ qs.length = 2)) (h2 : ¬ (p0 = numberWord ∧ qs.length = 3)) : curveOf (p0 :: qs) = whatText := by
  rcases qs with _ | ⟨a, _ | ⟨b, _ | ⟨d, _ | ⟨f, g⟩⟩⟩⟩
  · rfl
  · rfl
  · exact if_neg fun h9 => h1 ⟨h9.1, rfl⟩
  · exact if_neg fun h9 => h2 ⟨h9.1, rfl⟩
  · rfl
theorem str_is {p : List UInt8} {z : ByteArray} (hz : Tw.str p = z) (l : List UInt8) : (z.toList == l) = decide (p = l) := by
  rw [← hz, Lib.toList_data, Tw.str_data, Bool.eq_iff_iff, beq_iff_eq, decide_eq_true_iff]
theorem cutAll_cons_some (sep : UInt8) (l : List UInt8) : ∃ p0 qs, cutAll sep l = p0 :: qs := by
  unfold cutAll
  cases (cutState sep l).1 with
  | nil => exact ⟨_, _, rfl⟩
  | cons a b => exact ⟨_, _, rfl⟩

set_option maxRecDepth 100000 in
set_option maxHeartbeats 1600000 in
theorem specLine_deed (s : ByteArray) (a : Option Addr) (c L : Nat) (zs : List ByteArray) (X : ByteArray) (d1 d2 : Int) (w : World) (h : StrsAt w (.slice a L c) zs) (HL : Hid (zs.length = L)) (hok : Hid (deskOk s zs = true)) (hX : X.size ≤ 1048576) (hr : Hid (readOf X.data.toList = ((d1, d2), true)))
    (x : ByteArray) (ys : List ByteArray) (b : Bool) (hd : Hid (deskDone s zs d1 d2 = (x, ys, b))) (hkn : -9223372036854775808 ≤ d2 ∧ d2 ≤ 9223372036854775807) :
    Calls Tryz.prog 22 #[.agg #[.string s, .slice a L c], .string X] w (LineOut w x ys (okWord b)) := by
  obtain ⟨h1, h8, hz⟩ := deskOk_parts hok.out
  have h40 : s.size ≤ 40 := by have := Tw.walkOk_len h1; rwa [size_data] at this
  obtain ⟨e0, hsz, r0, r1⟩ := desk2_in w s (.slice a L c)
  obtain ⟨W, hW⟩ : ∃ W, deskBox2 w s (.slice a L c) = W := ⟨_, rfl⟩
  rw [hW] at e0 hsz r0 r1
  unfold deskBox2 at hW
  have HW := Lib.hid hW
  have HDK := Lib.hid (deskOk_named s (.slice a L c) zs W (e0.strs h) (by have := ok_size h1; omega) (by omega) (fun z hz9 => by have := ok_size (hz z hz9); omega) true hok.out)
  have HRD : Hid (∀ Y : World, Calls Tryz.prog 48 #[.string X] Y fun e w' => e = .returned (.tuple #[.agg #[.int .i64 d1, .int .i64 d2], .bool true]) ∧ Below Y.heap.size Y w') := fun Y => by
    refine (specReadDeed X Y hX).mono ?_
    rintro e w' ⟨he, hb⟩
    rw [hr.out] at he
    exact ⟨he, hb⟩
  have HCP : Hid (∀ Y, Ext W Y → Calls Tryz.prog 38 #[.agg #[.string s, .slice a L c]] Y fun e w' => ∃ g2 c2, e = .returned (.agg #[.string s, .slice (some ⟨g2, 0, none⟩) L c2]) ∧ PastAt w' (.slice (some ⟨g2, 0, none⟩) L c2) zs ∧ W.heap.size ≤ g2 ∧ Ext W w') := fun Y hY => by
    refine (copy_named s (.slice a L c) zs Y ((e0.trans hY).strs h) L HL.out (by have := HL.out; omega)).mono ?_
    rintro e w' ⟨g2, c2, he, hown2, hp2, hb2⟩
    exact ⟨g2, c2, he, hp2, by have := (hown2.lt g2 rfl).1; have := hY.size; omega, hY.call hb2⟩
  have R0 := Lib.hid r0
  have R1 := Lib.hid r1
  have E0 := Lib.hid e0
  have c0 := cell_of_row _ _ 0 _ _ _ r0
  have c1 := cell_of_row _ _ 1 _ _ _ r0
  have HWS := Lib.hid hsz
  have HDO : Hid (∀ Y, Ext w Y → Calls Tryz.prog 49 #[.agg #[.string s, .slice a L c], .agg #[.int .i64 d1, .int .i64 d2]] Y (DeskOut Y x ys b)) := fun Y hY => by
    have := specDeskDone s (.slice a L c) zs d1 d2 Y (hY.strs h) hok.out hkn
    rw [hd.out] at this
    exact this
  clear hW r0 r1 h hz h1 h8 e0 hsz
  cases b
  all_goals
    go_enter Tryz.func22, Tryz.ntmps22
    go_wp2_with fail
    rw [HW.out]
    go_wp2_with (first
    | (go_at_call 24; refine HDK.out.mono ?_; rintro e w1 ⟨rfl, hb1⟩; have E1 : Ext W w1 := hb1; have hr1 := E1.row R0.out; have k0 := cell_of_row _ _ 0 _ _ _ hr1; have k1 := cell_of_row _ _ 1 _ _ _ hr1; clear hb1 hr1)
    | (go_at_call 38; refine (HCP.out w1 E1).mono ?_; rintro e w2 ⟨g2, c2, rfl, hp2, hg2, E2⟩; have hO : w.heap.size + 1 < w2.heap.size := (by have h8 := E2.size; have h9 := HWS.out; omega); have l3 := lin_new (x := s) E2 hp2 hg2; clear hp2 hg2)
    | (go_at_call 48; refine (HRD.out _).mono ?_; rintro e w4 ⟨rfl, hb4⟩; have l4 := (l3.call hb4).alloc (.cells #[.int .i64 d1, .int .i64 d2] 53); have hr4 := l4.ext.row R0.out; have l0 := cell_of_row _ _ 0 _ _ _ hr4; have l1 := cell_of_row _ _ 1 _ _ _ hr4; have hrr := l4.ext.row R1.out; have f0 := frozen_of_row _ _ 0 _ _ hrr; have f1 := frozen_of_row _ _ 1 _ _ hrr; have m0 := cell_of_row _ _ 0 _ _ _ hrr; have m1 := cell_of_row _ _ 1 _ _ _ hrr; have n0 := l4.cells.1; have n1 := l4.cells.2; have qq := pair_put hrr (.string s) (.slice (some ⟨g2, 0, none⟩) L c2); have rq0 := cell_of_row _ _ 0 _ _ _ qq; have rq1 := cell_of_row _ _ 1 _ _ _ qq; clear hrr qq; clear hb4 hr4)
    | (go_at_call 49; refine (HDO.out _ (E0.out.trans l4.ext)).mono ?_; rintro e w5 ⟨v5, rfl, hp5, hf5, hb5⟩; obtain ⟨a5, c5, hv5⟩ := past_slice hp5 rfl; subst hv5; have E5 : Ext W w5 := Ext.call l4.ext hb5; have P5 := Lib.hid hp5; have F5 := Lib.hid (fresh_ext l4.ext hf5); have E5A : Hid (Ext W (w5.alloc (.cells #[.string x, .slice a5 ys.length c5] 27))) := E5.alloc _; have hrb := E5A.out.row R1.out; have f0 := frozen_of_row _ _ 0 _ _ hrb; have f1 := frozen_of_row _ _ 1 _ _ hrb; have m0 := cell_of_row _ _ 0 _ _ _ hrb; have m1 := cell_of_row _ _ 1 _ _ _ hrb; have q := pair_put hrb (.string x) (.slice a5 ys.length c5); have q0 := cell_of_row _ _ 0 _ _ _ q; have q1 := cell_of_row _ _ 1 _ _ _ q; clear hp5 hf5 hb5 hrb q))
  · refine bodyPost_ret (v := .tuple #[.agg #[.string x, .slice a5 ys.length c5], .string ⟨#[110, 111, 116]⟩]) (by simp [results, Tryz.results22, go_sem, q0, q1]) rfl ?_
    exact line_done (R := w.heap.size + 1) (t := ⟨#[110, 111, 116]⟩) (E0.out.trans E5A.out) (((Ext.refl _).alloc _).past P5.out) (fresh_ext E0.out F5.out) (fun h9 => by have := F5.out _ h9; have := HWS.out; omega) (by omega)
  · refine bodyPost_ret (v := .tuple #[.agg #[.string x, .slice a5 ys.length c5], .string ⟨#[111, 107]⟩]) (by simp [results, Tryz.results22, go_sem, q0, q1]) rfl ?_
    exact line_done (R := w.heap.size + 1) (t := ⟨#[111, 107]⟩) (E0.out.trans E5A.out) (((Ext.refl _).alloc _).past P5.out) (fresh_ext E0.out F5.out) (fun h9 => by have := F5.out _ h9; have := HWS.out; omega) (by omega)
set_option maxRecDepth 100000 in
set_option maxHeartbeats 800000 in
theorem specLine_none (s : ByteArray) (a : Option Addr) (c L : Nat) (zs : List ByteArray) (X : ByteArray) (w : World) (h : StrsAt w (.slice a L c) zs) (HL : Hid (zs.length = L)) (hs : s.size ≤ 1048576) (hL : L ≤ 1048576) (hz : ∀ z ∈ zs, z.size ≤ 1048576) (hok : deskOk s zs = false) :
    Calls Tryz.prog 22 #[.agg #[.string s, .slice a L c], .string X] w (LineOut w ⟨#[]⟩ [] ⟨#[]⟩) := by
  obtain ⟨e0, hsz, r0, r1⟩ := desk2_in w s (.slice a L c)
  obtain ⟨W, hW⟩ : ∃ W, deskBox2 w s (.slice a L c) = W := ⟨_, rfl⟩
  rw [hW] at e0 hsz r0 r1
  unfold deskBox2 at hW
  have HW := Lib.hid hW
  have HDK := Lib.hid (deskOk_named s (.slice a L c) zs W (e0.strs h) hs (by rw [HL.out]; exact hL) hz false hok)
  have R1 := Lib.hid r1
  have c0 := cell_of_row _ _ 0 _ _ _ r0
  have c1 := cell_of_row _ _ 1 _ _ _ r0
  clear hW r0 r1 h hok hz
  go_enter Tryz.func22, Tryz.ntmps22
  go_wp2_with fail
  rw [HW.out]
  go_wp2_with (first
    | (go_at_call 24; refine HDK.out.mono ?_; rintro e w1 ⟨rfl, hb1⟩; have e1 : Ext W w1 := hb1; have hr := e1.row R1.out; have f0 := frozen_of_row _ _ 0 _ _ hr; have f1 := frozen_of_row _ _ 1 _ _ hr; have k0 := cell_of_row _ _ 0 _ _ _ hr; have k1 := cell_of_row _ _ 1 _ _ _ hr; have q := pair_put hr (.string ⟨#[]⟩) (.slice none 0 0); have q0 := cell_of_row _ _ 0 _ _ _ q; have q1 := cell_of_row _ _ 1 _ _ _ q; clear hr q hb1))
  refine bodyPost_ret (v := .tuple #[.agg #[.string ⟨#[]⟩, .slice none 0 0], .string ⟨#[]⟩]) (by simp [results, Tryz.results22, go_sem, q0, q1]) rfl ?_
  exact line_done (R := w.heap.size + 1) (e0.trans e1) (.inl ⟨rfl, rfl⟩) (Fresh.none _) (fun h9 => by cases h9) (by omega)
set_option maxRecDepth 100000 in
set_option maxHeartbeats 3200000 in
theorem specLine_curve (s : ByteArray) (a : Option Addr) (c L : Nat) (zs : List ByteArray) (X : ByteArray) (w : World) (h : StrsAt w (.slice a L c) zs) (HL : Hid (zs.length = L)) (hok : Hid (deskOk s zs = true)) (hX : X.size ≤ 1048576) (hr : Hid (readOf X.data.toList = ((0, 0), false))) (hat : askAt X = none) :
    Calls Tryz.prog 22 #[.agg #[.string s, .slice a L c], .string X] w (LineOut w s zs (curveText X.data.toList)) := by
  have q0 : (X.toList == [119, 97, 108, 107]) = false := list_free hat (i := 0) (by omega) rfl
  have q1 : (X.toList == [101, 110, 100]) = false := list_free hat (i := 1) (by omega) rfl
  have q2 : (X.toList == [99, 108, 111, 115, 101, 100]) = false := list_free hat (i := 2) (by omega) rfl
  have q3 : (X.toList == [115, 105, 109, 112, 108, 101]) = false := list_free hat (i := 3) (by omega) rfl
  have q4 : (X.toList == [97, 118, 111, 105, 100, 115]) = false := list_free hat (i := 4) (by omega) rfl
  have q5 : (X.toList == [116, 117, 114, 110, 105, 110, 103]) = false := list_free hat (i := 5) (by omega) rfl
  have q6 : (X.toList == [97, 114, 101, 97]) = false := list_free hat (i := 6) (by omega) rfl
  have q7 : (X.toList == [119, 105, 110, 100, 105, 110, 103]) = false := list_free hat (i := 7) (by omega) rfl
  have q8 : (X.toList == [115, 113, 117, 97, 114, 101, 115]) = false := list_free hat (i := 8) (by omega) rfl
  obtain ⟨h1, h8, hz⟩ := deskOk_parts hok.out
  have h40 : s.size ≤ 40 := by have := Tw.walkOk_len h1; rwa [size_data] at this
  obtain ⟨e0, hsz, r0, r1⟩ := desk2_in w s (.slice a L c)
  obtain ⟨W, hW⟩ : ∃ W, deskBox2 w s (.slice a L c) = W := ⟨_, rfl⟩
  rw [hW] at e0 hsz r0 r1
  unfold deskBox2 at hW
  have HW := Lib.hid hW
  have HDK := Lib.hid (deskOk_named s (.slice a L c) zs W (e0.strs h) (by have := ok_size h1; omega) (by omega) (fun z hz9 => by have := ok_size (hz z hz9); omega) true hok.out)
  have HRD : Hid (∀ Y : World, Calls Tryz.prog 48 #[.string X] Y fun e w' => e = .returned (.tuple #[.agg #[.int .i64 0, .int .i64 0], .bool false]) ∧ Below Y.heap.size Y w') := fun Y => by
    refine (specReadDeed X Y hX).mono ?_
    rintro e w' ⟨he, hb⟩
    rw [hr.out] at he
    exact ⟨he, hb⟩
  have HCP : Hid (∀ Y, Ext W Y → Calls Tryz.prog 38 #[.agg #[.string s, .slice a L c]] Y fun e w' => ∃ g2 c2, e = .returned (.agg #[.string s, .slice (some ⟨g2, 0, none⟩) L c2]) ∧ PastAt w' (.slice (some ⟨g2, 0, none⟩) L c2) zs ∧ W.heap.size ≤ g2 ∧ Ext W w') := fun Y hY => by
    refine (copy_named s (.slice a L c) zs Y ((e0.trans hY).strs h) L HL.out (by have := HL.out; omega)).mono ?_
    rintro e w' ⟨g2, c2, he, hown2, hp2, hb2⟩
    exact ⟨g2, c2, he, hp2, by have := (hown2.lt g2 rfl).1; have := hY.size; omega, hY.call hb2⟩
  have R0 := Lib.hid r0
  have R1 := Lib.hid r1
  have E0 := Lib.hid e0
  have c0 := cell_of_row _ _ 0 _ _ _ r0
  have c1 := cell_of_row _ _ 1 _ _ _ r0
  have HWS := Lib.hid hsz
  have hsz2 : s.size ≤ 1048576 := by omega
  have hcut := fun Y => cut_any X 32 Y hX
  have hwf := words_few 32 X
  obtain ⟨p0, qs, hps⟩ := cutAll_cons_some 32 X.data.toList
  have HTX : Hid (curveText X.data.toList = curveOf (p0 :: qs)) := by show _ = _; unfold curveText; rw [hps]
  have hwd : words 32 X = (p0 :: qs).map Tw.str := by unfold words; rw [hps]
  have hpz : ∀ p ∈ p0 :: qs, p.length ≤ 1048576 := fun p hp => by
    rw [← hps] at hp
    have := part_size hp
    rw [size_data] at this
    omega
  rw [hwd] at hcut hwf
  obtain ⟨n, hn⟩ : ∃ n, qs.length = n := ⟨_, rfl⟩
  have hn1 : ((p0 :: qs).map Tw.str).length = n + 1 := by rw [List.length_map, List.length_cons, hn]
  rw [hn1] at hcut hwf
  have HCUT : Hid (∀ Y : World, Calls Tryz.prog 61 #[.string X, .int .u8 32] Y fun e w' => ∃ g cap, e = .returned (.slice (some ⟨g, 0, none⟩) (n + 1) cap) ∧ w'.ownsRow Y.heap.size 9 1 (.slice (some ⟨g, 0, none⟩) (n + 1) cap) (n + 1) (strVals ((p0 :: qs).map Tw.str)) ∧ Below Y.heap.size Y w') := fun Y => hcut Y
  have HPZ := Lib.hid hpz
  have HN := Lib.hid hn
  obtain ⟨i0, hi0, hz0, hz1, hz2⟩ := info_parts lineIntInfo
  clear hW r0 r1 h hz h1 h8 e0 hsz hcut hps hwd hpz hn hn1 hat
  go_enter Tryz.func22, Tryz.ntmps22
  go_wp2_with fail
  rw [HW.out]
  go_wp2_with (first
    | (go_at_call 61; refine (HCUT.out _).mono ?_; rintro e w7 ⟨g7, c7, rfl, hown7, hb7⟩; have l7 : Lin W w2.heap.size s g2 c2 L zs w7 := Lin.call l4 hb7; have HO7 := Lib.hid hown7; clear hown7)
    | (go_at_call 24; refine HDK.out.mono ?_; rintro e w1 ⟨rfl, hb1⟩; have E1 : Ext W w1 := hb1; have hr1 := E1.row R0.out; have k0 := cell_of_row _ _ 0 _ _ _ hr1; have k1 := cell_of_row _ _ 1 _ _ _ hr1; clear hb1 hr1)
    | (go_at_call 38; refine (HCP.out w1 E1).mono ?_; rintro e w2 ⟨g2, c2, rfl, hp2, hg2, E2⟩; have hO : w.heap.size + 1 < w2.heap.size := (by have h8 := E2.size; have h9 := HWS.out; omega); have l3 := lin_new (x := s) E2 hp2 hg2; clear hp2 hg2)
    | (go_at_call 48; refine (HRD.out _).mono ?_; rintro e w4 ⟨rfl, hb4⟩; have l4 := (l3.call hb4).alloc (.cells #[.int .i64 0, .int .i64 0] 53); have hr4 := l4.ext.row R0.out; have l0 := cell_of_row _ _ 0 _ _ _ hr4; have hrr := l4.ext.row R1.out; have f0 := frozen_of_row _ _ 0 _ _ hrr; have f1 := frozen_of_row _ _ 1 _ _ hrr; have m0 := cell_of_row _ _ 0 _ _ _ hrr; have m1 := cell_of_row _ _ 1 _ _ _ hrr; have n0 := l4.cells.1; have n1 := l4.cells.2; have qq := pair_put hrr (.string s) (.slice (some ⟨g2, 0, none⟩) L c2); have rq0 := cell_of_row _ _ 0 _ _ _ qq; have rq1 := cell_of_row _ _ 1 _ _ _ qq; clear hrr qq; clear hb4 hr4))
  have HCELL : Hid (∀ (k : Nat) (p : List UInt8), (p0 :: qs)[k]? = some p → w7.cell? ⟨g7, k, none⟩ = some (.string (Tw.str p))) := fun k p hk => by
    have hlt : k < n + 1 := by have := (List.getElem?_eq_some_iff.1 hk).1; rw [List.length_cons, HN.out] at this; exact this
    rw [HO7.out.cellAt k (by omega)]
    unfold strVals
    rw [List.getElem?_map, List.getElem?_map, hk]
    rfl
  have hg7 := (HO7.out.lt g7 rfl).1
  have HO1 := Lib.hid (own_none w7 3 w7.heap.size (Nat.le_refl _))
  have hO2 := l7.high
  clear m0 m1 f0 f1 n0 n1 rq0 rq1 k0 k1 l0
  go_loopw [15, 16] (fun o i wr => ∃ (j k g cap : Nat), i = .int .i64 k ∧ Hid (k = j + 1) ∧ j ≤ n ∧ o = .slice (some ⟨g, 0, none⟩) j cap ∧ wr.ownsRow w7.heap.size 3 1 (.slice (some ⟨g, 0, none⟩) j cap) j (intVals (qs.take j)) ∧ Hid ((qs.take j).all (fun p => numOk p 4) = true) ∧ Lin W w2.heap.size s g2 c2 L zs wr ∧ Ext w7 wr)
    (fun _ i _ => n + 1 - (intOf i).toNat)
  case atStart => exact ⟨0, 1, _, _, rfl, rfl, Nat.zero_le _, rfl, HO1.out, rfl, l7.alloc _, (Ext.refl w7).alloc _⟩
  case round =>
    obtain ⟨j, k, g, cap, rfl, HK, hj, rfl, hown, HAL, lr, e7⟩ := hrel
    have hrr := lr.ext.row R1.out
    have f0 := frozen_of_row _ _ 0 _ _ hrr
    have f1 := frozen_of_row _ _ 1 _ _ hrr
    have m0 := cell_of_row _ _ 0 _ _ _ hrr
    have m1 := cell_of_row _ _ 1 _ _ _ hrr
    have n0 := lr.cells.1
    have n1 := lr.cells.2
    have qq := pair_put hrr (.string s) (.slice (some ⟨g2, 0, none⟩) L c2)
    have rq0 := cell_of_row _ _ 0 _ _ _ qq
    have rq1 := cell_of_row _ _ 1 _ _ _ qq
    clear hrr qq
    have hk1 : k = j + 1 := HK.out
    have hkI : (k : Int) = (j : Int) + 1 := by omega
    have HKI := Lib.hid hkI
    by_cases hlt : j < n
    · have hkn : (k : Int) < (n : Int) + 1 := by omega
      have hk0 : (0 : Int) ≤ (k : Int) := by omega
      obtain ⟨p, hp⟩ : ∃ p, qs[j]? = some p := ⟨qs[j]'(by rw [HN.out]; exact hlt), List.getElem?_eq_getElem (by rw [HN.out]; exact hlt)⟩
      have hpk : (p0 :: qs)[k]? = some p := by rw [hk1, List.getElem?_cons_succ]; exact hp
      have d0 := cell_keep e7 (HCELL.out k p hpk)
      have hrn := digits_any (Tw.str p) wr (by have := HPZ.out p (List.mem_of_getElem? hpk); rw [Tw.str_size]; omega)
      rw [Tw.str_data] at hrn
      unfold digitsRes at hrn
      obtain ⟨x, hx⟩ : ∃ x, Tw.str p = x := ⟨_, rfl⟩
      rw [hx] at d0 hrn
      have HP := Lib.hid hp
      have hgb := (hown.lt g rfl).1
      have hsz7 := e7.size
      have hj2 : j < 2000000 := by omega
      cases hnp : numOk p 4
      · rw [hnp] at hrn
        have HRN := Lib.hid hrn
        have HT2 : Hid (curveText X.data.toList = whatText) := HTX.out.trans (curve_bad (List.mem_of_getElem? hp) hnp)
        clear hx hrn hnp hp hpk hkI hk1 hown
        go_wp2_with (first
          | (go_at_call 62; refine HRN.out.mono ?_; rintro e w3 ⟨rfl, rfl⟩))
        refine bodyPost_ret (v := .tuple #[.agg #[.string s, .slice (some ⟨g2, 0, none⟩) L c2], .string ⟨#[119, 104, 97, 116]⟩]) (by simp [results, Tryz.results22, go_sem, rq0, rq1]) rfl ?_
        rw [HT2.out]
        exact lin_done E0.out lr HWS.out
      · rw [hnp, if_pos rfl] at hrn
        have HNP := Lib.hid hnp
        have hm9 := num_four hnp
        obtain ⟨m, hmv⟩ : ∃ m, numVal p = m := ⟨_, rfl⟩
        rw [hmv] at hrn hm9
        have HMV := Lib.hid hmv
        have HRN := Lib.hid hrn
        clear hx hrn hnp hp hpk hmv hkI hk1
        go_wp2_with (first
          | (go_at_call 62; refine HRN.out.mono ?_; rintro e w3 ⟨rfl, rfl⟩)
          | (at_builtin; refine wpList_append_lies _ rfl _ _ 77 rfl w7.heap.size 3 i0 _ 1 8 Tryz.underlying77 hi0 hz0 hz1 hz2 rfl (by omega) _ j _ rfl (hown.alloc _) ⟨wr.heap.size, 0, none⟩ 1 1 [.int .i64 (m : Int)] rfl rfl (World.news_of_block (cs := #[.int .i64 (m : Int)]) (t := 3) (fr := (0, 0)) (heap_alloc_new wr _)) (by simp [Value.oneCell']) (by omega) (by unfold maxLen; omega) (by omega) (by simp; omega) (wr.heap.size + 1) (by simp) ?_; intro g4 cap4 w4' hown4 hgrow4 hat4 hlt4))
        have hb9 : Below w7.heap.size wr w4' := (((Ext.refl wr).alloc (.cells #[.int .i64 (m : Int)] 3)).mono hsz7).grown hgrow4 (by simp; omega) (fun j9 hj9 => by have h9 : g = j9 := Option.some.inj hj9; omega)
        go_roundw
        case rel =>
          refine ⟨j + 1, k + 1, g4, cap4, by go_num, (by show _ = _; rw [HK.out]), by omega, rfl, ?_, all_more HP.out HAL.out HNP.out, lin_grown lr hb9 l7 (Nat.le_refl _), ?_⟩
          · rw [intVals_snoc HP.out, HMV.out]
            exact hown4
          · exact Below.trans e7 hb9
        case measure => have := HKI.out; simp [intOf]; omega
    · obtain rfl : j = n := by omega
      have hg1 := (hown.lt g rfl).1
      have hall := HAL.out
      rw [List.take_of_length_le (by rw [HN.out]; exact Nat.le_refl _)] at hall hown
      have hkn : ¬ (k : Int) < (j : Int) + 1 := by omega
      have d0 := cell_keep e7 (HCELL.out 0 p0 rfl)
      obtain ⟨z, hz⟩ : ∃ z, Tw.str p0 = z := ⟨_, rfl⟩
      rw [hz] at d0
      have zc := str_is hz [99, 101, 108, 108]
      have zn := str_is hz [110, 117, 109, 98, 101, 114]
      have hj0 : (0 : Int) < (j : Int) + 1 := by omega
      have HALL := Lib.hid hall
      have HTX1 := HTX.out
      have HLEN := HN.out
      clear hall hz hkI hk1 HTX HN
      by_cases hA : p0 = cellWord ∧ j = 2
      · obtain ⟨hA1, rfl⟩ := hA
        rw [show decide (p0 = [99, 101, 108, 108]) = true from decide_eq_true hA1] at zc
        match qs, HLEN, HALL, HTX1, hown with
        | [pa, pb], _, HALL, HTX1, hown =>
          have hok2 := HALL.out
          simp only [List.all_cons, List.all_nil, Bool.and_true, Bool.and_eq_true] at hok2
          have hT1 : curveOf [p0, pa, pb] = cellText (numVal pa) (numVal pb) := if_pos ⟨hA1, hok2.1, hok2.2⟩
          have HT2 := HTX1.trans hT1
          have l00 := hown.cellAt 0 (by omega)
          have l01 := hown.cellAt 1 (by omega)
          have ha9 := num_four hok2.1
          have e0a : (intVals [pa, pb])[0]? = some (.int .i64 (numVal pa : Nat)) := rfl
          have e1a : (intVals [pa, pb])[1]? = some (.int .i64 (numVal pb : Nat)) := rfl
          rw [e0a] at l00
          rw [e1a] at l01
          obtain ⟨ia, hia⟩ : ∃ i, numVal pa = i := ⟨_, rfl⟩
          obtain ⟨ib, hib⟩ : ∃ i, numVal pb = i := ⟨_, rfl⟩
          rw [hia] at l00 HT2 ha9
          rw [hib] at l01 HT2
          have hc := fun Y => specCellOf ia ib ha9 Y
          unfold CellOut at hc
          have hsm := cell_small ia ib
          unfold cellText at HT2
          obtain ⟨c1', hc1⟩ : ∃ c, (cellRes ia ib).1.1 = c := ⟨_, rfl⟩
          obtain ⟨c2', hc2⟩ : ∃ c, (cellRes ia ib).1.2 = c := ⟨_, rfl⟩
          obtain ⟨t, htt⟩ : ∃ t, (cellRes ia ib).2 = t := ⟨_, rfl⟩
          rw [hc1, hc2, htt] at HT2
          simp only [hc1, hc2, htt] at hc
          rw [hc1, hc2] at hsm
          have HC := Lib.hid hc
          clear hc hc1 hc2 htt hia hib e0a e1a hT1 hok2 HTX1 HALL hown zn
          cases t
          · have HT3 : Hid (curveText X.data.toList = ⟨#[110, 111, 110, 101]⟩) := HT2
            clear HT2
            go_upto_region 42 with (fail)
            go_region_held3 (fun w' => w'.cell? ⟨g, 0, none⟩ = some (.int .i64 (ia : Int)) ∧ w'.cell? ⟨g, 1, none⟩ = some (.int .i64 (ib : Int)))
              (exact ⟨l00, l01⟩)
              (first
                | (go_at_call 63; refine (HC.out _).mono ?_; rintro e w9 ⟨rfl, rfl⟩))
            all_goals
              go_wp2
              refine bodyPost_ret (v := .tuple #[.agg #[.string s, .slice (some ⟨g2, 0, none⟩) L c2], .string ⟨#[110, 111, 110, 101]⟩]) (by simp [results, Tryz.results22, go_sem, rq0, rq1]) rfl ?_
              rw [HT3.out]
              first | exact lin_done E0.out (by first | assumption | exact Lin.drew (by assumption)) HWS.out | exact line_drew (lin_done E0.out (by first | assumption | exact Lin.drew (by assumption)) HWS.out)
          · obtain ⟨u, hu⟩ : ∃ u, numText (c1' : Int) = u := ⟨_, rfl⟩
            obtain ⟨v, hv⟩ : ∃ u, numText (c2' : Int) = u := ⟨_, rfl⟩
            have su := numText_len (n := (c1' : Int)) (by omega) (by omega)
            have sv := numText_len (n := (c2' : Int)) (by omega) (by omega)
            rw [hu] at su
            rw [hv] at sv
            have HT3 : Hid (curveText X.data.toList = u ++ ⟨#[44]⟩ ++ v) := by show _ = _; rw [HT2, ← hu, ← hv]; rfl
            have HNX : Hid (∀ Y : World, Calls Tryz.prog 51 #[.int .i64 (c1' : Int)] Y fun e w' => e = .returned (.string u) ∧ Below Y.heap.size Y w') := fun Y => hu ▸ number_int (c1' : Int) (by omega) (by omega) Y
            have HNY : Hid (∀ Y : World, Calls Tryz.prog 51 #[.int .i64 (c2' : Int)] Y fun e w' => e = .returned (.string v) ∧ Below Y.heap.size Y w') := fun Y => hv ▸ number_int (c2' : Int) (by omega) (by omega) Y
            have fu : ¬ 9223372036854775807 < u.size + 1 := by omega
            have fv : ¬ 9223372036854775807 < u.size + 1 + v.size := by omega
            clear HT2 hu hv
            go_upto_region 42 with (fail)
            go_region_held3 (fun w' => w'.cell? ⟨g, 0, none⟩ = some (.int .i64 (ia : Int)) ∧ w'.cell? ⟨g, 1, none⟩ = some (.int .i64 (ib : Int)))
              (exact ⟨l00, l01⟩)
              (first
                | (go_at_call 63; refine (HC.out _).mono ?_; rintro e w9 ⟨rfl, rfl⟩))
            all_goals
              go_upto_region 45 with (fail)
              go_region_held3 (fun w' => w'.cell? ⟨w2.heap.size, 0, none⟩ = some (.string s) ∧ w'.cell? ⟨w2.heap.size, 1, none⟩ = some (.slice (some ⟨g2, 0, none⟩) L c2))
                (first
                  | exact Lin.cells (by assumption)
                  | exact (Lin.drew (by assumption)).cells
                  | exact (Lin.drew (Lin.drew (by assumption))).cells
                  | exact other_cells (by omega) (Lin.cells (by assumption)).1 (Lin.cells (by assumption)).2)
                (first
                  | (go_at_call_of 51 (Value.int .i64 (c1' : Int)); refine (HNX.out _).mono ?_; rintro e wc1' ⟨rfl, hbc1'⟩; have lc1' : Lin W w2.heap.size s g2 c2 L zs wc1' := Lin.call (by first | assumption | exact Lin.drew (by assumption) | exact Lin.drew (Lin.drew (by assumption))) hbc1'; have hrr := lc1'.ext.row R1.out; have f0 := frozen_of_row _ _ 0 _ _ hrr; have f1 := frozen_of_row _ _ 1 _ _ hrr; have m0 := cell_of_row _ _ 0 _ _ _ hrr; have m1 := cell_of_row _ _ 1 _ _ _ hrr; have n0 := lc1'.cells.1; have n1 := lc1'.cells.2; have qq := pair_put hrr (.string s) (.slice (some ⟨g2, 0, none⟩) L c2); have rq0 := cell_of_row _ _ 0 _ _ _ qq; have rq1 := cell_of_row _ _ 1 _ _ _ qq; clear hrr qq)
                  | (go_at_call_of 51 (Value.int .i64 (c2' : Int)); refine (HNY.out _).mono ?_; rintro e wc2' ⟨rfl, hbc2'⟩; have lc2' : Lin W w2.heap.size s g2 c2 L zs wc2' := Lin.call (by first | assumption | exact Lin.drew (by assumption) | exact Lin.drew (Lin.drew (by assumption))) hbc2'; have hrr := lc2'.ext.row R1.out; have f0 := frozen_of_row _ _ 0 _ _ hrr; have f1 := frozen_of_row _ _ 1 _ _ hrr; have m0 := cell_of_row _ _ 0 _ _ _ hrr; have m1 := cell_of_row _ _ 1 _ _ _ hrr; have n0 := lc2'.cells.1; have n1 := lc2'.cells.2; have qq := pair_put hrr (.string s) (.slice (some ⟨g2, 0, none⟩) L c2); have rq0 := cell_of_row _ _ 0 _ _ _ qq; have rq1 := cell_of_row _ _ 1 _ _ _ qq; clear hrr qq))
            all_goals
              go_wp2
              refine bodyPost_ret (v := .tuple #[.agg #[.string s, .slice (some ⟨g2, 0, none⟩) L c2], .string (u ++ ⟨#[44]⟩ ++ v)]) (by simp [results, Tryz.results22, go_sem, rq0, rq1]) rfl ?_
              rw [HT3.out]
              first | exact lin_done E0.out (by first | assumption | exact Lin.drew (by assumption)) HWS.out | exact line_drew (lin_done E0.out (by first | assumption | exact Lin.drew (by assumption)) HWS.out)
      · by_cases hB : p0 = numberWord ∧ j = 3
        · obtain ⟨hB1, rfl⟩ := hB
          rw [show decide (p0 = [99, 101, 108, 108]) = false from decide_eq_false (by rw [hB1]; decide)] at zc
          rw [show decide (p0 = [110, 117, 109, 98, 101, 114]) = true from decide_eq_true hB1] at zn
          match qs, HLEN, HALL, HTX1, hown with
          | [pa, pb, pd], _, HALL, HTX1, hown =>
            have hok2 := HALL.out
            simp only [List.all_cons, List.all_nil, Bool.and_true, Bool.and_eq_true] at hok2
            have hT1 : curveOf [p0, pa, pb, pd] = numbText (numVal pa) (numVal pb) (numVal pd) := if_pos ⟨hB1, hok2.1, hok2.2.1, hok2.2.2⟩
            have HT2 := HTX1.trans hT1
            have l00 := hown.cellAt 0 (by omega)
            have l01 := hown.cellAt 1 (by omega)
            have l02 := hown.cellAt 2 (by omega)
            have ha9 := num_four hok2.1
            have e0a : (intVals [pa, pb, pd])[0]? = some (.int .i64 (numVal pa : Nat)) := rfl
            have e1a : (intVals [pa, pb, pd])[1]? = some (.int .i64 (numVal pb : Nat)) := rfl
            have e2a : (intVals [pa, pb, pd])[2]? = some (.int .i64 (numVal pd : Nat)) := rfl
            rw [e0a] at l00
            rw [e1a] at l01
            rw [e2a] at l02
            obtain ⟨ia, hia⟩ : ∃ i, numVal pa = i := ⟨_, rfl⟩
            obtain ⟨ib, hib⟩ : ∃ i, numVal pb = i := ⟨_, rfl⟩
            obtain ⟨id', hid'⟩ : ∃ i, numVal pd = i := ⟨_, rfl⟩
            rw [hia] at l00 HT2 ha9
            rw [hib] at l01 HT2
            rw [hid'] at l02 HT2
            have hc := fun Y => specNumberOf ia ib id' ha9 Y
            unfold NumbOut at hc
            have hsm := numb_small ia ib id'
            unfold numbText at HT2
            obtain ⟨m, hmm⟩ : ∃ c, numbRes ia ib id' = c := ⟨_, rfl⟩
            rw [hmm] at HT2 hsm
            simp only [hmm] at hc
            have HC := Lib.hid hc
            obtain ⟨t, htt⟩ : ∃ t, toldText m (decide (0 ≤ m)) = t := ⟨_, rfl⟩
            have hy := fun Y => l12Told_any m (decide (0 ≤ m)) (by omega) (by omega) Y
            rw [htt] at HT2
            simp only [htt] at hy
            have HY := Lib.hid hy
            have HT3 := Lib.hid HT2
            clear hc hmm hia hib hid' e0a e1a e2a hT1 hok2 HTX1 HALL hown htt hy HT2
            go_upto_region 47 with (fail)
            go_region_held3 (fun w' => w'.cell? ⟨g, 0, none⟩ = some (.int .i64 (ia : Int)) ∧ w'.cell? ⟨g, 1, none⟩ = some (.int .i64 (ib : Int)) ∧ w'.cell? ⟨g, 2, none⟩ = some (.int .i64 (id' : Int)))
              (first
                | exact ⟨l00, l01, l02⟩
                | exact ⟨cell_keep hbA l00, cell_keep hbA l01, cell_keep hbA l02⟩)
              (first
                | (go_at_call 64; refine (HC.out _).mono ?_; rintro e wA ⟨rfl, hbA⟩; have lA : Lin W w2.heap.size s g2 c2 L zs wA := Lin.call (by first | assumption | exact Lin.drew (by assumption)) hbA; have hrr := lA.ext.row R1.out; have f0 := frozen_of_row _ _ 0 _ _ hrr; have f1 := frozen_of_row _ _ 1 _ _ hrr; have m0 := cell_of_row _ _ 0 _ _ _ hrr; have m1 := cell_of_row _ _ 1 _ _ _ hrr; have n0 := lA.cells.1; have n1 := lA.cells.2; have qq := pair_put hrr (.string s) (.slice (some ⟨g2, 0, none⟩) L c2); have rq0 := cell_of_row _ _ 0 _ _ _ qq; have rq1 := cell_of_row _ _ 1 _ _ _ qq; clear hrr qq))
            all_goals
              go_upto_region 48 with (fail)
              go_region_held3 (fun w' => w'.cell? ⟨w2.heap.size, 0, none⟩ = some (.string s) ∧ w'.cell? ⟨w2.heap.size, 1, none⟩ = some (.slice (some ⟨g2, 0, none⟩) L c2))
                (first
                  | exact Lin.cells (by assumption)
                  | exact (Lin.drew (by assumption)).cells
                  | exact (Lin.drew (Lin.drew (by assumption))).cells
                  | exact other_cells (by omega) (Lin.cells (by assumption)).1 (Lin.cells (by assumption)).2)
                (first
                  | (go_at_call 56; refine (HY.out _).mono ?_; rintro e wB ⟨rfl, hbB⟩; have lB : Lin W w2.heap.size s g2 c2 L zs wB := Lin.call (by first | assumption | exact Lin.drew (by assumption)) hbB; have hrr := lB.ext.row R1.out; have f0 := frozen_of_row _ _ 0 _ _ hrr; have f1 := frozen_of_row _ _ 1 _ _ hrr; have m0 := cell_of_row _ _ 0 _ _ _ hrr; have m1 := cell_of_row _ _ 1 _ _ _ hrr; have n0 := lB.cells.1; have n1 := lB.cells.2; have qq := pair_put hrr (.string s) (.slice (some ⟨g2, 0, none⟩) L c2); have rq0 := cell_of_row _ _ 0 _ _ _ qq; have rq1 := cell_of_row _ _ 1 _ _ _ qq; clear hrr qq))
            all_goals
              go_wp2
              refine bodyPost_ret (v := .tuple #[.agg #[.string s, .slice (some ⟨g2, 0, none⟩) L c2], .string t]) (by simp [results, Tryz.results22, go_sem, rq0, rq1]) rfl ?_
              rw [HT3.out]
              first | exact lin_done E0.out (by first | assumption | exact Lin.drew (by assumption)) HWS.out | exact line_drew (lin_done E0.out (by first | assumption | exact Lin.drew (by assumption)) HWS.out)
        · have HT2 := HTX1.trans (curve_not (fun h9 => hA ⟨h9.1, HLEN ▸ h9.2⟩) (fun h9 => hB ⟨h9.1, HLEN ▸ h9.2⟩))
          have HT3 : Hid (curveText X.data.toList = ⟨#[119, 104, 97, 116]⟩) := HT2
          clear HT2 HTX1 HALL hown
          by_cases hC : p0 = cellWord
          · have hj2 : ((j : Int) == 2) = false := beq_false_of_ne (fun e => hA ⟨hC, by omega⟩)
            have hj2' : ¬ (j : Int) = 2 := fun e => hA ⟨hC, by omega⟩
            rw [show decide (p0 = [99, 101, 108, 108]) = true from decide_eq_true hC] at zc
            rw [show decide (p0 = [110, 117, 109, 98, 101, 114]) = false from decide_eq_false (by rw [hC]; decide)] at zn
            go_wp2
            refine bodyPost_ret (v := .tuple #[.agg #[.string s, .slice (some ⟨g2, 0, none⟩) L c2], .string ⟨#[119, 104, 97, 116]⟩]) (by simp [results, Tryz.results22, go_sem, rq0, rq1]) rfl ?_
            rw [HT3.out]
            first | exact lin_done E0.out (by first | assumption | exact Lin.drew (by assumption)) HWS.out | exact line_drew (lin_done E0.out (by first | assumption | exact Lin.drew (by assumption)) HWS.out)
          · rw [show decide (p0 = [99, 101, 108, 108]) = false from decide_eq_false hC] at zc
            by_cases hD : p0 = numberWord
            · have hj2 : ((j : Int) == 3) = false := beq_false_of_ne (fun e => hB ⟨hD, by omega⟩)
              have hj2' : ¬ (j : Int) = 3 := fun e => hB ⟨hD, by omega⟩
              rw [show decide (p0 = [110, 117, 109, 98, 101, 114]) = true from decide_eq_true hD] at zn
              go_wp2
              refine bodyPost_ret (v := .tuple #[.agg #[.string s, .slice (some ⟨g2, 0, none⟩) L c2], .string ⟨#[119, 104, 97, 116]⟩]) (by simp [results, Tryz.results22, go_sem, rq0, rq1]) rfl ?_
              rw [HT3.out]
              first | exact lin_done E0.out (by first | assumption | exact Lin.drew (by assumption)) HWS.out | exact line_drew (lin_done E0.out (by first | assumption | exact Lin.drew (by assumption)) HWS.out)
            · rw [show decide (p0 = [110, 117, 109, 98, 101, 114]) = false from decide_eq_false hD] at zn
              go_wp2
              refine bodyPost_ret (v := .tuple #[.agg #[.string s, .slice (some ⟨g2, 0, none⟩) L c2], .string ⟨#[119, 104, 97, 116]⟩]) (by simp [results, Tryz.results22, go_sem, rq0, rq1]) rfl ?_
              rw [HT3.out]
              first | exact lin_done E0.out (by first | assumption | exact Lin.drew (by assumption)) HWS.out | exact line_drew (lin_done E0.out (by first | assumption | exact Lin.drew (by assumption)) HWS.out)

end Go.Proofs.YtccdfndnjjjgfaaGreatDoor

namespace Go.Proofs.YtccdfndnjjjgfaaGreatDoor
open Go.RowKit

noncomputable def sayStep (st : (ByteArray × List ByteArray) × List ByteArray) (X : ByteArray) : (ByteArray × List ByteArray) × List ByteArray := ((lineOf st.1.1 st.1.2 X).1, st.2 ++ [(lineOf st.1.1 st.1.2 X).2])
noncomputable def sayTo (s : ByteArray) (zs : List ByteArray) (ls : List ByteArray) : (ByteArray × List ByteArray) × List ByteArray := ls.foldl sayStep ((s, zs), [])
noncomputable def deskSay (s : ByteArray) (zs : List ByteArray) (ls : List ByteArray) : (ByteArray × List ByteArray) × List ByteArray := if deskOk s zs = true ∧ ls.length ≤ 40 then sayTo s zs ls else ((⟨#[]⟩, []), [])
theorem line_ok {s : ByteArray} {zs : List ByteArray} (h : deskOk s zs = true) (X : ByteArray) : deskOk (lineOf s zs X).1.1 (lineOf s zs X).1.2 = true := by
  unfold lineOf
  split
  · exact deskOk_done h _ _
  · exact h
theorem sayTo_succ {s : ByteArray} {zs : List ByteArray} {ls : List ByteArray} {j : Nat} {d : ByteArray} (h : ls[j]? = some d) : sayTo s zs (ls.take (j + 1)) = sayStep (sayTo s zs (ls.take j)) d := by
  unfold sayTo
  have hj : j < ls.length := by
    rcases Nat.lt_or_ge j ls.length with h1 | h1
    · exact h1
    · rw [List.getElem?_eq_none h1] at h
      cases h
  have hg : ls[j] = d := by
    rw [List.getElem?_eq_getElem hj] at h
    exact Option.some.inj h
  rw [List.take_succ_eq_append_getElem hj, List.foldl_append, hg]
  rfl
theorem say_from (ls : List ByteArray) : ∀ (st : (ByteArray × List ByteArray) × List ByteArray), ls.foldl sayStep st = ((ls.foldl sayStep (st.1, [])).1, st.2 ++ (ls.foldl sayStep (st.1, [])).2) := by
  induction ls with
  | nil => intro st; simp
  | cons X ls ih =>
    intro st
    rw [List.foldl_cons, List.foldl_cons, ih (sayStep st X), ih (sayStep (st.1, []) X)]
    unfold sayStep
    simp
/-- Two parts of the lines, one after the other. -/
theorem say_parts (s : ByteArray) (zs : List ByteArray) (xs ys : List ByteArray) : sayTo s zs (xs ++ ys) = ((sayTo (sayTo s zs xs).1.1 (sayTo s zs xs).1.2 ys).1, (sayTo s zs xs).2 ++ (sayTo (sayTo s zs xs).1.1 (sayTo s zs xs).1.2 ys).2) := by
  unfold sayTo
  rw [List.foldl_append, say_from ys]
theorem say_ok {s : ByteArray} {zs : List ByteArray} (h : deskOk s zs = true) (ls : List ByteArray) : deskOk (sayTo s zs ls).1.1 (sayTo s zs ls).1.2 = true ∧ (sayTo s zs ls).2.length = ls.length := by
  have gen : ∀ (ls : List ByteArray) (st : (ByteArray × List ByteArray) × List ByteArray), deskOk st.1.1 st.1.2 = true → deskOk (ls.foldl sayStep st).1.1 (ls.foldl sayStep st).1.2 = true ∧ (ls.foldl sayStep st).2.length = st.2.length + ls.length := by
    intro ls
    induction ls with
    | nil => intro st hst; exact ⟨hst, rfl⟩
    | cons X ls ih =>
      intro st hst
      have h2 := ih (sayStep st X) (line_ok hst X)
      rw [List.foldl_cons]
      refine ⟨h2.1, ?_⟩
      rw [h2.2]
      unfold sayStep
      simp
      omega
  have := gen ls ((s, zs), []) h
  unfold sayTo
  simpa using this
/-- No answer is empty, and none is long. -/
theorem num_some (n : Int) : 0 < (numText n).size := by
  unfold numText
  rw [Tw.str_size]
  unfold Lib.itoa
  split
  · simp
  · have : Lib.decDigits n.toNat ≠ [] := by
      rw [Lib.decDigits]
      split <;> simp
    exact List.length_pos_iff.2 this
theorem told_some (n : Int) (b : Bool) : 0 < (toldText n b).size := by
  unfold toldText
  split
  · exact num_some n
  · exact (by decide : 0 < noneText.size)
theorem pair_some (a b : Int) : 0 < (pairText a b).size := by
  unfold pairText
  have := num_some a
  simp only [ByteArray.size_append]
  omega
theorem yes_some (b : Bool) : 0 < (yesText b).size := by cases b <;> decide
theorem okWord_some (b : Bool) : 0 < (okWord b).size := by cases b <;> decide
theorem ask_some (k : Nat) (s : ByteArray) : 0 < (askText k s).size := by
  unfold askText
  repeat' split
  all_goals first
    | exact told_some _ _
    | exact yes_some _
    | exact pair_some _ _
    | (rw [ByteArray.size_append]; have : (⟨#[58]⟩ : ByteArray).size = 1 := rfl; omega)
theorem cellText_some (a b : Nat) : 0 < (cellText a b).size := by
  unfold cellText
  split
  · exact pair_some _ _
  · decide
theorem curve_some (ps : List (List UInt8)) : 0 < (curveOf ps).size := by
  unfold curveOf
  split
  · split
    · exact cellText_some _ _
    · decide
  · split
    · exact told_some _ _
    · decide
  · decide
theorem line_some (s : ByteArray) (zs : List ByteArray) (X : ByteArray) : 0 < (lineOf s zs X).2.size := by
  unfold lineOf
  split
  · exact okWord_some _
  · show 0 < (answerOf s X).size
    unfold answerOf
    split
    · exact ask_some _ _
    · exact curve_some _
theorem say_some (s : ByteArray) (zs ls : List ByteArray) : ∀ t ∈ (sayTo s zs ls).2, 0 < t.size := by
  have gen : ∀ (ls : List ByteArray) (st : (ByteArray × List ByteArray) × List ByteArray), (∀ t ∈ st.2, 0 < t.size) → ∀ t ∈ (ls.foldl sayStep st).2, 0 < t.size := by
    intro ls
    induction ls with
    | nil => intro st hst; exact hst
    | cons X ls ih =>
      intro st hst
      rw [List.foldl_cons]
      refine ih (sayStep st X) fun t ht => ?_
      rcases List.mem_append.1 ht with ht | ht
      · exact hst t ht
      · rw [List.mem_singleton.1 ht]
        exact line_some _ _ _
  exact gen ls ((s, zs), []) (by simp)
end Go.Proofs.YtccdfndnjjjgfaaGreatDoor

namespace Go.Proofs.YtccdfndnjjjgfaaGreatDoor
open Go.RowKit

theorem askAt_lt {X : ByteArray} {k : Nat} (h : askAt X = some k) : k < 9 ∧ askWords.getD k ⟨#[]⟩ = X := by
  unfold askAt at h
  obtain ⟨hk, h2, _⟩ := List.findIdx?_eq_some_iff_getElem.1 h
  exact ⟨hk, by rw [List.getD_eq_getElem?_getD, List.getElem?_eq_getElem hk]; exact of_decide_eq_true h2⟩
theorem readOf_false {l : List UInt8} (h : (readOf l).2 = false) : readOf l = ((0, 0), false) := by
  unfold readOf at *
  split at h
  · cases h
  · rename_i hx
    rw [dif_neg hx]
theorem readOf_small {l : List UInt8} (h : (readOf l).2 = true) : -9223372036854775808 ≤ (readOf l).1.2 ∧ (readOf l).1.2 ≤ 9223372036854775807 := by
  obtain ⟨h0, h1⟩ := readOf_text h
  have h2 := told_of (k := (readOf l).1.1) (n := (readOf l).1.2) (by rw [h1]; exact h0)
  unfold told at h2
  omega
theorem lineOf_deed {s : ByteArray} {zs : List ByteArray} {X : ByteArray} (h : (readOf X.data.toList).2 = true) : lineOf s zs X = (((deskDone s zs (readOf X.data.toList).1.1 (readOf X.data.toList).1.2).1, (deskDone s zs (readOf X.data.toList).1.1 (readOf X.data.toList).1.2).2.1), okWord (deskDone s zs (readOf X.data.toList).1.1 (readOf X.data.toList).1.2).2.2) := if_pos h
theorem lineOf_else {s : ByteArray} {zs : List ByteArray} {X : ByteArray} (h : (readOf X.data.toList).2 = false) : lineOf s zs X = ((s, zs), answerOf s X) := if_neg (by rw [h]; simp)
theorem answer_ask {s X : ByteArray} {k : Nat} (h : askAt X = some k) : answerOf s X = askText k s := by unfold answerOf; rw [h]
theorem answer_curve {s X : ByteArray} (h : askAt X = none) : answerOf s X = curveText X.data.toList := by unfold answerOf; rw [h]

/-- The tables, as laid. -/
structure TabsAt (w : World) : Prop where
  ways : WaysAt w
  dirs : DirsAt w
  words : WordsAt w
  max : MaxAt w
  pow : PowAt w
theorem TabsAt.below' {w w' : World} (h : TabsAt w) (hb : Below w.heap.size w w') : TabsAt w' := ⟨h.ways.below' hb, h.dirs.below' hb, h.words.below' hb, h.max.below' hb, h.pow.below' hb⟩
theorem implLine_ok (s : ByteArray) (v : Value) (zs : List ByteArray) (X : ByteArray) (w : World) (h : PastAt w v zs) (hok : deskOk s zs = true) (hX : X.size ≤ 1048576) (ht : TabsAt w) :
    Calls Tryz.prog 21 #[.agg #[.string s, v], .string X] w (LineOut w (lineOf s zs X).1.1 (lineOf s zs X).1.2 (lineOf s zs X).2) := by
  obtain ⟨a, c, rfl⟩ := past_value h
  cases hr : (readOf X.data.toList).2
  · rw [lineOf_else hr]
    cases hat : askAt X with
    | none =>
      rw [answer_curve hat]
      exact implLine_curve s a c zs.length zs X w h (Lib.hid rfl) (Lib.hid hok) hX (Lib.hid (readOf_false hr)) ht.words ht.max ht.pow hat _ rfl
    | some k =>
      rw [answer_ask hat]
      exact implLine_ask s a c zs.length zs X w h (Lib.hid rfl) (Lib.hid hok) hX (Lib.hid (readOf_false hr)) ht.dirs ht.words ht.max ht.pow k (askAt_lt hat).1 hat _ rfl
  · rw [lineOf_deed hr]
    exact implLine_deed s a c zs.length zs X _ _ w h (Lib.hid hok) hX (Lib.hid (Prod.ext (Prod.ext rfl rfl) hr)) _ _ _ (Lib.hid rfl) ht.ways ht.dirs ht.words ht.max
set_option maxRecDepth 100000 in
set_option maxHeartbeats 800000 in
theorem implLine_none (s : ByteArray) (a : Option Addr) (c L : Nat) (zs : List ByteArray) (X : ByteArray) (w : World) (h : StrsAt w (.slice a L c) zs) (HL : Hid (zs.length = L)) (hs : s.size ≤ 1048576) (hL : L ≤ 1048576) (hz : ∀ z ∈ zs, z.size ≤ 1048576) (hok : deskOk s zs = false) :
    Calls Tryz.prog 21 #[.agg #[.string s, .slice a L c], .string X] w (LineOut w ⟨#[]⟩ [] ⟨#[]⟩) := by
  obtain ⟨e0, hsz, r0, r1⟩ := desk2_in w s (.slice a L c)
  obtain ⟨W, hW⟩ : ∃ W, deskBox2 w s (.slice a L c) = W := ⟨_, rfl⟩
  rw [hW] at e0 hsz r0 r1
  unfold deskBox2 at hW
  have HW := Lib.hid hW
  have HDK := Lib.hid (deskOk_namedI s (.slice a L c) zs W (e0.strs h) hs (by rw [HL.out]; exact hL) hz false hok)
  have R1 := Lib.hid r1
  have c0 := cell_of_row _ _ 0 _ _ _ r0
  have c1 := cell_of_row _ _ 1 _ _ _ r0
  clear hW r0 r1 h hok hz
  go_enter Tryz.func21, Tryz.ntmps21
  go_wp2_with fail
  rw [HW.out]
  go_wp2_with (first
    | (go_at_call 27; refine HDK.out.mono ?_; rintro e w1 ⟨rfl, hb1⟩; have e1 : Ext W w1 := hb1; have hr := e1.row R1.out; have f0 := frozen_of_row _ _ 0 _ _ hr; have f1 := frozen_of_row _ _ 1 _ _ hr; have k0 := cell_of_row _ _ 0 _ _ _ hr; have k1 := cell_of_row _ _ 1 _ _ _ hr; have q := pair_put hr (.string ⟨#[]⟩) (.slice none 0 0); have q0 := cell_of_row _ _ 0 _ _ _ q; have q1 := cell_of_row _ _ 1 _ _ _ q; clear hr q hb1))
  refine bodyPost_ret (v := .tuple #[.agg #[.string ⟨#[]⟩, .slice none 0 0], .string ⟨#[]⟩]) (by simp [results, Tryz.results21, go_sem, q0, q1]) rfl ?_
  exact line_done (R := w.heap.size + 1) (e0.trans e1) (.inl ⟨rfl, rfl⟩) (Fresh.none _) (fun h9 => by cases h9) (by omega)
theorem implLine (s : ByteArray) (v : Value) (zs : List ByteArray) (X : ByteArray) (w : World) (h : PastAt w v zs) (hs : s.size ≤ 1048576) (hL : zs.length ≤ 1048576) (hz : ∀ z ∈ zs, z.size ≤ 1048576) (hX : X.size ≤ 1048576) (ht : TabsAt w) :
    Calls Tryz.prog 21 #[.agg #[.string s, v], .string X] w (LineOut w (deskLine s zs X).1.1 (deskLine s zs X).1.2 (deskLine s zs X).2) := by
  cases hok : deskOk s zs
  · obtain ⟨a, c, rfl⟩ := past_value h
    rw [show deskLine s zs X = ((⟨#[]⟩, []), ⟨#[]⟩) from if_neg (by rw [hok]; simp)]
    exact implLine_none s a c zs.length zs X w h.strs (Lib.hid rfl) hs hL hz hok
  · rw [show deskLine s zs X = lineOf s zs X from if_pos hok]
    exact implLine_ok s v zs X w h hok hX ht
theorem specLine_ok (s : ByteArray) (v : Value) (zs : List ByteArray) (X : ByteArray) (w : World) (h : StrsAt w v zs) (hok : deskOk s zs = true) (hX : X.size ≤ 1048576) :
    Calls Tryz.prog 22 #[.agg #[.string s, v], .string X] w (LineOut w (lineOf s zs X).1.1 (lineOf s zs X).1.2 (lineOf s zs X).2) := by
  obtain ⟨a, c, rfl⟩ := strs_value h
  cases hr : (readOf X.data.toList).2
  · rw [lineOf_else hr]
    cases hat : askAt X with
    | none =>
      rw [answer_curve hat]
      exact specLine_curve s a c zs.length zs X w h (Lib.hid rfl) (Lib.hid hok) hX (Lib.hid (readOf_false hr)) hat
    | some k =>
      rw [answer_ask hat]
      exact specLine_ask s a c zs.length zs X w h (Lib.hid rfl) (Lib.hid hok) hX (Lib.hid (readOf_false hr)) k (askAt_lt hat).1 (askAt_lt hat).2
  · rw [lineOf_deed hr]
    exact specLine_deed s a c zs.length zs X _ _ w h (Lib.hid rfl) (Lib.hid hok) hX (Lib.hid (Prod.ext (Prod.ext rfl rfl) hr)) _ _ _ (Lib.hid rfl) (readOf_small hr)
theorem specLine (s : ByteArray) (v : Value) (zs : List ByteArray) (X : ByteArray) (w : World) (h : StrsAt w v zs) (hs : s.size ≤ 1048576) (hL : zs.length ≤ 1048576) (hz : ∀ z ∈ zs, z.size ≤ 1048576) (hX : X.size ≤ 1048576) :
    Calls Tryz.prog 22 #[.agg #[.string s, v], .string X] w (LineOut w (deskLine s zs X).1.1 (deskLine s zs X).1.2 (deskLine s zs X).2) := by
  cases hok : deskOk s zs
  · obtain ⟨a, c, rfl⟩ := strs_value h
    rw [show deskLine s zs X = ((⟨#[]⟩, []), ⟨#[]⟩) from if_neg (by rw [hok]; simp)]
    exact specLine_none s a c zs.length zs X w h (Lib.hid rfl) hs hL hz hok
  · rw [show deskLine s zs X = lineOf s zs X from if_pos hok]
    exact specLine_ok s v zs X w h hok hX

end Go.Proofs.YtccdfndnjjjgfaaGreatDoor

namespace Go.Proofs.YtccdfndnjjjgfaaGreatDoor
open Go.RowKit

theorem past_grown2 {X X' : World} {v : Value} {zs : List ByteArray} {row : Option Nat} (h : PastAt X v zs) (hg : X.grownBy X' row) (hne : ∀ b, v.ownBlock = some b → row ≠ some b) : PastAt X' v zs := by
  rcases h with h | ⟨g, off, cap, cur, rfl, hl, hh, hc, hz⟩
  · exact .inl h
  · exact .inr ⟨g, off, cap, cur, rfl, hl, (hg.block g (lt_at hh) (fun e => hne g rfl e.symm)).trans hh, hc, hz⟩
/-- The box O holds a desk; o are answers. -/
structure Sy (W : World) (O : Nat) (x : ByteArray) (v : Value) (ys : List ByteArray) (o : Value) (ts : List ByteArray) (Y : World) : Prop where
  ext : Ext W Y
  row : Y.heap[O]? = some (.cells #[.string x, v] 27 (0, 0))
  past : PastAt Y v ys
  fresh : Fresh W.heap.size v
  high : W.heap.size ≤ O
  own : Y.ownsRow W.heap.size 9 1 o ts.length (strVals ts)
  nev : ∀ b, v.ownBlock = some b → o.ownBlock ≠ some b
  neo : o.ownBlock ≠ some O
variable {W Y Z : World} {O : Nat} {x : ByteArray} {v o : Value} {ys ts : List ByteArray}
theorem Sy.call (h : Sy W O x v ys o ts Y) (hb : Below Y.heap.size Y Z) : Sy W O x v ys o ts Z := ⟨h.ext.call hb, Ext.row hb h.row, Ext.past hb h.past, h.fresh, h.high, own_below h.own hb, h.nev, h.neo⟩
theorem Sy.cells (h : Sy W O x v ys o ts Y) : Y.cell? ⟨O, 0, none⟩ = some (.string x) ∧ Y.cell? ⟨O, 1, none⟩ = some v := ⟨cell_of_row _ _ 0 _ _ _ h.row, cell_of_row _ _ 1 _ _ _ h.row⟩
theorem sy_own_lt (h : Sy W O x v ys o ts Y) {b : Nat} (hb : o.ownBlock = some b) : b < Y.heap.size := (h.own.lt b hb).2
/-- Another desk is put into the box: its walks of before are younger than the answers. -/
theorem Sy.put {x1 : ByteArray} {v1 : Value} {y1 : List ByteArray} (h : Sy W O x v ys o ts Y) (hp : PastAt Y v1 y1) (hf : Fresh W.heap.size v1) (hn : ∀ b, v1.ownBlock = some b → o.ownBlock ≠ some b) (hO : v1.ownBlock ≠ some O) : Sy W O x1 v1 y1 o ts ((Y.setCell ⟨O, 0, none⟩ (.string x1)).setCell ⟨O, 1, none⟩ v1) :=
  ⟨h.ext.setCell2 h.high _ _, pair_put h.row _ _, past_put (past_put hp _ _ hO) _ _ hO, hf, h.high, own_put (own_put h.own _ _ h.neo) _ _ h.neo, hn, h.neo⟩
/-- One answer more. -/
theorem Sy.more {g c n : Nat} {t : ByteArray} (h : Sy W O x v ys o ts Y) (hg : Y.grownBy Z o.ownBlock) (hown : Z.ownsRow W.heap.size 9 1 (.slice (some ⟨g, 0, none⟩) n c) n (strVals ts ++ [.string t])) (hn : n = ts.length + 1) (hgg : o.ownBlock = some g ∨ g = Y.heap.size) : Sy W O x v ys (.slice (some ⟨g, 0, none⟩) n c) (ts ++ [t]) Z := by
  have hb : Below W.heap.size W Z := Below.grown h.ext hg h.ext.size (fun b e => (h.own.lt b e).1)
  have hO := lt_at h.row
  refine ⟨hb, (hg.block _ hO (fun e => h.neo e.symm)).trans h.row, ?_, h.fresh, h.high, ?_, ?_, ?_⟩
  · exact past_grown2 h.past hg h.nev
  · have e1 : (ts ++ [t]).length = n := by rw [List.length_append, hn]; rfl
    have e2 : strVals (ts ++ [t]) = strVals ts ++ [.string t] := by unfold strVals; rw [List.map_append]; rfl
    rw [e1, e2]
    exact hown
  · intro b e e2
    have e3 : g = b := Option.some.inj e2
    subst e3
    rcases hgg with hgg | hgg
    · exact h.nev _ e hgg
    · have := past_lt h.past e
      omega
  · intro e2
    have e3 : g = O := Option.some.inj e2
    subst e3
    rcases hgg with hgg | hgg
    · exact h.neo hgg
    · omega

end Go.Proofs.YtccdfndnjjjgfaaGreatDoor

namespace Go.Proofs.YtccdfndnjjjgfaaGreatDoor
open Go.RowKit

theorem strs_parts {w : World} {u : Value} {ls : List ByteArray} (h : StrsAt w u ls) : ∃ a c, u = .slice a ls.length c ∧ ls.length ≤ c ∧ ∀ (j : Nat) (z : ByteArray), ls[j]? = some z → ∃ b, a = some b ∧ w.cell? (b.add j) = some (.string z) := by
  rcases h with ⟨rfl, rfl⟩ | ⟨a, cap, rfl, hl, hc⟩
  · exact ⟨none, 0, rfl, Nat.le_refl _, fun j d h => by simp at h⟩
  · exact ⟨some a, cap, rfl, hl, fun j d h => ⟨a, rfl, hc j d h⟩⟩
def SayOut (w : World) (r : (ByteArray × List ByteArray) × List ByteArray) (e : Ending) (w' : World) : Prop := ∃ v' u', e = .returned (.tuple #[.agg #[.string r.1.1, v'], u']) ∧ PastAt w' v' r.1.2 ∧ Fresh w.heap.size v' ∧ PastAt w' u' r.2 ∧ Fresh w.heap.size u' ∧ (∀ b, v'.ownBlock = some b → u'.ownBlock ≠ some b) ∧ Below w.heap.size w w'
theorem say_fin {w X : World} {R : Nat} {x : ByteArray} {v u : Value} {ys ts : List ByteArray} {r : (ByteArray × List ByteArray) × List ByteArray} (e : Ext w X) (hp : PastAt X v ys) (hf : Fresh w.heap.size v) (hne : v.ownBlock ≠ some R) (hu : PastAt X u ts) (hfu : Fresh w.heap.size u) (hnu : u.ownBlock ≠ some R) (hR : w.heap.size ≤ R)
    (hn : ∀ b, v.ownBlock = some b → u.ownBlock ≠ some b) (hr : r = ((x, ys), ts)) : SayOut w r (.returned (.tuple #[.agg #[.string x, v], u])) ((X.setCell ⟨R, 0, none⟩ (.string x)).setCell ⟨R, 1, none⟩ v) := by
  subst hr
  exact ⟨_, _, rfl, past_put (past_put hp _ _ hne) _ _ hne, hf, past_put (past_put hu _ _ hnu) _ _ hnu, hfu, hn, (e.setCell hR _).setCell hR _⟩

set_option maxRecDepth 100000 in
set_option maxHeartbeats 800000 in
theorem implDeskSay_no (s : ByteArray) (a : Option Addr) (c L : Nat) (zs : List ByteArray) (b : Option Addr) (cb n : Nat) (w : World) (h : StrsAt w (.slice a L c) zs) (HL : Hid (zs.length = L)) (hs : s.size ≤ 1048576) (hL : L ≤ 1048576) (hz : ∀ z ∈ zs, z.size ≤ 1048576) (hn : n ≤ 1048576) (t : Bool) (hok : deskOk s zs = t) (hno : t = false ∨ (t = true ∧ 40 < n)) :
    Calls Tryz.prog 13 #[.agg #[.string s, .slice a L c], .slice b n cb] w (SayOut w ((⟨#[]⟩, []), [])) := by
  obtain ⟨e0, hsz, r0, r1⟩ := desk2_in w s (.slice a L c)
  obtain ⟨W, hW⟩ : ∃ W, deskBox2 w s (.slice a L c) = W := ⟨_, rfl⟩
  rw [hW] at e0 hsz r0 r1
  unfold deskBox2 at hW
  have HW := Lib.hid hW
  have HDK := Lib.hid (deskOk_namedI s (.slice a L c) zs W (e0.strs h) hs (by rw [HL.out]; exact hL) hz t hok)
  have R1 := Lib.hid r1
  have c0 := cell_of_row _ _ 0 _ _ _ r0
  have c1 := cell_of_row _ _ 1 _ _ _ r0
  clear hW r0 r1 h hok hz
  rcases hno with rfl | ⟨rfl, h40⟩
  all_goals
    go_enter Tryz.func13, Tryz.ntmps13
    go_wp2_with fail
    rw [HW.out]
    go_wp2_with (first
      | (go_at_call 27; refine HDK.out.mono ?_; rintro e w1 ⟨rfl, hb1⟩; have e1 : Ext W w1 := hb1; have hr := e1.row R1.out; have f0 := frozen_of_row _ _ 0 _ _ hr; have f1 := frozen_of_row _ _ 1 _ _ hr; have k0 := cell_of_row _ _ 0 _ _ _ hr; have k1 := cell_of_row _ _ 1 _ _ _ hr; have q := pair_put hr (.string ⟨#[]⟩) (.slice none 0 0); have q0 := cell_of_row _ _ 0 _ _ _ q; have q1 := cell_of_row _ _ 1 _ _ _ q; clear hr q hb1))
    refine bodyPost_ret (v := .tuple #[.agg #[.string ⟨#[]⟩, .slice none 0 0], .slice none 0 0]) (by simp [results, Tryz.results13, go_sem, q0, q1]) rfl ?_
    exact say_fin (e0.trans e1) (.inl ⟨rfl, rfl⟩) (Fresh.none _) (fun h9 => by cases h9) (.inl ⟨rfl, rfl⟩) (Fresh.none _) (fun h9 => by cases h9) (by omega) (fun b hb => by cases hb) rfl
set_option maxRecDepth 100000 in
set_option maxHeartbeats 3200000 in
theorem implDeskSay_yes (s : ByteArray) (a : Option Addr) (c L : Nat) (zs : List ByteArray) (b : Option Addr) (cb n : Nat) (w : World) (HL : Hid (zs.length = L)) (ls : List ByteArray) (HN : Hid (ls.length = n)) (hn : n ≤ 40) (hncb : n ≤ cb) (HC : Hid (∀ (j : Nat) (d : ByteArray), ls[j]? = some d → ∃ b', b = some b' ∧ w.cell? (b'.add j) = some (.string d))) (HLZ : Hid (∀ d ∈ ls, d.size ≤ 1048576)) (hok : Hid (deskOk s zs = true)) (ht : TabsAt w) (hp : PastAt w (.slice a L c) zs) :
    Calls Tryz.prog 13 #[.agg #[.string s, .slice a L c], .slice b n cb] w (SayOut w (sayTo s zs ls)) := by
  obtain ⟨i0, hi0, hz0, hz1, hz2⟩ := info_parts stringInfo
  obtain ⟨hs1, h8, hz⟩ := deskOk_parts hok.out
  have hL8 : L ≤ 8 := by have := HL.out; omega
  obtain ⟨e0, hsz, r0, r1⟩ := desk2_in w s (.slice a L c)
  obtain ⟨W, hW⟩ : ∃ W, deskBox2 w s (.slice a L c) = W := ⟨_, rfl⟩
  rw [hW] at e0 hsz r0 r1
  unfold deskBox2 at hW
  have HW := Lib.hid hW
  have HWS := Lib.hid hsz
  have HDK := Lib.hid (deskOk_namedI s (.slice a L c) zs W (e0.strs hp.strs) (by have := ok_size hs1; omega) (by omega) (fun z hz9 => by have := ok_size (hz z hz9); omega) true hok.out)
  have R0 := Lib.hid r0
  have R1 := Lib.hid r1
  have c0 := cell_of_row _ _ 0 _ _ _ r0
  have c1 := cell_of_row _ _ 1 _ _ _ r0
  have HT := Lib.hid (ht.below' e0)
  have HCP : Hid (∀ Y, Ext W Y → Calls Tryz.prog 39 #[.agg #[.string s, .slice a L c]] Y fun e w' => ∃ a2 c2, e = .returned (.agg #[.string s, .slice a2 L c2]) ∧ PastAt w' (.slice a2 L c2) zs ∧ Fresh W.heap.size (.slice a2 L c2) ∧ Ext W w') := fun Y hY => by
    refine (copied_any s (.slice a L c) zs Y ((e0.trans hY).past hp) (by omega)).mono ?_
    rw [HL.out]
    rintro e w' ⟨a2, c2, he, hp2, hf2, hb2⟩
    exact ⟨a2, c2, he, hp2, fresh_ext hY hf2, hY.call hb2⟩
  have E0 := Lib.hid e0
  clear hW r0 r1 hp ht hz h8 hs1 e0 hsz
  go_enter Tryz.func13, Tryz.ntmps13
  go_wp2_with fail
  rw [HW.out]
  go_wp2_with (first
    | (go_at_call 27; refine HDK.out.mono ?_; rintro e w1 ⟨rfl, hb1⟩; have e1 : Ext W w1 := hb1; have hr := e1.row R0.out; have k0 := cell_of_row _ _ 0 _ _ _ hr; have k1 := cell_of_row _ _ 1 _ _ _ hr; clear hr hb1)
    | (go_at_call 39; refine (HCP.out w1 e1).mono ?_; rintro e w2 ⟨a2, c2, rfl, hp2, hf2, e2⟩)
    | (at_make; refine wpList_make_own _ rfl _ _ 22 rfl (w2.heap.size + 1) 9 i0 _ 1 Tryz.underlying22 hi0 hz0 hz1 .i64 .i64 _ n rfl rfl rfl (by rw [hz2]; omega) (by unfold maxLen; omega) (by simp) ?_; intro w4 hown4 hg4))
  have hlow := Lib.hid (e2.size)
  have hsy : Sy W w2.heap.size s (.slice a2 L c2) zs (.slice (some ⟨w2.heap.size + 1, 0, none⟩) 0 n) [] w4 := by
    have e3 : Ext W (w2.alloc (.cells #[.string s, .slice a2 L c2] 27)) := e2.alloc _
    have e4 : Ext (w2.alloc (.cells #[.string s, .slice a2 L c2] 27)) w4 := (Ext.refl _).grown hg4 (Nat.le_refl _) (fun k hk => by cases hk)
    refine ⟨e3.trans e4, e4.row (heap_alloc_new w2 _), e4.past (((Ext.refl w2).alloc _).past hp2), hf2, e2.size, ?_, ?_, ?_⟩
    · exact World.ownsRow.mono (by simpa [strVals] using hown4) (by have := e2.size; omega)
    · intro b9 h9 h8
      have h7 : w2.heap.size + 1 = b9 := Option.some.inj h8
      have := past_lt hp2 h9
      omega
    · intro h8
      have h7 : w2.heap.size + 1 = w2.heap.size := Option.some.inj h8
      omega
  obtain ⟨O, hO⟩ : ∃ O, w2.heap.size = O := ⟨_, rfl⟩
  rw [hO] at hsy ⊢
  have HSY := Lib.hid hsy
  have hOl : w.heap.size + 1 < O := by have := hlow.out; have := HWS.out; omega
  clear hsy hO hown4 hg4 hp2 hf2 k0 k1
  go_loopw [7, 28] (fun o i wr => ∃ (k : Nat) (x : ByteArray) (v : Value) (ys ts : List ByteArray) (g cap : Nat), k ≤ n ∧ i = .int .i64 k ∧ o = .slice (some ⟨g, 0, none⟩) k cap ∧ Hid (ts.length = k) ∧ Hid (sayTo s zs (ls.take k) = ((x, ys), ts)) ∧ Hid (Sy W O x v ys o ts wr) ∧ Hid (deskOk x ys = true)) (fun _ i _ => n - (intOf i).toNat)
  case atStart => exact ⟨0, s, _, zs, [], _, _, Nat.zero_le _, rfl, rfl, rfl, rfl, HSY.out, hok.out⟩
  case round =>
    obtain ⟨k, x, vx, ys, ts, g, cap, hk, rfl, rfl, HTL, HSAY, HB, HOK⟩ := hrel
    obtain ⟨ax, cx, hvx⟩ := past_value HB.out.past
    subst hvx
    obtain ⟨o0, o1⟩ := HB.out.cells
    have er : Ext W wr := HB.out.ext
    have hrr := er.row R1.out
    have HRR := Lib.hid hrr
    clear hrr
    by_cases hlt : k < n
    · obtain ⟨d, hd⟩ : ∃ d, ls[k]? = some d := ⟨ls[k]'(by rw [HN.out]; exact hlt), List.getElem?_eq_getElem (by rw [HN.out]; exact hlt)⟩
      obtain ⟨b', rfl, hc0⟩ := HC.out k d hd
      have hk3 : (0 : Int) ≤ (k : Int) := by omega
      have hk4 : (k : Int) < (n : Int) := by omega
      have l0 := cell_keep (E0.out.trans er) hc0
      have HTN := Lib.hid (sayTo_succ (s := s) (zs := zs) hd)
      have hlok := line_ok HOK.out d
      obtain ⟨x1, h1⟩ : ∃ x1, (lineOf x ys d).1.1 = x1 := ⟨_, rfl⟩
      obtain ⟨y1, h2⟩ : ∃ x1, (lineOf x ys d).1.2 = x1 := ⟨_, rfl⟩
      obtain ⟨t1, h3⟩ : ∃ x1, (lineOf x ys d).2 = x1 := ⟨_, rfl⟩
      rw [h1, h2] at hlok
      have hstep : sayStep ((x, ys), ts) d = ((x1, y1), ts ++ [t1]) := by unfold sayStep; rw [h3, show (lineOf x ys d).1 = (x1, y1) from Prod.ext h1 h2]
      have hdl : Calls Tryz.prog 21 #[.agg #[.string x, .slice ax ys.length cx], .string d] wr (LineOut wr x1 y1 t1) := by
        have := implLine_ok x (.slice ax ys.length cx) ys d wr HB.out.past HOK.out (HLZ.out d (List.mem_of_getElem? hd)) (HT.out.below' er)
        rwa [h1, h2, h3] at this
      have HDL := Lib.hid hdl
      have HSTEP := Lib.hid hstep
      have HOK1 := Lib.hid hlok
      have hOlt := lt_at HB.out.row
      have hglt := sy_own_lt HB.out (b := g) rfl
      clear hstep hlok hdl h1 h2 h3 hd hc0
      go_upto_region 10 with (first
        | (go_at_call 21; refine HDL.out.mono ?_; rintro e wC ⟨vC, rfl, hpC, hfC, hbC⟩; obtain ⟨aC, cC, hvC⟩ := past_value hpC; subst hvC; have PC := Lib.hid hpC; have FC := Lib.hid hfC; have BC := Lib.hid hbC; have hN := heap_alloc_new wC (.cells #[.string x1, .slice aC y1.length cC] 27); have n0 := cell_of_row _ _ 0 _ _ _ hN; have n1 := cell_of_row _ _ 1 _ _ _ hN; have hSA : Sy W O x (.slice ax ys.length cx) ys (.slice (some ⟨g, 0, none⟩) k cap) ts (wC.alloc (.cells #[.string x1, .slice aC y1.length cC] 27)) := (HB.out.call hbC).call ((Ext.refl wC).alloc _); have HSA := Lib.hid hSA; obtain ⟨p0, p1⟩ := hSA.cells; have pf0 := frozen_of_row _ _ 0 _ _ hSA.row; have pf1 := frozen_of_row _ _ 1 _ _ hSA.row; clear hpC hfC hbC hN hSA))
      refine wp_at_world (F := Sy W O x1 (.slice aC y1.length cC) y1 (.slice (some ⟨g, 0, none⟩) k cap) ts) ?_ ?_
      · refine HSA.out.put (((Ext.refl wC).alloc _).past PC.out) (fresh_ext er FC.out) (fun b9 h9 h8 => ?_) (fun h9 => ?_)
        · have h7 : g = b9 := Option.some.inj h8
          have := FC.out _ h9
          omega
        · have := FC.out _ h9
          omega
      intro W9 h9
      have HS9 := Lib.hid h9
      have hown9 := h9.own
      rw [HTL.out] at hown9
      have hs9 := h9.ext.size
      have hgl9 := sy_own_lt h9 (b := g) rfl
      clear h9
      go_wp2_with (first
        | (at_builtin; refine wpList_append_lies _ rfl _ _ 22 rfl W.heap.size 9 i0 _ 1 16 Tryz.underlying22 hi0 hz0 hz1 hz2 rfl (by omega) _ k _ rfl (hown9.alloc _) ⟨W9.heap.size, 0, none⟩ 1 1 [.string t1] rfl rfl (World.news_of_block (cs := #[.string t1]) (t := 9) (fr := (0, 0)) (heap_alloc_new W9 _)) (by simp [Value.oneCell']) (by omega) (by unfold maxLen; omega) (by omega) (by simp; omega) (W9.heap.size + 1) (by simp) ?_; intro g4 cap4 w5 hown5 hgrow5 hat5 hlt5))
      go_roundw
      case rel =>
        refine ⟨k + 1, x1, .slice aC y1.length cC, y1, ts ++ [t1], g4, cap4, by omega, by go_num, rfl, ?_, ?_, ?_, HOK1.out⟩
        · show _ = _
          rw [List.length_append, HTL.out]
          rfl
        · show _ = _
          rw [HTN.out, HSAY.out, HSTEP.out]
        · refine Sy.more (HS9.out.call ((Ext.refl W9).alloc _)) hgrow5 hown5 (by rw [HTL.out]) ?_
          rcases hat5 with hat5 | hat5
          · exact .inl hat5
          · exact .inr (by rw [hat5]; simp)
      case measure => simp [intOf]; omega
    · obtain rfl : k = n := by omega
      have hall := HSAY.out
      rw [List.take_of_length_le (by rw [HN.out]; exact Nat.le_refl _)] at hall
      have HALL := Lib.hid hall
      have f0 := frozen_of_row _ _ 0 _ _ HRR.out
      have f1 := frozen_of_row _ _ 1 _ _ HRR.out
      have k0' := cell_of_row _ _ 0 _ _ _ HRR.out
      have k1' := cell_of_row _ _ 1 _ _ _ HRR.out
      have q := pair_put HRR.out (.string x) (.slice ax ys.length cx)
      have q0 := cell_of_row _ _ 0 _ _ _ q
      have q1 := cell_of_row _ _ 1 _ _ _ q
      clear hall q
      go_wp2_with fail
      refine bodyPost_ret (v := .tuple #[.agg #[.string x, .slice ax ys.length cx], .slice (some ⟨g, 0, none⟩) k cap]) (by simp [results, Tryz.results13, go_sem, q0, q1]) rfl ?_
      have hw2 := HWS.out
      have hgb := (HB.out.own.lt g rfl).1
      have hown := HB.out.own
      have hpo : PastAt wr (.slice (some ⟨g, 0, none⟩) k cap) ts := past_own hown
      exact say_fin (E0.out.trans er) HB.out.past (fresh_ext E0.out HB.out.fresh) (fun h9 => by have := HB.out.fresh _ h9; omega) hpo (fun b9 h9 => by have h8 : g = b9 := Option.some.inj h9; omega) (fun h9 => by have h8 : g = w.heap.size + 1 := Option.some.inj h9; omega) (by omega) HB.out.nev HALL.out
set_option maxRecDepth 100000 in
set_option maxHeartbeats 800000 in
theorem specDeskSay_no (s : ByteArray) (a : Option Addr) (c L : Nat) (zs : List ByteArray) (b : Option Addr) (cb n : Nat) (w : World) (h : StrsAt w (.slice a L c) zs) (HL : Hid (zs.length = L)) (hs : s.size ≤ 1048576) (hL : L ≤ 1048576) (hz : ∀ z ∈ zs, z.size ≤ 1048576) (hn : n ≤ 1048576) (t : Bool) (hok : deskOk s zs = t) (hno : t = false ∨ (t = true ∧ 40 < n)) :
    Calls Tryz.prog 10 #[.agg #[.string s, .slice a L c], .slice b n cb] w (SayOut w ((⟨#[]⟩, []), [])) := by
  obtain ⟨e0, hsz, r0, r1⟩ := desk2_in w s (.slice a L c)
  obtain ⟨W, hW⟩ : ∃ W, deskBox2 w s (.slice a L c) = W := ⟨_, rfl⟩
  rw [hW] at e0 hsz r0 r1
  unfold deskBox2 at hW
  have HW := Lib.hid hW
  have eA : Ext W (W.alloc (.cells #[] 9)) := (Ext.refl W).alloc _
  have HDK := Lib.hid (deskOk_named s (.slice a L c) zs (W.alloc (.cells #[] 9)) ((e0.trans eA).strs h) hs (by rw [HL.out]; exact hL) hz t hok)
  have HWS := Lib.hid hsz
  have HE := Lib.hid (heap_alloc_new W (.cells #[] 9))
  have EA := Lib.hid eA
  have R1 := Lib.hid r1
  have c0 := cell_of_row _ _ 0 _ _ _ r0
  have c1 := cell_of_row _ _ 1 _ _ _ r0
  clear hW r0 r1 h hok hz hsz eA
  rcases hno with rfl | ⟨rfl, h40⟩
  all_goals
    go_enter Tryz.func10, Tryz.ntmps10
    go_wp2_with fail
    rw [HW.out]
    go_wp2_with (first
      | (go_at_call 24; refine HDK.out.mono ?_; rintro e w1 ⟨rfl, hb1⟩; have e1 : Ext W w1 := EA.out.trans hb1; have HE1 := Lib.hid (Ext.row hb1 HE.out); have hr := e1.row R1.out; have f0 := frozen_of_row _ _ 0 _ _ hr; have f1 := frozen_of_row _ _ 1 _ _ hr; have k0 := cell_of_row _ _ 0 _ _ _ hr; have k1 := cell_of_row _ _ 1 _ _ _ hr; have q := pair_put hr (.string ⟨#[]⟩) (.slice none 0 0); have q0 := cell_of_row _ _ 0 _ _ _ q; have q1 := cell_of_row _ _ 1 _ _ _ q; clear hr q hb1))
    refine bodyPost_ret (v := .tuple #[.agg #[.string ⟨#[]⟩, .slice none 0 0], .slice (some ⟨w.heap.size + 1 + 1, 0, none⟩) 0 0]) (by simp [results, Tryz.results10, go_sem, q0, q1]) rfl ?_
    have hw2 := HWS.out
    have HE2 := HE1.out
    rw [show W.heap.size = w.heap.size + 1 + 1 from hw2] at HE2
    exact say_fin (R := w.heap.size + 1) (e0.trans e1) (.inl ⟨rfl, rfl⟩) (Fresh.none _) (fun h9 => by cases h9) (.inr ⟨w.heap.size + 1 + 1, 0, 0, #[], rfl, Nat.le_refl _, HE2, Nat.le_refl _, fun j z hj => by simp at hj⟩) (fun b9 h9 => by have h8 : w.heap.size + 1 + 1 = b9 := Option.some.inj h9; omega) (fun h9 => by have h8 : w.heap.size + 1 + 1 = w.heap.size + 1 := Option.some.inj h9; omega) (by omega) (fun b hb => by cases hb) rfl
set_option maxRecDepth 100000 in
set_option maxHeartbeats 3200000 in
theorem specDeskSay_yes (s : ByteArray) (a : Option Addr) (c L : Nat) (zs : List ByteArray) (b : Option Addr) (cb n : Nat) (w : World) (h : StrsAt w (.slice a L c) zs) (HL : Hid (zs.length = L)) (ls : List ByteArray) (HN : Hid (ls.length = n)) (hn : n ≤ 40) (hncb : n ≤ cb) (HC : Hid (∀ (j : Nat) (d : ByteArray), ls[j]? = some d → ∃ b', b = some b' ∧ w.cell? (b'.add j) = some (.string d))) (HLZ : Hid (∀ d ∈ ls, d.size ≤ 1048576)) (hok : Hid (deskOk s zs = true)) :
    Calls Tryz.prog 10 #[.agg #[.string s, .slice a L c], .slice b n cb] w (SayOut w (sayTo s zs ls)) := by
  obtain ⟨i0, hi0, hz0, hz1, hz2⟩ := info_parts stringInfo
  obtain ⟨hs1, h8, hz⟩ := deskOk_parts hok.out
  have hL8 : L ≤ 8 := by have := HL.out; omega
  obtain ⟨e0, hsz, r0, r1⟩ := desk2_in w s (.slice a L c)
  obtain ⟨W, hW⟩ : ∃ W, deskBox2 w s (.slice a L c) = W := ⟨_, rfl⟩
  rw [hW] at e0 hsz r0 r1
  unfold deskBox2 at hW
  have HW := Lib.hid hW
  have HWS := Lib.hid hsz
  have eA : Ext W (W.alloc (.cells #[] 9)) := (Ext.refl W).alloc _
  have HDK := Lib.hid (deskOk_named s (.slice a L c) zs (W.alloc (.cells #[] 9)) ((e0.trans eA).strs h) (by have := ok_size hs1; omega) (by omega) (fun z hz9 => by have := ok_size (hz z hz9); omega) true hok.out)
  have HOW := Lib.hid (own_none W 9 W.heap.size (Nat.le_refl _))
  have EA := Lib.hid eA
  have R0 := Lib.hid r0
  have R1 := Lib.hid r1
  have c0 := cell_of_row _ _ 0 _ _ _ r0
  have c1 := cell_of_row _ _ 1 _ _ _ r0
  have HCP : Hid (∀ Y, Ext W Y → Calls Tryz.prog 38 #[.agg #[.string s, .slice a L c]] Y fun e w' => ∃ g2 c2, e = .returned (.agg #[.string s, .slice (some ⟨g2, 0, none⟩) L c2]) ∧ PastAt w' (.slice (some ⟨g2, 0, none⟩) L c2) zs ∧ Y.heap.size ≤ g2 ∧ Below Y.heap.size Y w') := fun Y hY => by
    refine (copy_named s (.slice a L c) zs Y ((e0.trans hY).strs h) L HL.out (by have := HL.out; omega)).mono ?_
    rintro e w' ⟨g2, c2, he, hown2, hp2, hb2⟩
    exact ⟨g2, c2, he, hp2, by have := (hown2.lt g2 rfl).1; omega, hb2⟩
  have E0 := Lib.hid e0
  clear hW r0 r1 h hz h8 hs1 e0 hsz eA
  go_enter Tryz.func10, Tryz.ntmps10
  go_wp2_with fail
  rw [HW.out]
  go_wp2_with (first
    | (go_at_call 24; refine HDK.out.mono ?_; rintro e w1 ⟨rfl, hb1⟩; have e1 : Ext W w1 := EA.out.trans hb1; have ho1 := own_below HOW.out hb1; have hr := e1.row R0.out; have k0 := cell_of_row _ _ 0 _ _ _ hr; have k1 := cell_of_row _ _ 1 _ _ _ hr; have HO1 := Lib.hid ho1; have HB1 := Lib.hid hb1; clear hr hb1 ho1)
    | (go_at_call 38; refine (HCP.out w1 e1).mono ?_; rintro e w2 ⟨g2, c2, rfl, hp2, hg2, hb2⟩; have e2 : Ext W w2 := e1.call hb2; have HO2 := Lib.hid (own_below HO1.out hb2)))
  have hs1 := Lib.hid (show W.heap.size + 1 ≤ w1.heap.size by have := HB1.out.size; simp at this; omega)
  have hsy : Sy W w2.heap.size s (.slice (some ⟨g2, 0, none⟩) L c2) zs (.slice (some ⟨W.heap.size, 0, none⟩) 0 0) [] (w2.alloc (.cells #[.string s, .slice (some ⟨g2, 0, none⟩) L c2] 27)) := by
    have h1 := hs1.out
    have h2 := hb2.size
    refine ⟨e2.alloc _, heap_alloc_new w2 _, ((Ext.refl w2).alloc _).past hp2, fun b9 h9 => ?_, e2.size, own_below HO2.out ((Ext.refl w2).alloc _), ?_, ?_⟩
    · have h8 : g2 = b9 := Option.some.inj h9
      omega
    · intro b9 h9 h8
      have h7 : g2 = b9 := Option.some.inj h9
      have h6 : W.heap.size = b9 := Option.some.inj h8
      omega
    · intro h8
      have h7 : W.heap.size = w2.heap.size := Option.some.inj h8
      omega
  rw [show W.heap.size = w.heap.size + 1 + 1 from HWS.out] at hsy
  have hlow := Lib.hid (e2.size)
  obtain ⟨w3, hw3⟩ : ∃ w3, w2.alloc (.cells #[.string s, .slice (some ⟨g2, 0, none⟩) L c2] 27) = w3 := ⟨_, rfl⟩
  rw [hw3] at hsy ⊢
  obtain ⟨O, hO⟩ : ∃ O, w2.heap.size = O := ⟨_, rfl⟩
  rw [hO] at hsy ⊢
  have HSY := Lib.hid hsy
  have hOl : w.heap.size + 1 < O := by have := hlow.out; have := HWS.out; omega
  clear hsy hO hw3 hp2 hg2 hb2 k0 k1
  go_loopw [6, 8] (fun o i wr => ∃ (k : Nat) (x : ByteArray) (v : Value) (ys ts : List ByteArray) (g cap : Nat), k ≤ n ∧ i = .int .i64 k ∧ o = .slice (some ⟨g, 0, none⟩) k cap ∧ Hid (ts.length = k) ∧ Hid (sayTo s zs (ls.take k) = ((x, ys), ts)) ∧ Hid (Sy W O x v ys o ts wr) ∧ Hid (deskOk x ys = true)) (fun _ i _ => n - (intOf i).toNat)
  case atStart => exact ⟨0, s, _, zs, [], _, _, Nat.zero_le _, rfl, rfl, rfl, rfl, HSY.out, hok.out⟩
  case round =>
    obtain ⟨k, x, vx, ys, ts, g, cap, hk, rfl, rfl, HTL, HSAY, HB, HOK⟩ := hrel
    obtain ⟨ax, cx, hvx⟩ := past_value HB.out.past
    subst hvx
    obtain ⟨o0, o1⟩ := HB.out.cells
    have er : Ext W wr := HB.out.ext
    have hrr := er.row R1.out
    have HRR := Lib.hid hrr
    clear hrr
    by_cases hlt : k < n
    · obtain ⟨d, hd⟩ : ∃ d, ls[k]? = some d := ⟨ls[k]'(by rw [HN.out]; exact hlt), List.getElem?_eq_getElem (by rw [HN.out]; exact hlt)⟩
      obtain ⟨b', rfl, hc0⟩ := HC.out k d hd
      have hk3 : (0 : Int) ≤ (k : Int) := by omega
      have hk4 : (k : Int) < (n : Int) := by omega
      have l0 := cell_keep (E0.out.trans er) hc0
      have HTN := Lib.hid (sayTo_succ (s := s) (zs := zs) hd)
      have hlok := line_ok HOK.out d
      obtain ⟨x1, h1⟩ : ∃ x1, (lineOf x ys d).1.1 = x1 := ⟨_, rfl⟩
      obtain ⟨y1, h2⟩ : ∃ x1, (lineOf x ys d).1.2 = x1 := ⟨_, rfl⟩
      obtain ⟨t1, h3⟩ : ∃ x1, (lineOf x ys d).2 = x1 := ⟨_, rfl⟩
      rw [h1, h2] at hlok
      have hstep : sayStep ((x, ys), ts) d = ((x1, y1), ts ++ [t1]) := by unfold sayStep; rw [h3, show (lineOf x ys d).1 = (x1, y1) from Prod.ext h1 h2]
      have hdl : ∀ X, Ext wr X → Calls Tryz.prog 22 #[.agg #[.string x, .slice ax ys.length cx], .string d] X (LineOut X x1 y1 t1) := fun X hX => by
        have := specLine_ok x (.slice ax ys.length cx) ys d X (hX.strs HB.out.past.strs) HOK.out (HLZ.out d (List.mem_of_getElem? hd))
        rwa [h1, h2, h3] at this
      have HDL := Lib.hid hdl
      have HSTEP := Lib.hid hstep
      have HOK1 := Lib.hid hlok
      have hOlt := lt_at HB.out.row
      have hglt := sy_own_lt HB.out (b := g) rfl
      have hS : ∀ X, Ext wr X → X.cell? ⟨O, 0, none⟩ = some (.string x) ∧ X.cell? ⟨O, 1, none⟩ = some (.slice ax ys.length cx) ∧ X.cell? (b'.add k) = some (.string d) := fun X hX => ⟨(HB.out.call hX).cells.1, (HB.out.call hX).cells.2, cell_keep hX l0⟩
      have HS := Lib.hid hS
      clear hstep hlok hdl h1 h2 h3 hd hc0 hS
      go_wp2_with fail
      go_region_held3 (fun w' => w'.cell? ⟨O, 0, none⟩ = some (.string x) ∧ w'.cell? ⟨O, 1, none⟩ = some (.slice ax ys.length cx) ∧ w'.cell? (b'.add k) = some (.string d))
        (exact HS.out _ (by (first | assumption | exact Ext.refl _ | exact (Ext.refl _).drew | (refine Ext.alloc ?_ _; first | assumption | exact Ext.refl _ | exact (Ext.refl _).drew) | (refine Ext.drew ?_; first | assumption | exact Ext.refl _ | exact (Ext.refl _).drew) | (refine Ext.drew ?_; refine Ext.alloc ?_ _; first | assumption | exact Ext.refl _ | exact (Ext.refl _).drew) | (refine Ext.setCell (Ext.setCell ?_ ?_ _) ?_ _ <;> first | assumption | omega | (simp <;> omega)))))
        (first
          | (go_at_call 22; refine (HDL.out _ (by (first | assumption | exact Ext.refl _ | exact (Ext.refl _).drew | (refine Ext.alloc ?_ _; first | assumption | exact Ext.refl _ | exact (Ext.refl _).drew) | (refine Ext.drew ?_; first | assumption | exact Ext.refl _ | exact (Ext.refl _).drew) | (refine Ext.drew ?_; refine Ext.alloc ?_ _; first | assumption | exact Ext.refl _ | exact (Ext.refl _).drew) | (refine Ext.setCell (Ext.setCell ?_ ?_ _) ?_ _ <;> first | assumption | omega | (simp <;> omega))))).mono ?_; rintro e wC ⟨vC, rfl, hpC, hfC, hbC⟩; obtain ⟨aC, cC, hvC⟩ := past_value hpC; subst hvC; have gC := fresh_ext (show Ext wr _ by (first | assumption | exact Ext.refl _ | exact (Ext.refl _).drew | (refine Ext.alloc ?_ _; first | assumption | exact Ext.refl _ | exact (Ext.refl _).drew) | (refine Ext.drew ?_; first | assumption | exact Ext.refl _ | exact (Ext.refl _).drew) | (refine Ext.drew ?_; refine Ext.alloc ?_ _; first | assumption | exact Ext.refl _ | exact (Ext.refl _).drew) | (refine Ext.setCell (Ext.setCell ?_ ?_ _) ?_ _ <;> first | assumption | omega | (simp <;> omega)))) hfC; have eC : Ext wr wC := Ext.call (by (first | assumption | exact Ext.refl _ | exact (Ext.refl _).drew | (refine Ext.alloc ?_ _; first | assumption | exact Ext.refl _ | exact (Ext.refl _).drew) | (refine Ext.drew ?_; first | assumption | exact Ext.refl _ | exact (Ext.refl _).drew) | (refine Ext.drew ?_; refine Ext.alloc ?_ _; first | assumption | exact Ext.refl _ | exact (Ext.refl _).drew) | (refine Ext.setCell (Ext.setCell ?_ ?_ _) ?_ _ <;> first | assumption | omega | (simp <;> omega)))) hbC; (first | (have hN := box_keep hbC; have nN := box_ne hfC) | (have hN := box_keep_drew hbC; have nN := box_ne_drew hfC) | (have nN := fresh_ne hfC hN; have hN := Ext.row hbC hN) | skip); have PC := Lib.hid hpC; have FC := Lib.hid gC; have sC := Ext.size eC; (first | (have zN := frozen_of_row _ _ 0 _ _ hN; have zN1 := frozen_of_row _ _ 1 _ _ hN; have yN := cell_of_row _ _ 0 _ _ _ hN; have yN1 := cell_of_row _ _ 1 _ _ _ hN; have HN2 := Lib.hid hN; clear hN) | skip); clear hpC hfC hbC gC))
      all_goals
        first
          | (have hBN := box_set (x := x1) HN2.out PC.out FC.out nN (by first | omega | (simp <;> omega)))
          | (have hBN := box_new (x := x1) PC.out FC.out sC)
        (first | (have eX := ext_new hBN eC) | (have eX := ext_set hBN eC (by first | omega | (simp <;> omega))))
        have hSX := HB.out.call eX
        obtain ⟨n0, n1⟩ := hBN.cells
        obtain ⟨p0, p1⟩ := hSX.cells
        have pf0 := frozen_of_row _ _ 0 _ _ hSX.row
        have pf1 := frozen_of_row _ _ 1 _ _ hSX.row
        have HBN := Lib.hid hBN
        have HSX := Lib.hid hSX
        clear hBN hSX
        go_upto_region 10 with (fail)
        refine wp_at_world (F := Sy W O x1 (.slice aC y1.length cC) y1 (.slice (some ⟨g, 0, none⟩) k cap) ts) ?_ ?_
        · refine HSX.out.put HBN.out.past (fresh_ext er FC.out) (fun b9 h9 h8 => ?_) (fun h9 => ?_)
          · have h7 : g = b9 := Option.some.inj h8
            have := FC.out _ h9
            omega
          · have := FC.out _ h9
            omega
        intro W9 h9
        have HS9 := Lib.hid h9
        have hown9 := h9.own
        rw [HTL.out] at hown9
        have hs9 := h9.ext.size
        have hgl9 := sy_own_lt h9 (b := g) rfl
        clear h9
        go_wp2_with (first
          | (at_builtin; refine wpList_append_lies _ rfl _ _ 22 rfl W.heap.size 9 i0 _ 1 16 Tryz.underlying22 hi0 hz0 hz1 hz2 rfl (by omega) _ k _ rfl (hown9.alloc _) ⟨W9.heap.size, 0, none⟩ 1 1 [.string t1] rfl rfl (World.news_of_block (cs := #[.string t1]) (t := 9) (fr := (0, 0)) (heap_alloc_new W9 _)) (by simp [Value.oneCell']) (by omega) (by unfold maxLen; omega) (by omega) (by simp; omega) (W9.heap.size + 1) (by simp) ?_; intro g4 cap4 w5 hown5 hgrow5 hat5 hlt5))
        go_roundw
        case rel =>
          refine ⟨k + 1, x1, .slice aC y1.length cC, y1, ts ++ [t1], g4, cap4, by omega, by go_num, rfl, ?_, ?_, ?_, HOK1.out⟩
          · show _ = _
            rw [List.length_append, HTL.out]
            rfl
          · show _ = _
            rw [HTN.out, HSAY.out, HSTEP.out]
          · refine Sy.more (HS9.out.call ((Ext.refl W9).alloc _)) hgrow5 hown5 (by rw [HTL.out]) ?_
            rcases hat5 with hat5 | hat5
            · exact .inl hat5
            · exact .inr (by rw [hat5]; simp)
        case measure => simp [intOf]; omega
    · obtain rfl : k = n := by omega
      have hall := HSAY.out
      rw [List.take_of_length_le (by rw [HN.out]; exact Nat.le_refl _)] at hall
      have HALL := Lib.hid hall
      have f0 := frozen_of_row _ _ 0 _ _ HRR.out
      have f1 := frozen_of_row _ _ 1 _ _ HRR.out
      have k0' := cell_of_row _ _ 0 _ _ _ HRR.out
      have k1' := cell_of_row _ _ 1 _ _ _ HRR.out
      have q := pair_put HRR.out (.string x) (.slice ax ys.length cx)
      have q0 := cell_of_row _ _ 0 _ _ _ q
      have q1 := cell_of_row _ _ 1 _ _ _ q
      clear hall q
      go_wp2_with fail
      refine bodyPost_ret (v := .tuple #[.agg #[.string x, .slice ax ys.length cx], .slice (some ⟨g, 0, none⟩) k cap]) (by simp [results, Tryz.results10, go_sem, q0, q1]) rfl ?_
      have hw2 := HWS.out
      have hgb := (HB.out.own.lt g rfl).1
      have hown := HB.out.own
      have hpo : PastAt wr (.slice (some ⟨g, 0, none⟩) k cap) ts := past_own hown
      exact say_fin (E0.out.trans er) HB.out.past (fresh_ext E0.out HB.out.fresh) (fun h9 => by have := HB.out.fresh _ h9; omega) hpo (fun b9 h9 => by have h8 : g = b9 := Option.some.inj h9; omega) (fun h9 => by have h8 : g = w.heap.size + 1 := Option.some.inj h9; omega) (by omega) HB.out.nev HALL.out
theorem implDeskSay (s : ByteArray) (v : Value) (zs : List ByteArray) (u : Value) (ls : List ByteArray) (w : World) (h : PastAt w v zs) (hl : StrsAt w u ls) (hs : s.size ≤ 1048576) (hL : zs.length ≤ 1048576) (hz : ∀ z ∈ zs, z.size ≤ 1048576) (hn : ls.length ≤ 1048576) (hlz : ∀ z ∈ ls, z.size ≤ 1048576) (ht : TabsAt w) :
    Calls Tryz.prog 13 #[.agg #[.string s, v], u] w (SayOut w (deskSay s zs ls)) := by
  obtain ⟨a, c, rfl⟩ := past_value h
  obtain ⟨b, cb, rfl, hcb, hc⟩ := strs_parts hl
  by_cases hok : deskOk s zs = true ∧ ls.length ≤ 40
  · rw [show deskSay s zs ls = sayTo s zs ls from if_pos hok]
    exact implDeskSay_yes s a c zs.length zs b cb ls.length w (Lib.hid rfl) ls (Lib.hid rfl) hok.2 hcb (Lib.hid hc) (Lib.hid hlz) (Lib.hid hok.1) ht h
  · rw [show deskSay s zs ls = ((⟨#[]⟩, []), []) from if_neg hok]
    refine implDeskSay_no s a c zs.length zs b cb ls.length w h.strs (Lib.hid rfl) hs hL hz hn (deskOk s zs) rfl ?_
    cases hb : deskOk s zs
    · exact .inl rfl
    · exact .inr ⟨rfl, by have : ¬ ls.length ≤ 40 := fun h => hok ⟨hb, h⟩; omega⟩
theorem specDeskSay (s : ByteArray) (v : Value) (zs : List ByteArray) (u : Value) (ls : List ByteArray) (w : World) (h : StrsAt w v zs) (hl : StrsAt w u ls) (hs : s.size ≤ 1048576) (hL : zs.length ≤ 1048576) (hz : ∀ z ∈ zs, z.size ≤ 1048576) (hn : ls.length ≤ 1048576) (hlz : ∀ z ∈ ls, z.size ≤ 1048576) :
    Calls Tryz.prog 10 #[.agg #[.string s, v], u] w (SayOut w (deskSay s zs ls)) := by
  obtain ⟨a, c, rfl⟩ := strs_value h
  obtain ⟨b, cb, rfl, hcb, hc⟩ := strs_parts hl
  by_cases hok : deskOk s zs = true ∧ ls.length ≤ 40
  · rw [show deskSay s zs ls = sayTo s zs ls from if_pos hok]
    exact specDeskSay_yes s a c zs.length zs b cb ls.length w h (Lib.hid rfl) ls (Lib.hid rfl) hok.2 hcb (Lib.hid hc) (Lib.hid hlz) (Lib.hid hok.1)
  · rw [show deskSay s zs ls = ((⟨#[]⟩, []), []) from if_neg hok]
    refine specDeskSay_no s a c zs.length zs b cb ls.length w h (Lib.hid rfl) hs hL hz hn (deskOk s zs) rfl ?_
    cases hb : deskOk s zs
    · exact .inl rfl
    · exact .inr ⟨rfl, by have : ¬ ls.length ≤ 40 := fun h => hok ⟨hb, h⟩; omega⟩

end Go.Proofs.YtccdfndnjjjgfaaGreatDoor

namespace Go.Proofs.YtccdfndnjjjgfaaGreatDoor
open Go.ChangeShapes Go.WideShapes Go.ChangeAt Go.RowKit Go.WideMaps Go.WideElems
open Go.ChangeMaps (open_string shut_string)

section
variable {H : Type} {enc : TypeId × Value → H} {P : Program}

theorem trodAll_stays (hl : laidOutB P = true) {W W' : World} {sp' : Nat → Bool} : ∀ {ts : List TypeId} {vs : List Value} {ds : List (DataW H)} {ps : List MemPlace},
    (∀ t ∈ ts, P.readableRec t = true ∧ t < P.types.size) → DataW.TrodAll enc P W 0 (fun _ => true) true ts vs ds ps → (∀ p ∈ ps, W.sameAt W' p) → (∀ p ∈ ps, sp' p.block = true) → DataW.TrodAll enc P W' 0 sp' true ts vs ds ps
  | [], _, _, _, _, h, _, _ => by
    obtain ⟨rfl, rfl, rfl⟩ := trodAll_nil h
    exact trodAll_mk0
  | t :: ts, _, _, _, hr, h, hsame, hs => by
    obtain ⟨v, vs', d, ds', p, q, rfl, rfl, rfl, h1, h2⟩ := trodAll_cons h
    exact trodAll_cons_mk (WideElems.Trod_stays hl (hr t (by simp)).1 (hr t (by simp)).2 h1 (fun x hx => hsame x (by simp [hx])) (fun x hx => hs x (by simp [hx])))
      (trodAll_stays hl (fun u hu => hr u (by simp [hu])) h2 (fun x hx => hsame x (by simp [hx])) (fun x hx => hs x (by simp [hx])))

theorem trodVars_stays (hl : laidOutB P = true) {W W' : World} {sp' : Nat → Bool} (hb : Below W.heap.size W W') : ∀ {ns : List String} {ds : List (DataW H)} {ps : List MemPlace},
    (∀ n ∈ ns, ∀ g t, P.globalNamed n = some g → (P.globals[g]?).map (·.type) = some t → P.readableRec t = true ∧ t < P.types.size) → DataW.TrodVars enc P W (fun _ => true) ns ds ps → (∀ p ∈ ps, W.sameAt W' p) → (∀ p ∈ ps, sp' p.block = true) →
    DataW.TrodVars enc P W' sp' ns ds ps
  | [], ds, _, _, h, _, _ => by
    cases ds with
    | nil => exact h
    | cons _ _ => exact h.elim
  | n :: ns, [], _, _, h, _, _ => h.elim
  | n :: ns, d :: ds, _, hr, h, hsame, hs => by
    obtain ⟨g, t, cs, fuel, p, q, h1, h2, h3, h4, h5, rfl⟩ := h
    have hg : g < W.heap.size := by
      have h3' := h3
      unfold World.var? at h3'
      rw [h1, Option.bind_some] at h3'
      rcases Nat.lt_or_ge g W.heap.size with hlt | hge
      · exact hlt
      · rw [Array.getElem?_eq_none hge] at h3'
        cases h3'
    obtain ⟨hr1, hr2⟩ := hr n (by simp) g t h1 h2
    have h4' := DataW.trod_stays (sp' := sp') (kids_book hl hr1) (book_sized hr1) (fun h => by cases h) ⟨hr2, book_self t⟩ h4 (fun x hx => hsame x (by simp [hx])) (fun x hx => hs x (by simp [hx]))
    exact ⟨g, t, cs, fuel, p, q, h1, h2, var?_below hb h1 hg h3, h4', trodVars_stays hl hb (fun m hm => hr m (by simp [hm])) h5 (fun x hx => hsame x (by simp [hx])) (fun x hx => hs x (by simp [hx])), rfl⟩

section
variable {H : Type} {enc : TypeId × Value → H} {P : Program} {W : World} {sp : Nat → Bool}
theorem trodVars_len0 {gs : List (DataW H)} {q : List MemPlace} (h : DataW.TrodVars enc P W sp [] gs q) : gs = [] := (trodVars_none h).1
theorem trodVars_len1 {n0 : String} {gs : List (DataW H)} {q : List MemPlace} (h : DataW.TrodVars enc P W sp [n0] gs q) : ∃ g0, gs = [g0] := by
  cases gs with
  | nil => exact h.elim
  | cons g0 gs =>
    obtain ⟨_, _, _, _, _, _, _, _, _, _, h', _⟩ := h
    exact ⟨g0, by rw [trodVars_len0 h']⟩
theorem trodVars_len2 {n0 n1 : String} {gs : List (DataW H)} {q : List MemPlace} (h : DataW.TrodVars enc P W sp [n0, n1] gs q) : ∃ g0 g1, gs = [g0, g1] := by
  cases gs with
  | nil => exact h.elim
  | cons g0 gs =>
    obtain ⟨_, _, _, _, _, _, _, _, _, _, h', _⟩ := h
    obtain ⟨g1, rfl⟩ := trodVars_len1 h'
    exact ⟨g0, g1, rfl⟩
theorem trodVars_len3 {n0 n1 n2 : String} {gs : List (DataW H)} {q : List MemPlace} (h : DataW.TrodVars enc P W sp [n0, n1, n2] gs q) : ∃ g0 g1 g2, gs = [g0, g1, g2] := by
  cases gs with
  | nil => exact h.elim
  | cons g0 gs =>
    obtain ⟨_, _, _, _, _, _, _, _, _, _, h', _⟩ := h
    obtain ⟨g1, g2, rfl⟩ := trodVars_len2 h'
    exact ⟨g0, g1, g2, rfl⟩
theorem trodVars_len4 {n0 n1 n2 n3 : String} {gs : List (DataW H)} {q : List MemPlace} (h : DataW.TrodVars enc P W sp [n0, n1, n2, n3] gs q) : ∃ g0 g1 g2 g3, gs = [g0, g1, g2, g3] := by
  cases gs with
  | nil => exact h.elim
  | cons g0 gs =>
    obtain ⟨_, _, _, _, _, _, _, _, _, _, h', _⟩ := h
    obtain ⟨g1, g2, g3, rfl⟩ := trodVars_len3 h'
    exact ⟨g0, g1, g2, g3, rfl⟩
end

/-- What a law's specification says: the call returns true, and all reads as before. -/
structure Plain (s : ChangeSpec) (ds gs : List (DataW H)) : Prop where
  res : (s.fn H (ds ++ gs)).results = [.lit (.bool true)]
  args : (s.fn H (ds ++ gs)).args = ds
  vars : (s.fn H (ds ++ gs)).vars = gs

def rowsOk (P : Program) (ts : List TypeId) : Bool := ts.all fun t => P.readableRec t && decide (t < P.types.size)
def varsOk (P : Program) (ns : List String) : Bool := ns.all fun n => ((P.globalNamed n).bind (P.globals[·]?)).all fun gl => P.readableRec gl.type && decide (gl.type < P.types.size)

theorem law_post {f : Func} {s : ChangeSpec} {W W' : World} {args : Array Value} {ds gs : List (DataW H)} {before : List MemPlace} (hl : laidOutB P = true) (ht : rowsOk P f.params.toList = true) (hv : varsOk P s.vars = true)
    {tb : TypeId} (hb1 : f.resultTypes = #[tb]) (hb2 : P.underlying tb = some .bool)
    (hW : DataW.Whole enc P f.params.toList s.vars false W args.toList ds gs before) (hs : Plain s ds gs) (hb : Below W.heap.size W W') :
    s.post enc P f false true false false W args (.bool true) W' := by
  have hlt : ∀ p ∈ before, p.block < W.heap.size := fun p hp => hW.lt p hp
  have hold : ∀ p ∈ before, (fun b => decide (b < W.heap.size)) p.block = true := fun p hp => by simpa using hlt p hp
  have hW' := hW
  obtain ⟨pa, pv, hA, hV, rfl, hz, hn⟩ := hW
  have hsame : ∀ p ∈ pa ++ pv, W.sameAt W' p := fun p hp => hb.same (hlt p hp)
  have htr : ∀ t ∈ f.params.toList, P.readableRec t = true ∧ t < P.types.size := fun t h => by
    have := List.all_eq_true.1 ht t h
    simpa using this
  have hvr : ∀ n ∈ s.vars, ∀ g t, P.globalNamed n = some g → (P.globals[g]?).map (·.type) = some t → P.readableRec t = true ∧ t < P.types.size := fun n h g t h1 h2 => by
    have := List.all_eq_true.1 hv n h
    rw [h1] at this
    cases hg : P.globals[g]? with
    | none => rw [hg] at h2; cases h2
    | some gl =>
      rw [hg] at h2
      obtain rfl : gl.type = t := Option.some.inj h2
      simpa [hg] using this
  have hargs : ∀ sp : Nat → Bool, (∀ p ∈ pa ++ pv, sp p.block = true) → DataW.TrodAll enc P W' 0 sp true f.params.toList args.toList (s.fn H (ds ++ gs)).args pa := fun sp hsp => by
    rw [hs.args]
    exact trodAll_stays hl htr hA (fun x hx => hsame x (by simp [hx])) (fun x hx => hsp x (by simp [hx]))
  have hvars : ∀ sp : Nat → Bool, (∀ p ∈ pa ++ pv, sp p.block = true) → DataW.TrodVars enc P W' sp s.vars (s.fn H (ds ++ gs)).vars pv := fun sp hsp => by
    rw [hs.vars]
    exact trodVars_stays hl hb hvr hV (fun x hx => hsame x (by simp [hx])) (fun x hx => hsp x (by simp [hx]))
  have hres : ∀ (b : Nat) (sp : Nat → Bool) (hd : Bool), DataW.TrodAll enc P W' b sp hd f.resultTypes.toList ((Value.bool true).resultList f.resultTypes.size) (s.fn H (ds ++ gs)).results [] := fun b sp hd => by
    rw [hs.res, hb1]
    exact trodAll_cons_mk (shut_bool hb2 _) trodAll_mk0
  refine ⟨ds, gs, pa ++ pv, [], pa, pv, hW', hres _ _ _, hargs _ hold, hvars _ hold, World.keptBut_mono (fun p hp => ⟨hp, ?_⟩) (hb.frame (· ∈ pa ++ pv)), fun h => by cases h⟩
  rw [List.mem_append] at hp
  exact Or.inr hp

/-- Out of the list of variables with what they hold: one of them. -/
theorem laid_one {W : World} {n : String} {d : DataW Unit} : ∀ {laid : List (String × DataW Unit)} {ps : List MemPlace}, DataW.LaidVars P W laid ps → (n, d) ∈ laid →
    ∃ g t cs fuel p, P.globalNamed n = some g ∧ (P.globals[g]?).map (·.type) = some t ∧ W.var? P n = some cs ∧ DataW.trod (fun _ => ()) P W 0 (fun _ => true) false fuel t cs.toList = some (d, p)
  | [], _, _, hm => by cases hm
  | (n', d') :: r, _, h, hm => by
    obtain ⟨g, t, cs, fuel, p, q, h1, h2, h3, h4, h5, _⟩ := h
    rcases List.mem_cons.1 hm with e | hm
    · cases e
      exact ⟨g, t, cs, fuel, p, h1, h2, h3, h4⟩
    · exact laid_one h5 hm

/-- An array of strings, cell for cell. -/
theorem cells_of_strs {w : World} {base : Nat} {sp : Nat → Bool} {held : Bool} {fuel : Nat} {t e : TypeId} {n : Nat} {cs : List Value} {zs : List (List UInt8)} {p : List MemPlace}
    (ht : P.underlying t = some (.array n e)) (he : P.underlying e = some .string) (hce : P.cellsOf e = 1)
    (h : DataW.trod enc P w base sp held fuel t cs = some (.agg (zs.map fun z => .lit (.string z)), p)) : ∀ i, i < n → cs[i]? = some (.string (Tw.str (zs.getD i []))) := by
  obtain ⟨xs, m, _, hx, _, hxl, hel⟩ := DataW.trod_array ht h
  simp only [Prod.mk.injEq, DataW.agg.injEq] at hx
  intro i hi
  have h1 := hel i hi
  rw [hce, Nat.mul_one] at h1
  have hx1 : xs[i]? = some (xs[i]'(by omega)) := List.getElem?_eq_getElem (by omega)
  rw [hx1] at h1
  obtain ⟨s, hc, hy, _⟩ := DataW.trod_string he h1
  have h2 : (xs.map (·.1))[i]? = some (DataW.lit (.string s.data.toList) : DataW H) := by simp [hx1, hy]
  rw [← hx.1] at h2
  simp only [List.getElem?_map, Option.map_eq_some_iff, DataW.lit.injEq, Lit.string.injEq] at h2
  obtain ⟨z, hz, rfl⟩ := h2
  have h3 := congrArg (·[0]?) hc
  simp only [List.getElem?_take, List.getElem?_drop] at h3
  simp at h3
  rw [h3, List.getD, hz, Option.getD_some, Tw.str_of]

end

theorem gWays : Tryz.prog.globalNamed "loop.example/turtlewalks/impl.wayLetters" = some 1 := by kernel_rfl
theorem gWaysType : (Tryz.prog.globals[1]?).map (·.type) = some 144 := by kernel_rfl
theorem cellsString : Tryz.prog.cellsOf 9 = 1 := by kernel_rfl
theorem waysAt {W : World} {laid : List (String × DataW Unit)} (hp : (laid.all fun x => x.2.handleName?.isNone) = true) (h : laidMetH Tryz.prog laid W)
    (hm : ("loop.example/turtlewalks/impl.wayLetters", Rows.laid_loop_example_turtlewalks_impl_wayLetters) ∈ laid) : WaysAt W := by
  rw [MakeChecks.laidMetH_plain _ _ _ hp] at h
  obtain ⟨_, h, _⟩ := h
  obtain ⟨g, t, cs, fuel, p, h1, h2, h3, h4⟩ := laid_one h hm
  obtain rfl := Option.some.inj (gWays.symm.trans h1)
  obtain rfl := Option.some.inj (gWaysType.symm.trans h2)
  intro i hi
  rw [World.var?_cell h1 h3 i]
  have := cells_of_strs (zs := wayList) Tryz.underlying144 Tryz.underlying9 cellsString h4 i hi
  simpa using this

theorem gDirs : Tryz.prog.globalNamed "loop.example/turtlewalks/impl.directions" = some 3 := by kernel_rfl
theorem gDirsType : (Tryz.prog.globals[3]?).map (·.type) = some 169 := by kernel_rfl
theorem cellsPair : Tryz.prog.cellsOf 129 = 2 := by kernel_rfl
theorem cellsInt : Tryz.prog.cellsOf 3 = 1 := by kernel_rfl
theorem cells_of_dirs {w : World} {base : Nat} {sp : Nat → Bool} {held : Bool} {fuel : Nat} {cs : List Value} {zs : List (List Int)} {p : List MemPlace}
    (h : DataW.trod (fun _ => ()) Tryz.prog w base sp held fuel 169 cs = some (.agg (zs.map fun z => .agg (z.map fun y => .lit (.int .i64 y))), p)) :
    ∀ i j, i < 4 → j < 2 → cs[i * 2 + j]? = some (.int .i64 ((zs.getD i []).getD j 0)) := by
  obtain ⟨xs, m, _, hx, _, hxl, hel⟩ := DataW.trod_array Tryz.underlying169 h
  simp only [Prod.mk.injEq, DataW.agg.injEq] at hx
  intro i j hi hj
  have h1 := hel i hi
  rw [cellsPair] at h1
  have hx1 : xs[i]? = some (xs[i]'(by omega)) := List.getElem?_eq_getElem (by omega)
  rw [hx1] at h1
  have h2 : (xs.map (·.1))[i]? = some (xs[i]'(by omega)).1 := by simp [hx1]
  rw [← hx.1] at h2
  simp only [List.getElem?_map, Option.map_eq_some_iff] at h2
  obtain ⟨z, hz, hz1⟩ := h2
  have h1' : DataW.trod (fun _ => ()) Tryz.prog w base sp held m 129 ((cs.drop (i * 2)).take 2) = some (.agg (z.map fun y => .lit (.int .i64 y)), (xs[i]'(by omega)).2) := by rw [h1, hz1]
  obtain ⟨ys, m2, _, hy, _, hyl, hel2⟩ := DataW.trod_array Tryz.underlying129 h1'
  simp only [Prod.mk.injEq, DataW.agg.injEq] at hy
  have h3 := hel2 j hj
  rw [cellsInt, Nat.mul_one] at h3
  have hy1 : ys[j]? = some (ys[j]'(by omega)) := List.getElem?_eq_getElem (by omega)
  rw [hy1] at h3
  obtain ⟨q, hc, hq, _⟩ := DataW.trod_int Tryz.underlying3 h3
  have h4 : (ys.map (·.1))[j]? = some (DataW.lit (.int .i64 q) : DataW Unit) := by simp [hy1, hq]
  rw [← hy.1] at h4
  simp only [List.getElem?_map, Option.map_eq_some_iff, DataW.lit.injEq, Lit.int.injEq, true_and] at h4
  obtain ⟨z', hz', rfl⟩ := h4
  have h5 := congrArg (·[0]?) hc
  simp only [List.getElem?_take, List.getElem?_drop] at h5
  simp [hj] at h5
  have e1 : zs.getD i [] = z := by simp [List.getD, hz]
  rw [h5, e1, List.getD, hz', Option.getD_some]
theorem dirsAt {W : World} {laid : List (String × DataW Unit)} (hp : (laid.all fun x => x.2.handleName?.isNone) = true) (h : laidMetH Tryz.prog laid W)
    (hm : ("loop.example/turtlewalks/impl.directions", Rows.laid_loop_example_turtlewalks_impl_directions) ∈ laid) : DirsAt W := by
  rw [MakeChecks.laidMetH_plain _ _ _ hp] at h
  obtain ⟨_, h, _⟩ := h
  obtain ⟨g, t, cs, fuel, p, h1, h2, h3, h4⟩ := laid_one h hm
  obtain rfl := Option.some.inj (gDirs.symm.trans h1)
  obtain rfl := Option.some.inj (gDirsType.symm.trans h2)
  have hc : ∀ i j, i < 4 → j < 2 → W.cell? ⟨3, i * 2 + j, none⟩ = some (.int .i64 (([[1, 0], [0, 1], [-1, 0], [0, -1]].getD i []).getD j 0)) := fun i j hi hj => by
    rw [World.var?_cell h1 h3 (i * 2 + j)]
    have := cells_of_dirs (zs := [[1, 0], [0, 1], [-1, 0], [0, -1]]) h4 i j hi hj
    rw [← Array.getElem?_toList]
    exact this
  exact ⟨hc 0 0 (by omega) (by omega), hc 0 1 (by omega) (by omega), hc 1 0 (by omega) (by omega), hc 1 1 (by omega) (by omega), hc 2 0 (by omega) (by omega), hc 2 1 (by omega) (by omega), hc 3 0 (by omega) (by omega), hc 3 1 (by omega) (by omega)⟩

end Go.Proofs.YtccdfndnjjjgfaaGreatDoor

namespace Go.Proofs.YtccdfndnjjjgfaaGreatDoor
open Go.ChangeShapes Go.WideShapes Go.ChangeAt Go.RowKit Go.WideMaps Go.WideElems

def wordsList : List (List UInt8) := [[115, 116, 101, 112], [100, 114, 111, 112], [119, 97, 121], [111, 110], [102, 105, 114, 115, 116], [98, 97, 99, 107]]
theorem gWords : Tryz.prog.globalNamed "loop.example/turtlewalks/impl.deedWords" = some 0 := by kernel_rfl
theorem gWordsType : (Tryz.prog.globals[0]?).map (·.type) = some 94 := by kernel_rfl
theorem cellsWord : Tryz.prog.cellsOf 9 = 1 := by kernel_rfl
set_option maxRecDepth 100000 in
theorem wordsAt {W : World} {laid : List (String × DataW Unit)} (hp : (laid.all fun x => x.2.handleName?.isNone) = true) (h : laidMetH Tryz.prog laid W)
    (hm : ("loop.example/turtlewalks/impl.deedWords", Rows.laid_loop_example_turtlewalks_impl_deedWords) ∈ laid) : WordsAt W := by
  rw [MakeChecks.laidMetH_plain _ _ _ hp] at h
  obtain ⟨_, h, _⟩ := h
  obtain ⟨g, t, cs, fuel, p, h1, h2, h3, h4⟩ := laid_one h hm
  obtain rfl := Option.some.inj (gWords.symm.trans h1)
  obtain rfl := Option.some.inj (gWordsType.symm.trans h2)
  intro i hi
  rw [World.var?_cell h1 h3 i]
  have := cells_of_strs (zs := wordsList) Tryz.underlying94 Tryz.underlying9 cellsWord h4 i hi
  rw [← Array.getElem?_toList, this]
  rfl

end Go.Proofs.YtccdfndnjjjgfaaGreatDoor

namespace Go.Proofs.YtccdfndnjjjgfaaGreatDoor
open Go.ChangeShapes Go.WideShapes Go.ChangeAt Go.RowKit Go.WideMaps Go.WideElems

theorem gPow : Tryz.prog.globalNamed "internal/strconv.uint64pow10" = some 4 := by kernel_rfl
theorem gPowType : (Tryz.prog.globals[4]?).map (·.type) = some 179 := by kernel_rfl
theorem cellsPow : Tryz.prog.cellsOf 164 = 1 := by kernel_rfl
theorem cellsPows : Tryz.prog.cellsOf 179 = 20 := by kernel_rfl
theorem powLaid : (Rows.laid_internal_strconv_uint64pow10 : DataW Unit) = Lib.tabData .u64 Lib.pow10Tab := by kernel_rfl
set_option maxRecDepth 100000 in
theorem powAt {W : World} {laid : List (String × DataW Unit)} (hp : (laid.all fun x => x.2.handleName?.isNone) = true) (h : laidMetH Tryz.prog laid W)
    (hm : ("internal/strconv.uint64pow10", Rows.laid_internal_strconv_uint64pow10) ∈ laid) : PowAt W := by
  rw [MakeChecks.laidMetH_plain _ _ _ hp] at h
  obtain ⟨_, h, _⟩ := h
  obtain ⟨g, t, cs, fuel, p, h1, h2, h3, h4⟩ := laid_one h hm
  obtain rfl := Option.some.inj (gPow.symm.trans h1)
  obtain rfl := Option.some.inj (gPowType.symm.trans h2)
  rw [powLaid] at h4
  unfold PowAt Lib.TabIs
  rw [h3, ← Lib.cells_of_tab Tryz.underlying179 Tryz.underlying164 cellsPow cellsPows h4]

end Go.Proofs.YtccdfndnjjjgfaaGreatDoor

namespace Go.Proofs.YtccdfndnjjjgfaaGreatDoor
open Go.RowKit

theorem strs_cell {w : World} {v : Value} {zs : List ByteArray} {a : Option Addr} {c : Nat} (h : StrsAt w v zs) (hv : v = .slice a zs.length c) {j : Nat} (hj : j < zs.length) : ∃ b z, a = some b ∧ zs[j]? = some z ∧ w.cell? (b.add j) = some (.string z) := by
  rcases h with ⟨rfl, rfl⟩ | ⟨b, cap, rfl, hl, hc⟩
  · simp at hj
  · cases hv
    exact ⟨b, zs[j], rfl, List.getElem?_eq_getElem hj, hc j _ (List.getElem?_eq_getElem hj)⟩
theorem take_same {ys zs : List ByteArray} {j : Nat} {y : ByteArray} (h : ys.take j = zs.take j) (hy : ys[j]? = some y) (hz : zs[j]? = some y) : ys.take (j + 1) = zs.take (j + 1) := by
  rw [List.take_add_one, List.take_add_one, h, hy, hz]
set_option maxHeartbeats 800000 in
theorem sameTexts_any (v u : Value) (ys zs : List ByteArray) (w : World) (hv : StrsAt w v ys) (hu : StrsAt w u zs) (hm : zs.length ≤ 1048577) :
    Calls Tryz.prog 29 #[v, u] w fun e w' => e = .returned (.bool (decide (ys = zs))) ∧ Below w.heap.size w w' := by
  obtain ⟨a, c, rfl⟩ := strs_value hv
  obtain ⟨b, d, rfl⟩ := strs_value hu
  have HV := Lib.hid hv
  have HU := Lib.hid hu
  clear hv hu
  by_cases hlen : ys.length = zs.length
  · obtain ⟨n, hN⟩ : ∃ n, zs.length = n := ⟨_, rfl⟩
    have HY := Lib.hid (hlen.trans hN)
    have HZ := Lib.hid hN
    rw [hN] at hlen
    rw [hlen, hN]
    rw [hN] at hm
    clear hlen hN
    go_enter Tryz.func29, Tryz.ntmps29
    go_wp2
    go_loopw [5] (fun i wr => ∃ j : Nat, j ≤ n ∧ i = .int .i64 j ∧ Hid (ys.take j = zs.take j) ∧ Below w.heap.size w wr) (fun i _ => n - (intOf i).toNat)
    case atStart => exact ⟨0, Nat.zero_le _, rfl, rfl, Below.refl _ _⟩
    case round =>
      obtain ⟨j, hj, rfl, HT, hb⟩ := hrel
      by_cases hlt : j < n
      · have hk3 : (0 : Int) ≤ (j : Int) := by omega
        have hk4 : (j : Int) < (n : Int) := by omega
        obtain ⟨a1, y, rfl, hy, c1⟩ := strs_cell (HV.out.below' hb) (by rw [HY.out]) (by rw [HY.out]; exact hlt)
        obtain ⟨b1, z, rfl, hz, c2⟩ := strs_cell (HU.out.below' hb) (by rw [HZ.out]) (by rw [HZ.out]; exact hlt)
        have HYJ := Lib.hid hy
        have HZJ := Lib.hid hz
        clear hy hz
        cases hyz : decide (y = z)
        · have he := (eq_bytes y z).trans hyz
          have HYZ := Lib.hid (of_decide_eq_false hyz)
          clear hyz
          go_wp2_with fail
          go_quiet (fail)
          go_wp2
          go_ret
          refine ⟨?_, below_drewN hb _⟩
          have hne : ys ≠ zs := fun e => HYZ.out (by have h1 := HYJ.out; rw [e, HZJ.out] at h1; exact (Option.some.inj h1).symm)
          simp [hne]
        · have he := (eq_bytes y z).trans hyz
          have HYZ := Lib.hid (of_decide_eq_true hyz)
          clear hyz
          go_wp2_with fail
          go_quiet (fail)
          go_wp2
          go_roundw
          case rel => exact ⟨j + 1, by omega, by go_num, take_same HT.out HYJ.out (HYZ.out ▸ HZJ.out), below_drewN hb _⟩
          case measure => simp [intOf]; omega
      · obtain rfl : j = n := by omega
        go_wp2_with fail
        go_ret
        refine ⟨?_, hb⟩
        have h1 := HT.out
        rw [List.take_of_length_le (by rw [HY.out]; exact Nat.le_refl _), List.take_of_length_le (by rw [HZ.out]; exact Nat.le_refl _)] at h1
        simp [h1]
  · have hne : ys ≠ zs := fun e => hlen (by rw [e])
    have hlen2 : (ys.length : Int) ≠ zs.length := by omega
    go_enter Tryz.func29, Tryz.ntmps29
    go_wp2
    go_ret
    exact ⟨by simp [hne], Below.refl _ _⟩
set_option maxHeartbeats 800000 in
theorem sameDesk_any (s x : ByteArray) (v u : Value) (ys zs : List ByteArray) (w : World) (hv : StrsAt w v ys) (hu : StrsAt w u zs) (hm : zs.length ≤ 1048577) :
    Calls Tryz.prog 23 #[.agg #[.string s, v], .agg #[.string x, u]] w fun e w' => e = .returned (.bool (decide (s = x) && decide (ys = zs))) ∧ Below w.heap.size w w' := by
  obtain ⟨a, c, rfl⟩ := strs_value hv
  obtain ⟨b, d, rfl⟩ := strs_value hu
  obtain ⟨n, hN⟩ : ∃ n, zs.length = n := ⟨_, rfl⟩
  obtain ⟨m, hM⟩ : ∃ m, ys.length = m := ⟨_, rfl⟩
  have hb2 : ∀ o o', Below w.heap.size w ((w.alloc o).alloc o') := fun o o' => ((Below.refl _ _).alloc (Nat.le_refl _) o).alloc (by simp) o'
  have HC : Hid (∀ o o', Calls Tryz.prog 29 #[.slice a m c, .slice b n d] ((w.alloc o).alloc o') fun e w' => e = .returned (.bool (decide (ys = zs))) ∧ Below w.heap.size w w') := fun o o' =>
    (sameTexts_any _ _ ys zs _ ((hM ▸ hv : StrsAt w (.slice a m c) ys).below' (hb2 o o')) ((hN ▸ hu : StrsAt w (.slice b n d) zs).below' (hb2 o o')) hm).mono (by rintro e w' ⟨rfl, hb⟩; exact ⟨rfl, (hb2 o o').trans (hb.mono (by simp; omega))⟩)
  rw [hM, hN]
  obtain ⟨t, ht⟩ : ∃ t, decide (ys = zs) = t := ⟨_, rfl⟩
  rw [ht] at HC ⊢
  clear hv hu hm hN hM ht
  go_enter Tryz.func23, Tryz.ntmps23
  cases hsx : decide (s = x)
  · have he := (eq_bytes s x).trans hsx
    go_wp2
    go_ret
    exact ⟨by simp, hb2 _ _⟩
  · have he := (eq_bytes s x).trans hsx
    go_wp2_with (first | (go_at_call 29; refine (HC.out _ _).mono ?_; rintro e w1 ⟨rfl, hb1⟩))
    go_ret
    exact ⟨by simp, hb1⟩
set_option maxHeartbeats 800000 in
theorem noDesk_any (s : ByteArray) (v : Value) (ys : List ByteArray) (w : World) (hv : StrsAt w v ys) :
    Calls Tryz.prog 25 #[.agg #[.string s, v]] w fun e w' => e = .returned (.bool (decide (s = ⟨#[]⟩) && decide (ys = []))) ∧ Below w.heap.size w w' := by
  obtain ⟨a, c, rfl⟩ := strs_value hv
  obtain ⟨m, hM⟩ : ∃ m, ys.length = m := ⟨_, rfl⟩
  have hb2 : ∀ o, Below w.heap.size w (w.alloc o) := fun o => (Below.refl _ _).alloc (Nat.le_refl _) o
  have HC : Hid (∀ o, Calls Tryz.prog 23 #[.agg #[.string s, .slice a m c], .agg #[.string ⟨#[]⟩, .slice none 0 0]] (w.alloc o) fun e w' => e = .returned (.bool (decide (s = ⟨#[]⟩) && decide (ys = []))) ∧ Below w.heap.size w w') := fun o =>
    (sameDesk_any s ⟨#[]⟩ _ _ ys [] _ ((hM ▸ hv : StrsAt w (.slice a m c) ys).below' (hb2 o)) (.inl ⟨rfl, rfl⟩) (by simp)).mono (by rintro e w' ⟨rfl, hb⟩; exact ⟨rfl, (hb2 o).trans (hb.mono (by simp))⟩)
  rw [hM]
  obtain ⟨t, ht⟩ : ∃ t, (decide (s = ⟨#[]⟩) && decide (ys = [])) = t := ⟨_, rfl⟩
  rw [ht] at HC ⊢
  clear hv hM ht
  go_enter Tryz.func25, Tryz.ntmps25
  go_wp2_with (first | (go_at_call 23; refine (HC.out _).mono ?_; rintro e w1 ⟨rfl, hb1⟩))
  go_ret
  exact ⟨rfl, hb1⟩
end Go.Proofs.YtccdfndnjjjgfaaGreatDoor

namespace Go.Proofs.YtccdfndnjjjgfaaGreatDoor
open Go.RowKit

set_option maxHeartbeats 800000 in
theorem word_yes (w : World) : Calls Tryz.prog 66 #[.string ⟨#[70, 76, 82]⟩] w fun e w' => e = .returned (.bool true) ∧ w = w' := by
  go_enter Tryz.func66, Tryz.ntmps66
  go_wp2
  refine wp_loop_rounds 4 ?_
  rw [rounds_succ]
  go_wp2
  rw [rounds_succ]
  go_wp2
  rw [rounds_succ]
  go_wp2
  rw [rounds_succ]
  go_wp2
  go_ret
  exact ⟨rfl, rfl⟩

set_option maxHeartbeats 800000 in
theorem word_no (w : World) : Calls Tryz.prog 66 #[.string ⟨#[88]⟩] w fun e w' => e = .returned (.bool false) ∧ w = w' := by
  go_enter Tryz.func66, Tryz.ntmps66
  go_wp2
  refine wp_loop_rounds 1 ?_
  rw [rounds_succ]
  go_wp2
  go_ret
  exact ⟨rfl, rfl⟩

set_option maxHeartbeats 800000 in
theorem alive_yes (w : World) : Calls Tryz.prog 26 #[] w fun e w' => e = .returned (.bool true) ∧ w = w' := by
  go_enter Tryz.func26, Tryz.ntmps26
  go_wp2_with (go_at_call 66; first
    | (have hq := st1; refine (word_no _).mono ?_; rintro e w' ⟨rfl, rfl⟩)
    | (refine (word_yes _).mono ?_; rintro e w' ⟨rfl, rfl⟩; have st1 := True.intro))
  go_ret
  exact ⟨rfl, rfl⟩

end Go.Proofs.YtccdfndnjjjgfaaGreatDoor

namespace Go.Proofs.YtccdfndnjjjgfaaGreatDoor
open Go.ChangeShapes Go.WideShapes Go.ChangeAt Go.RowKit Go.WideMaps Go.WideElems

set_option maxRecDepth 100000 in
theorem open_code {H : Type} {enc : TypeId × Value → H} {W : World} {base : Nat} {spare : Nat → Bool} {held : Bool} {r : Reach} {b0 : Nat} {v : Value} {d : DataW H} {p : List MemPlace} (hv : Value.okWide Tryz.prog W r b0 36 v) (h : DataW.Trod enc Tryz.prog W base spare held 36 v d p) :
    ∃ n, CodeAt W v n := by
  obtain ⟨a0, l0, c0, rfl⟩ := okWide_slice Tryz.underlying36 hv
  obtain ⟨fuel, hf⟩ := h
  rcases Go.ChangeShapes.open_ints Tryz.underlying36 Tryz.underlying5 (by kernel_rfl) hf with ⟨hv1, _⟩ | ⟨a, len, cap, zs, hv1, _, hl, _, hlen, _, hc, hzs⟩
  · simp [Value.cells] at hv1
    obtain ⟨rfl, rfl, rfl⟩ := hv1
    exact ⟨0, .inl ⟨rfl, rfl⟩⟩
  · simp [Value.cells] at hv1
    obtain ⟨rfl, rfl, rfl⟩ := hv1
    refine ⟨l0, .inr ⟨a, c0, rfl, hl, fun j hj => ?_⟩⟩
    have hj2 : j < zs.length := by rw [hlen]; split <;> omega
    have hw := hzs _ (List.getElem_mem hj2)
    have hcj := hc j hj2
    rw [List.getD, List.getElem?_eq_getElem hj2, Option.getD_some] at hcj
    refine ⟨_, ?_, ?_, hcj⟩ <;> (have := hw; simp [Lit.wf, IntKind.min, IntKind.max, IntKind.signed, IntKind.bits] at this; omega)

end Go.Proofs.YtccdfndnjjjgfaaGreatDoor

namespace Go.Proofs.YtccdfndnjjjgfaaGreatDoor.fnDeskSay
open Go.ChangeShapes Go.WideShapes Go.ChangeAt Go.RowKit Go.WideMaps Go.WideElems
open Go.ChangeMaps (open_string shut_string)

theorem same_is (s x : ByteArray) (v u : Value) (ys zs : List ByteArray) (w : World) (hv : StrsAt w v ys) (hu : StrsAt w u zs) (hm : zs.length ≤ 1048577) (b : Bool) (hb : (decide (s = x) && decide (ys = zs)) = b) :
    Calls Tryz.prog 23 #[.agg #[.string s, v], .agg #[.string x, u]] w fun e w' => e = .returned (.bool b) ∧ Below w.heap.size w w' := hb ▸ sameDesk_any s x v u ys zs w hv hu hm
theorem texts_is (v u : Value) (ys : List ByteArray) (w : World) (hv : StrsAt w v ys) (hu : StrsAt w u ys) (hm : ys.length ≤ 1048577) :
    Calls Tryz.prog 29 #[v, u] w fun e w' => e = .returned (.bool true) ∧ Below w.heap.size w w' := by
  have := sameTexts_any v u ys ys w hv hu hm
  rwa [decide_eq_true rfl] at this
theorem okS_is (s : ByteArray) (v : Value) (zs : List ByteArray) (w : World) (h : PastAt w v zs) (hs : s.size ≤ 1048576) (hl : zs.length ≤ 1048576) (hz : ∀ z ∈ zs, z.size ≤ 1048576) (b : Bool) (hb : deskOk s zs = b) :
    Calls Tryz.prog 24 #[.agg #[.string s, v]] w fun e w' => e = .returned (.bool b) ∧ Below w.heap.size w w' := hb ▸ specDeskOk s v zs w h.strs hs hl hz
theorem tt (x : ByteArray) (ys : List ByteArray) : (decide (x = x) && decide (ys = ys)) = true := by rw [decide_eq_true rfl, decide_eq_true rfl]; rfl
theorem noDesk_is (v : Value) (w : World) (hv : StrsAt w v []) :
    Calls Tryz.prog 25 #[.agg #[.string ⟨#[]⟩, v]] w fun e w' => e = .returned (.bool true) ∧ Below w.heap.size w w' := by
  have := noDesk_any ⟨#[]⟩ v [] w hv
  rwa [decide_eq_true rfl, decide_eq_true rfl] at this
/-- The result of saying is of the size of a desk. -/
theorem say_small (s : ByteArray) (zs ls : List ByteArray) {x : ByteArray} {ys ts : List ByteArray} (h : deskSay s zs ls = ((x, ys), ts)) : x.size ≤ 41 ∧ ys.length ≤ 8 ∧ (∀ z ∈ ys, z.size ≤ 41) ∧ ts.length ≤ 40 ∧ (deskOk s zs = true ∧ ls.length ≤ 40 → deskOk x ys = true ∧ ts.length = ls.length ∧ ∀ t ∈ ts, 0 < t.size) := by
  by_cases hok : deskOk s zs = true ∧ ls.length ≤ 40
  · rw [show deskSay s zs ls = sayTo s zs ls from if_pos hok] at h
    have h1 := say_ok hok.1 ls
    have h2 := say_some s zs ls
    rw [h] at h1 h2
    obtain ⟨h3, h4⟩ := h1
    dsimp only at h3 h4 h2
    obtain ⟨p1, p2, p3⟩ := deskOk_parts h3
    have := ok_size p1
    exact ⟨by omega, p2, fun z hz => by have := ok_size (p3 z hz); omega, by have := hok.2; omega, fun _ => ⟨h3, h4, h2⟩⟩
  · rw [show deskSay s zs ls = ((⟨#[]⟩, []), []) from if_neg hok] at h
    simp only [Prod.mk.injEq] at h
    obtain ⟨⟨rfl, rfl⟩, rfl⟩ := h
    exact ⟨by decide, by simp, by simp, by simp, fun h => absurd h hok⟩
/-- In two parts. -/
theorem say_two {s : ByteArray} {zs ls : List ByteArray} (hok : deskOk s zs = true) (hl : ls.length ≤ 40) (k : Nat) {x0 x1 x2 : ByteArray} {y0 y1 y2 t0 t1 t2 : List ByteArray} (h0 : deskSay s zs ls = ((x0, y0), t0)) (h1 : deskSay s zs (ls.take k) = ((x1, y1), t1)) (h2 : deskSay x1 y1 (ls.drop k) = ((x2, y2), t2)) : x2 = x0 ∧ y2 = y0 ∧ t1 ++ t2 = t0 := by
  rw [show deskSay s zs ls = sayTo s zs ls from if_pos ⟨hok, hl⟩] at h0
  rw [show deskSay s zs (ls.take k) = sayTo s zs (ls.take k) from if_pos ⟨hok, by rw [List.length_take]; omega⟩] at h1
  have hk := (say_ok hok (ls.take k)).1
  rw [h1] at hk
  rw [show deskSay x1 y1 (ls.drop k) = sayTo x1 y1 (ls.drop k) from if_pos ⟨hk, by rw [List.length_drop]; omega⟩] at h2
  have hp := say_parts s zs (ls.take k) (ls.drop k)
  rw [List.take_append_drop, h0, h1] at hp
  dsimp only at hp
  rw [h2] at hp
  simp only [Prod.mk.injEq] at hp
  exact ⟨hp.1.1.symm, hp.1.2.symm, hp.2.symm⟩
theorem not_read {l : List UInt8} {c : UInt8} (hl : l.head? = some c) (hc : c = 99 ∨ c = 110) : (readOf l).2 = false := by
  cases h : (readOf l).2
  · rfl
  · obtain ⟨h0, h1⟩ := readOf_text h
    have ht := told_of (k := (readOf l).1.1) (n := (readOf l).1.2) (by rw [h1]; exact h0)
    have hh := head_text ht
    rw [h1, hl] at hh
    have hk : (readOf l).1.1 = 0 ∨ (readOf l).1.1 = 1 ∨ (readOf l).1.1 = 2 ∨ (readOf l).1.1 = 3 ∨ (readOf l).1.1 = 4 ∨ (readOf l).1.1 = 5 := by unfold told at ht; omega
    have hh2 := Option.some.inj hh
    rcases hk with h9 | h9 | h9 | h9 | h9 | h9
    all_goals
      rw [h9] at hh2
      rcases hc with rfl | rfl
      · exact absurd hh2 (by decide)
      · exact absurd hh2 (by decide)
theorem cell_line (x : ByteArray) (ys : List ByteArray) : lineOf x ys ⟨#[99, 101, 108, 108, 32, 50, 32, 49, 53]⟩ = ((x, ys), ⟨#[51, 44, 48]⟩) := by
  rw [lineOf_else (not_read (c := 99) rfl (.inl rfl)), answer_curve (by decide)]
  have : curveText (⟨#[99, 101, 108, 108, 32, 50, 32, 49, 53]⟩ : ByteArray).data.toList = ⟨#[51, 44, 48]⟩ := by decide +kernel
  rw [this]
theorem numb_line (x : ByteArray) (ys : List ByteArray) : lineOf x ys ⟨#[110, 117, 109, 98, 101, 114, 32, 50, 32, 51, 32, 48]⟩ = ((x, ys), ⟨#[49, 53]⟩) := by
  rw [lineOf_else (not_read (c := 110) rfl (.inr rfl)), answer_curve (by decide)]
  have : curveText (⟨#[110, 117, 109, 98, 101, 114, 32, 50, 32, 51, 32, 48]⟩ : ByteArray).data.toList = ⟨#[49, 53]⟩ := by decide +kernel
  rw [this]
/-- The program's DeskSay at named results. -/
theorem say_is (s : ByteArray) (v : Value) (zs : List ByteArray) (u : Value) (ls : List ByteArray) (w : World) (h : PastAt w v zs) (hd : StrsAt w u ls) (hs : s.size ≤ 1048576) (hL : zs.length ≤ 1048576) (hz : ∀ z ∈ zs, z.size ≤ 1048576) (hn : ls.length ≤ 1048576) (hlz : ∀ z ∈ ls, z.size ≤ 1048576) (ht : TabsAt w) {x : ByteArray} {ys ts : List ByteArray} (he : deskSay s zs ls = ((x, ys), ts)) (m : Nat) (hm : ys.length = m) (q : Nat) (hq : ts.length = q) :
    Calls Tryz.prog 13 #[.agg #[.string s, v], u] w fun e w' => ∃ a c b d, e = .returned (.tuple #[.agg #[.string x, .slice a m c], .slice b q d]) ∧ PastAt w' (.slice a m c) ys ∧ Fresh w.heap.size (.slice a m c) ∧ PastAt w' (.slice b q d) ts ∧ Fresh w.heap.size (.slice b q d) ∧ Below w.heap.size w w' := by
  refine (implDeskSay s v zs u ls w h hd hs hL hz hn hlz ht).mono ?_
  rintro e w' ⟨v', u', rfl, hp, hf, hpu, hfu, _, hb⟩
  rw [he] at hp hpu ⊢
  obtain ⟨a, c, rfl⟩ := past_slice hp hm
  obtain ⟨b, d, rfl⟩ := past_slice hpu hq
  exact ⟨a, c, b, d, rfl, hp, hf, hpu, hfu, hb⟩
theorem sayS_is (s : ByteArray) (v : Value) (zs : List ByteArray) (u : Value) (ls : List ByteArray) (w : World) (h : StrsAt w v zs) (hd : StrsAt w u ls) (hs : s.size ≤ 1048576) (hL : zs.length ≤ 1048576) (hz : ∀ z ∈ zs, z.size ≤ 1048576) (hn : ls.length ≤ 1048576) (hlz : ∀ z ∈ ls, z.size ≤ 1048576) {x : ByteArray} {ys ts : List ByteArray} (he : deskSay s zs ls = ((x, ys), ts)) (m : Nat) (hm : ys.length = m) (q : Nat) (hq : ts.length = q) :
    Calls Tryz.prog 10 #[.agg #[.string s, v], u] w fun e w' => ∃ a c b d, e = .returned (.tuple #[.agg #[.string x, .slice a m c], .slice b q d]) ∧ PastAt w' (.slice a m c) ys ∧ Fresh w.heap.size (.slice a m c) ∧ PastAt w' (.slice b q d) ts ∧ Fresh w.heap.size (.slice b q d) ∧ Below w.heap.size w w' := by
  refine (specDeskSay s v zs u ls w h hd hs hL hz hn hlz).mono ?_
  rintro e w' ⟨v', u', rfl, hp, hf, hpu, hfu, _, hb⟩
  rw [he] at hp hpu ⊢
  obtain ⟨a, c, rfl⟩ := past_slice hp hm
  obtain ⟨b, d, rfl⟩ := past_slice hpu hq
  exact ⟨a, c, b, d, rfl, hp, hf, hpu, hfu, hb⟩
theorem line_is (x : ByteArray) (v : Value) (ys : List ByteArray) (X t : ByteArray) (w : World) (h : PastAt w v ys) (hok : deskOk x ys = true) (hX : X.size ≤ 1048576) (ht : TabsAt w) (hl : lineOf x ys X = ((x, ys), t)) (m : Nat) (hm : ys.length = m) :
    Calls Tryz.prog 21 #[.agg #[.string x, v], .string X] w fun e w' => ∃ a c, e = .returned (.tuple #[.agg #[.string x, .slice a m c], .string t]) ∧ PastAt w' (.slice a m c) ys ∧ Below w.heap.size w w' := by
  have := implLine_ok x v ys X w h hok hX ht
  rw [hl] at this
  refine this.mono ?_
  rintro e w' ⟨v', rfl, hp, _, hb⟩
  obtain ⟨a, c, rfl⟩ := past_slice hp hm
  exact ⟨a, c, rfl, hp, hb⟩
theorem drop_strs {w : World} {g n cap k : Nat} {ls : List ByteArray} (h : PastAt w (.slice (some ⟨g, 0, none⟩) n cap) ls) (hn : ls.length = n) (hk : k ≤ n) : StrsAt w (.slice (some ⟨g, k, none⟩) (n - k) (cap - k)) (ls.drop k) := by
  rcases h with ⟨h, _⟩ | ⟨g', off, cap', cur, he, hl, hg, hc, hz⟩
  · cases h
  · simp only [Value.slice.injEq, Option.some.injEq, Addr.mk.injEq, and_true] at he
    obtain ⟨⟨rfl, rfl⟩, _, rfl⟩ := he
    refine .inr ⟨⟨g, k, none⟩, cap - k, by rw [List.length_drop, hn], by rw [List.length_drop, hn]; omega, fun j z hj => ?_⟩
    have e : (⟨g, k, none⟩ : Addr).add j = ⟨g, k + j, none⟩ := by unfold Addr.add; split <;> simp_all
    rw [List.getElem?_drop] at hj
    have := hz (k + j) z hj
    rw [Nat.zero_add] at this
    rw [e]
    exact (cell_of_row _ _ _ _ _ _ hg).trans this
section
variable {P : Program} {w : World}
/-- A slice is appended to a slice of the call's own, at whatever operation that runs. -/
theorem wp_append_src {o : Oper} {a : Act} {K : Act → World → Prop} {Q : Exit → Act → World → Prop}
    (s x : Operand) (t : TypeId) (hop : o.op = Op.call { callee := Callee.builtin Builtin.append, args := #[s, x], argTypes := #[t, t] })
    (base : Nat) (e : TypeId) (i : TypeInfo) (z : Value) (size bytes : Nat) (ht : P.underlying t = some (.slice e)) (hi : P.info? e = some i) (hz : i.zero = some z)
    (hsize : i.size = size) (hby : i.bytes = bytes) (hzs : z.cells.size = size) (hsz : 0 < size)
    (v : Value) (n : Nat) (xs : List Value) (hs : a.eval s = v) (hown : w.ownsRow base e size v n xs) (hv : v ≠ .slice none 0 0)
    (u : Value) (m : Nat) (news : List Value) (hx : a.eval x = u) (hsrc : (u = .slice none 0 0 ∧ m = 0 ∧ news = []) ∨ ∃ ad c, u = .slice (some ad) m c ∧ news.length = m * size ∧ ∀ j u, news[j]? = some u → w.cell? (ad.add j) = some u)
    (h1 : ∀ u ∈ news, u.oneCell' = true) (h63 : n + m ≤ maxLen) (hbytes : (n + m) * bytes ≤ 140737488355328) (hbase : base ≤ w.heap.size)
    (h : ∀ v' w', w'.ownsRow base e size v' (n + m) (xs ++ news) → w.grownBy w' v.ownBlock → v' ≠ .slice none 0 0 → K (a.put o.dst v') w') : Oper.wp P o a w K Q := by
  rcases hsrc with ⟨rfl, rfl, rfl⟩ | ⟨ad, c, rfl, hl, hnews⟩
  · have hrun := run_append_owned_none (P := P) (w := w) base t o.type e i size ht hi v n xs hown
    unfold Oper.wp
    simp [execOp, hop, resolve, invoke, builtin, hs, hx, hrun, Result.andThen]
    exact h v w (by simpa using hown) ⟨rfl, rfl, rfl, Nat.le_refl _, fun _ _ _ => rfl⟩ hv
  · exact wp_append_own w s x t hop base e i z size bytes ht hi hz hsize hby hzs hsz v n xs hs hown ad m c news hx hl hnews h1 h63 hbytes hbase (fun v' w' h2 h3 h4 => h v' w' h2 h3 (fun e => hv (h4.1 e).1))
theorem wpList_append_on {ops : Array Oper} {rest : List Oper} {o : Oper} {a : Act} {Q : Exit → Act → World → Prop} (hw : Region.wanted o (yielded ops a.tmps) = true)
    (s x : Operand) (t : TypeId) (hop : o.op = Op.call { callee := Callee.builtin Builtin.append, args := #[s, x], argTypes := #[t, t] })
    (base : Nat) (e : TypeId) (i : TypeInfo) (z : Value) (size bytes : Nat) (ht : P.underlying t = some (.slice e)) (hi : P.info? e = some i) (hz : i.zero = some z)
    (hsize : i.size = size) (hby : i.bytes = bytes) (hzs : z.cells.size = size) (hsz : 0 < size)
    (v : Value) (n : Nat) (xs : List Value) (hs : a.eval s = v) (hown : w.ownsRow base e size v n xs) (hv : v ≠ .slice none 0 0)
    (u : Value) (m : Nat) (news : List Value) (hx : a.eval x = u) (hsrc : (u = .slice none 0 0 ∧ m = 0 ∧ news = []) ∨ ∃ ad c, u = .slice (some ad) m c ∧ news.length = m * size ∧ ∀ j u, news[j]? = some u → w.cell? (ad.add j) = some u)
    (h1 : ∀ u ∈ news, u.oneCell' = true) (h63 : n + m ≤ maxLen) (hbytes : (n + m) * bytes ≤ 140737488355328) (hbase : base ≤ w.heap.size) (N : Nat) (hN : n + m = N)
    (h : ∀ v' w', w'.ownsRow base e size v' N (xs ++ news) → w.grownBy w' v.ownBlock → v' ≠ .slice none 0 0 → wpList P ops Q rest (a.put o.dst v') w') : wpList P ops Q (o :: rest) a w :=
  wpList_step fun K hK => by
    subst hN
    rw [if_pos hw]
    exact wp_append_src s x t hop base e i z size bytes ht hi hz hsize hby hzs hsz v n xs hs hown hv u m news hx hsrc h1 h63 hbytes hbase (fun v' w' h2 h3 h4 => hK _ _ (h v' w' h2 h3 h4))
end
theorem src_named {w : World} {a : Option Addr} {n c : Nat} {zs : List ByteArray} (h : StrsAt w (.slice a n c) zs) (hn : zs.length = n) : ((Value.slice a n c) = .slice none 0 0 ∧ n = 0 ∧ strVals zs = []) ∨ ∃ ad c', (Value.slice a n c) = .slice (some ad) n c' ∧ (strVals zs).length = n * 1 ∧ ∀ j u, (strVals zs)[j]? = some u → w.cell? (ad.add j) = some u := by
  have := src_of h
  rwa [hn] at this
theorem past_new {X : World} {u : Value} {ts : List ByteArray} (h : PastAt X u ts) (o : Obj) : PastAt (X.alloc o) u ts := ((Ext.refl X).alloc o).past h
theorem own_nil {W : World} {base : Nat} {e : TypeId} {v : Value} {n : Nat} {xs : List Value} (h : W.ownsRow base e 1 v n ([] ++ xs)) : W.ownsRow base e 1 v n xs := by rwa [List.nil_append] at h
theorem past_app {W : World} {base g c q1 q2 : Nat} {t0 t1 t2 : List ByteArray} (h : W.ownsRow base 9 1 (.slice (some ⟨g, 0, none⟩) (q1 + q2) c) (q1 + q2) (strVals t1 ++ strVals t2)) (ht : t1 ++ t2 = t0) (h1 : t1.length = q1) (h2 : t2.length = q2) : PastAt W (.slice (some ⟨g, 0, none⟩) (q1 + q2) c) t0 := by
  have e1 : t0.length = q1 + q2 := by rw [← ht, List.length_append, h1, h2]
  have e2 : strVals t0 = strVals t1 ++ strVals t2 := by rw [← ht]; unfold strVals; rw [List.map_append]
  exact past_own (by rw [e1, e2]; exact h)

set_option maxRecDepth 100000 in
set_option maxHeartbeats 6400000 in
theorem walk (v : Value) (n : Nat) (w : World) (hw : WaysAt w) (hd : DirsAt w) (hwd : WordsAt w) (hmx : MaxAt w) (hpw : PowAt w) (h : CodeAt w v n) :
    Calls Tryz.prog 5 #[v] w fun e w' => e = .returned (.bool true) ∧ Below w.heap.size w w' := by
  obtain ⟨i0, hi0, hz0, hz1, hz2⟩ := info_parts stringInfo
  have hdraw := drawDeskSay v n w h
  obtain ⟨a, cap, rfl⟩ := code_value h
  have HD := Lib.hid hdraw
  clear hdraw h
  by_cases hn : n ≤ 1048576
  · have HT : Hid (TabsAt w) := ⟨hw, hd, hwd, hmx, hpw⟩
    clear hw hd hwd hmx hpw
    go_enter Tryz.func5, Tryz.ntmps5
    go_upto_region 4 with (go_at_call 28; refine HD.out.mono ?_; rintro e w1 ⟨s, u, zs, g, cp, ls, rfl, hk, hkl, hcp, hb1⟩; obtain ⟨aU, cU, hvU⟩ := past_slice hk.past (M := zs.length) rfl; subst hvU; have HK := Lib.hid hk; have HKL := Lib.hid hkl; have hs41 := hk.hs; have hl9 := hk.hl; have hN41 := hkl.hl; clear hk hkl)
    obtain ⟨L, hL⟩ : ∃ L, zs.length = L := ⟨_, rfl⟩
    obtain ⟨N, hN⟩ : ∃ N, ls.length = N := ⟨_, rfl⟩
    rw [hL] at HK hl9 ⊢
    rw [hN] at HKL hN41 hcp ⊢
    have HL := Lib.hid hL
    have HN := Lib.hid hN
    have HZ : Hid (∀ z ∈ zs, z.size ≤ 1048576) := fun z hz => by have := HK.out.hz z hz; omega
    have HLZ : Hid (∀ z ∈ ls, z.size ≤ 1048576) := fun z hz => by have := HKL.out.hz z hz; omega
    obtain ⟨x0, hx0⟩ : ∃ x, (deskSay s zs ls).1.1 = x := ⟨_, rfl⟩
    obtain ⟨y0, hy0⟩ : ∃ x, (deskSay s zs ls).1.2 = x := ⟨_, rfl⟩
    obtain ⟨t0, ht0⟩ : ∃ x, (deskSay s zs ls).2 = x := ⟨_, rfl⟩
    have HR : Hid (deskSay s zs ls = ((x0, y0), t0)) := by show deskSay s zs ls = _; rw [← hx0, ← hy0, ← ht0]
    obtain ⟨hsm1, hsm2, hsm3, hsm4, hsm5⟩ := say_small s zs ls HR.out
    have HSM := Lib.hid hsm3
    have HSY := Lib.hid hsm5
    obtain ⟨m, hM⟩ : ∃ m, y0.length = m := ⟨_, rfl⟩
    obtain ⟨q, hQ⟩ : ∃ m, t0.length = m := ⟨_, rfl⟩
    rw [hM] at hsm2
    rw [hQ] at hsm4
    have HM := Lib.hid hM
    have HQ := Lib.hid hQ
    have HDS : Hid (∀ (u : Value) (W : World), StrsAt W u zs → StrsAt W (.slice (some ⟨g, 0, none⟩) N cp) ls → Calls Tryz.prog 10 #[.agg #[.string s, u], .slice (some ⟨g, 0, none⟩) N cp] W fun e w' => ∃ a c b d, e = .returned (.tuple #[.agg #[.string x0, .slice a m c], .slice b q d]) ∧ PastAt w' (.slice a m c) y0 ∧ Fresh W.heap.size (.slice a m c) ∧ PastAt w' (.slice b q d) t0 ∧ Fresh W.heap.size (.slice b q d) ∧ Below W.heap.size W w') := fun u W hu hd =>
      sayS_is s u zs _ ls W hu hd (by omega) (by rw [HL.out]; omega) HZ.out (by rw [HN.out]; omega) HLZ.out HR.out m HM.out q HQ.out
    have HDI : Hid (∀ (u : Value) (W : World), PastAt W u zs → StrsAt W (.slice (some ⟨g, 0, none⟩) N cp) ls → TabsAt W → Calls Tryz.prog 13 #[.agg #[.string s, u], .slice (some ⟨g, 0, none⟩) N cp] W fun e w' => ∃ a c b d, e = .returned (.tuple #[.agg #[.string x0, .slice a m c], .slice b q d]) ∧ PastAt w' (.slice a m c) y0 ∧ Fresh W.heap.size (.slice a m c) ∧ PastAt w' (.slice b q d) t0 ∧ Fresh W.heap.size (.slice b q d) ∧ Below W.heap.size W w') := fun u W hu hd hww =>
      say_is s u zs _ ls W hu hd (by omega) (by rw [HL.out]; omega) HZ.out (by rw [HN.out]; omega) HLZ.out hww HR.out m HM.out q HQ.out
    clear hL hN hx0 hy0 ht0 hM hQ hsm3 hsm5
    obtain ⟨W2, hW2⟩ : ∃ W2, w1.alloc (.cells #[.string s, .slice aU L cU] 27) = W2 := ⟨_, rfl⟩
    have r0 : W2.heap[w1.heap.size]? = some (.cells #[.string s, .slice aU L cU] 27 (0, 0)) := hW2 ▸ heap_alloc_new w1 _
    have e2 : Ext w1 W2 := hW2 ▸ (Ext.refl w1).alloc _
    have hs2 : w1.heap.size < W2.heap.size := by rw [← hW2]; simp
    rw [hW2]
    obtain ⟨D1, hD1⟩ : ∃ D1, w1.heap.size = D1 := ⟨_, rfl⟩
    rw [hD1] at hs2 r0 ⊢
    have HP2 := Lib.hid (e2.past HK.out.past)
    have HX2 := Lib.hid (e2.past HKL.out.past)
    have hB2 : Below w.heap.size w W2 := hb1.trans (Below.mono e2 hb1.size)
    have HT2 := Lib.hid (HT.out.below' hB2)
    have HS : Hid (∀ X, Ext W2 X → X.cell? ⟨D1, 0, none⟩ = some (.string s) ∧ X.cell? ⟨D1, 1, none⟩ = some (.slice aU L cU)) := fun X hX => two_cells (hX.row r0)
    have hB2s := hB2.size
    obtain ⟨d0, d1⟩ := HS.out W2 (Ext.refl _)
    clear hW2 hD1 r0 e2 hb1
    go_upto_region 8 with (first
      | (go_at_call 13; refine (HDI.out _ _ HP2.out HX2.out.strs HT2.out).mono ?_; rintro e w3 ⟨a3, c3, b3, d3, rfl, hp3, hf3, hu3, hfu3, hb3⟩; have E3' : Ext W2 w3 := hb3; have E3 : Hid (Ext W2 (w3.alloc (.cells #[.string x0, .slice a3 m c3] 27))) := E3'.alloc _; have BX3 := Lib.hid (box_new (x := x0) hp3 (fresh_ext (Ext.refl _) hf3) E3'.size); have UX3 := Lib.hid (((Ext.refl w3).alloc (.cells #[.string x0, .slice a3 m c3] 27)).past hu3); obtain ⟨f0, f1⟩ := HS.out _ E3.out; obtain ⟨f4, f5⟩ := BX3.out.cells; clear hp3 hf3 hb3 hu3 hfu3)
      | (go_at_call 10; refine (HDS.out _ _ (E3.out.past HP2.out).strs (E3.out.past HX2.out).strs).mono ?_; rintro e w5 ⟨a5, c5, b5, d5, rfl, hp5, hf5, hu5, hfu5, hb5⟩; have E5' : Ext W2 w5 := Ext.call E3.out hb5; have E5 : Hid (Ext W2 (w5.alloc (.cells #[.string x0, .slice a5 m c5] 27))) := E5'.alloc _; have E35 : Hid (Ext (w3.alloc (.cells #[.string x0, .slice a3 m c3] 27)) (w5.alloc (.cells #[.string x0, .slice a5 m c5] 27))) := (show Ext (w3.alloc (.cells #[.string x0, .slice a3 m c3] 27)) w5 from hb5).alloc _; have BX5 := Lib.hid (BX3.out.ext E35.out); have UX5 := Lib.hid (E35.out.past UX3.out); have UY5 := Lib.hid (((Ext.refl w5).alloc (.cells #[.string x0, .slice a5 m c5] 27)).past hu5); have BY5 := Lib.hid (box_new (A := W2.heap.size) (x := x0) hp5 (fresh_ext E3.out hf5) (Ext.size E5')); obtain ⟨g0, g1⟩ := HS.out _ E5.out; obtain ⟨g4, g5⟩ := BX5.out.cells; obtain ⟨g6, g7⟩ := BY5.out.cells; have SM5 := Lib.hid (same_is x0 x0 _ _ y0 y0 _ BX5.out.past.strs BY5.out.past.strs (by rw [HM.out]; omega) true (tt x0 y0)); clear hp5 hf5 hb5 hu5 hfu5)
      | (go_at_call 23; refine SM5.out.mono ?_; rintro e w6 ⟨rfl, hb6⟩; have E6 : Hid (Ext _ w6) := hb6; clear hb6)
      | (go_at_call 29; refine (texts_is _ _ t0 _ (E6.out.past UX5.out).strs (E6.out.past UY5.out).strs (by rw [HQ.out]; omega)).mono ?_; rintro e w7 ⟨rfl, hb7⟩; have E57 := Lib.hid (Ext.call E6.out hb7); have E7 := Lib.hid (E5.out.trans E57.out); have BX7 := Lib.hid (BX5.out.ext E57.out); have UX7 := Lib.hid (E57.out.past UX5.out); obtain ⟨i0', i1'⟩ := HS.out _ E7.out; obtain ⟨i4, i5⟩ := BX7.out.cells; clear hb7))
    have OKS : Hid (∀ (b : Bool) (X : World), deskOk s zs = b → Ext W2 X → Calls Tryz.prog 24 #[.agg #[.string s, .slice aU L cU]] X fun e w' => e = .returned (.bool b) ∧ Below X.heap.size X w') := fun b X hb hX => okS_is s _ zs X (hX.past HP2.out) (by omega) (by rw [HL.out]; omega) HZ.out b hb
    clear d0 d1 f0 f1 f4 f5 g0 g1 g4 g5 g6 g7
    have hyes : (deskOk s zs = false ∨ (deskOk s zs = true ∧ 40 < N)) ∨ (deskOk s zs = true ∧ N ≤ 40) := by
      cases deskOk s zs
      · exact .inl (.inl rfl)
      · by_cases h40 : N ≤ 40
        · exact .inr ⟨rfl, h40⟩
        · exact .inl (.inr ⟨rfl, by omega⟩)
    rcases hyes with hno | ⟨hok, h40⟩
    · have hz0' : deskSay s zs ls = ((⟨#[]⟩, []), []) := by
        unfold deskSay
        rw [if_neg]
        rintro ⟨h1, h2⟩
        rw [HN.out] at h2
        rcases hno with h3 | h3
        · rw [h3] at h1; cases h1
        · omega
      obtain ⟨e1, e2, e3⟩ : x0 = ⟨#[]⟩ ∧ y0 = [] ∧ q = 0 := by
        have h9 := HR.out
        rw [hz0'] at h9
        simp only [Prod.mk.injEq] at h9
        exact ⟨h9.1.1.symm, h9.1.2.symm, by rw [← HQ.out, ← h9.2]; rfl⟩
      subst e1 e2 e3
      have ND : Hid (∀ X, Ext w7 X → Calls Tryz.prog 25 #[.agg #[.string ⟨#[]⟩, .slice a3 m c3]] X fun e w' => e = .returned (.bool true) ∧ Below X.heap.size X w') := fun X hX => noDesk_is _ X (hX.past BX7.out.past).strs
      have HS7 : Hid (∀ X, Ext w7 X → X.cell? ⟨w3.heap.size, 0, none⟩ = some (.string ⟨#[]⟩) ∧ X.cell? ⟨w3.heap.size, 1, none⟩ = some (.slice a3 m c3)) := fun X hX => (BX7.out.ext hX).cells
      clear hz0'
      rcases hno with h3 | ⟨h3, h4⟩
      all_goals
        have OK8 := Lib.hid (OKS.out _ w7 h3 E7.out)
        clear h3
        go_wp2_with (first
          | (go_at_call 24; refine OK8.out.mono ?_; rintro e w8 ⟨rfl, hb8⟩; have E8 : Hid (Ext w7 w8) := hb8; obtain ⟨j0, j1⟩ := HS7.out _ E8.out; clear hb8)
          | (go_at_call 25; refine (ND.out _ E8.out).mono ?_; rintro e w9 ⟨rfl, hb9⟩; have E9 : Hid (Ext w7 w9) := Ext.call E8.out hb9; clear hb9)
          | (go_at_call 26; refine (alive_yes _).mono ?_; rintro e w' ⟨rfl, rfl⟩))
        go_ret
        exact ⟨rfl, Ext.below hB2 (E7.out.trans E9.out) hB2s⟩
    · have OK8 := Lib.hid (OKS.out _ w7 hok E7.out)
      obtain ⟨hok0, hqn, hsome⟩ := HSY.out ⟨hok, by rw [HN.out]; exact h40⟩
      rw [HQ.out, HN.out] at hqn
      have HOK0 := Lib.hid hok0
      have HSOME := Lib.hid hsome
      have h40' : (N : Int) ≤ 40 := by omega
      obtain ⟨hf, hh⟩ : ∃ hf, N / 2 = hf := ⟨_, rfl⟩
      have eqh : (N : Int) / 2 = (hf : Int) := by omega
      have hfN : hf ≤ N := by omega
      have hfc : hf ≤ cp := by omega
      obtain ⟨x1, hx1⟩ : ∃ x, (deskSay s zs (ls.take hf)).1.1 = x := ⟨_, rfl⟩
      obtain ⟨y1, hy1⟩ : ∃ x, (deskSay s zs (ls.take hf)).1.2 = x := ⟨_, rfl⟩
      obtain ⟨t1, ht1⟩ : ∃ x, (deskSay s zs (ls.take hf)).2 = x := ⟨_, rfl⟩
      have HR1 : Hid (deskSay s zs (ls.take hf) = ((x1, y1), t1)) := by show deskSay s zs (ls.take hf) = _; rw [← hx1, ← hy1, ← ht1]
      obtain ⟨x2, hx2⟩ : ∃ x, (deskSay x1 y1 (ls.drop hf)).1.1 = x := ⟨_, rfl⟩
      obtain ⟨y2, hy2⟩ : ∃ x, (deskSay x1 y1 (ls.drop hf)).1.2 = x := ⟨_, rfl⟩
      obtain ⟨t2, ht2⟩ : ∃ x, (deskSay x1 y1 (ls.drop hf)).2 = x := ⟨_, rfl⟩
      have HR2 : Hid (deskSay x1 y1 (ls.drop hf) = ((x2, y2), t2)) := by show deskSay x1 y1 (ls.drop hf) = _; rw [← hx2, ← hy2, ← ht2]
      obtain ⟨rfl, rfl, htt⟩ := say_two hok (by rw [HN.out]; exact h40) hf HR.out HR1.out HR2.out
      have HTT := Lib.hid htt
      obtain ⟨s1a, s1b, s1c, s1d, _⟩ := say_small s zs _ HR1.out
      obtain ⟨_, _, _, s2d, _⟩ := say_small x1 y1 _ HR2.out
      have HSM1 := Lib.hid s1c
      obtain ⟨m1, hM1⟩ : ∃ m, y1.length = m := ⟨_, rfl⟩
      obtain ⟨q1, hQ1⟩ : ∃ m, t1.length = m := ⟨_, rfl⟩
      obtain ⟨q2, hQ2⟩ : ∃ m, t2.length = m := ⟨_, rfl⟩
      rw [hM1] at s1b
      rw [hQ1] at s1d
      rw [hQ2] at s2d
      have HM1 := Lib.hid hM1
      have HQ1 := Lib.hid hQ1
      have HQ2 := Lib.hid hQ2
      have HDI1 : Hid (∀ X, Ext W2 X → Calls Tryz.prog 13 #[.agg #[.string s, .slice aU L cU], .slice (some ⟨g, 0, none⟩) hf cp] X fun e w' => ∃ a c b d, e = .returned (.tuple #[.agg #[.string x1, .slice a m1 c], .slice b q1 d]) ∧ PastAt w' (.slice a m1 c) y1 ∧ Fresh X.heap.size (.slice a m1 c) ∧ PastAt w' (.slice b q1 d) t1 ∧ Fresh X.heap.size (.slice b q1 d) ∧ Below X.heap.size X w') := fun X hX =>
        say_is s _ zs _ (ls.take hf) X (hX.past HP2.out) (past_take (hX.past HX2.out) hfN HN.out).strs (by omega) (by rw [HL.out]; omega) HZ.out (by rw [List.length_take]; omega) (fun d hd => HLZ.out d (List.mem_of_mem_take hd)) (HT2.out.below' hX) HR1.out m1 HM1.out q1 HQ1.out
      have HDI2 : Hid (∀ (V u : Value) X, Ext W2 X → PastAt X u y1 → StrsAt X V (ls.drop hf) → Calls Tryz.prog 13 #[.agg #[.string x1, u], V] X fun e w' => ∃ a c b d, e = .returned (.tuple #[.agg #[.string x2, .slice a m c], .slice b q2 d]) ∧ PastAt w' (.slice a m c) y2 ∧ Fresh X.heap.size (.slice a m c) ∧ PastAt w' (.slice b q2 d) t2 ∧ Fresh X.heap.size (.slice b q2 d) ∧ Below X.heap.size X w') := fun V u X hX hu hV =>
        say_is x1 u y1 V (ls.drop hf) X hu hV (by omega) (by rw [HM1.out]; omega) (fun z hz => by have := HSM1.out z hz; omega) (by rw [List.length_drop, HN.out]; omega) (fun d hd => HLZ.out d (List.mem_of_mem_drop hd)) (HT2.out.below' hX) HR2.out m HM.out q2 HQ2.out
      have HL1 : Hid (∀ X, Ext w7 X → Calls Tryz.prog 21 #[.agg #[.string x2, .slice a3 m c3], .string ⟨#[99, 101, 108, 108, 32, 50, 32, 49, 53]⟩] X fun e w' => ∃ a c, e = .returned (.tuple #[.agg #[.string x2, .slice a m c], .string ⟨#[51, 44, 48]⟩]) ∧ PastAt w' (.slice a m c) y2 ∧ Below X.heap.size X w') := fun X hX => line_is x2 _ y2 _ _ X (hX.past BX7.out.past) HOK0.out (by decide) (HT2.out.below' (E7.out.trans hX)) (cell_line x2 y2) m HM.out
      have HL2 : Hid (∀ X, Ext w7 X → Calls Tryz.prog 21 #[.agg #[.string x2, .slice a3 m c3], .string ⟨#[110, 117, 109, 98, 101, 114, 32, 50, 32, 51, 32, 48]⟩] X fun e w' => ∃ a c, e = .returned (.tuple #[.agg #[.string x2, .slice a m c], .string ⟨#[49, 53]⟩]) ∧ PastAt w' (.slice a m c) y2 ∧ Below X.heap.size X w') := fun X hX => line_is x2 _ y2 _ _ X (hX.past BX7.out.past) HOK0.out (by decide) (HT2.out.below' (E7.out.trans hX)) (numb_line x2 y2) m HM.out
      clear hx1 hy1 ht1 hx2 hy2 ht2 hM1 hQ1 hQ2 hok hh htt s1c hok0 hsome
      have DV : Hid (∀ X, Ext W2 X → StrsAt X (.slice (if cp = hf then some ⟨g, 0, none⟩ else some ⟨g, hf, none⟩) (N - hf) (cp - hf)) (ls.drop hf)) := fun X hX => by
        split
        · have e : ls.drop hf = [] := List.drop_of_length_le (by rw [HN.out]; omega)
          have e0 : N - hf = 0 := by omega
          rw [e, e0]
          exact .inr ⟨_, _, rfl, by simp, fun j d hd => by simp at hd⟩
        · exact drop_strs (hX.past HX2.out) HN.out hfN
      obtain ⟨V, hV⟩ : ∃ V : Option Addr, (if cp = hf then some (⟨g, 0, none⟩ : Addr) else some ⟨g, hf, none⟩) = V := ⟨_, rfl⟩
      rw [hV] at DV
      have k1 : (0 : Int) ≤ (hf : Int) := by omega
      have k2 : (hf : Int) ≤ (N : Int) := by omega
      have k3 : (hf : Int) ≤ (cp : Int) := by omega
      have k4 : (N : Int) ≤ (cp : Int) := by omega
      have hqq : ((q : Int) == (N : Int)) = true := by rw [hqn]; simp
      have hqI : (q : Int) = (N : Int) := by omega
      have HQI := Lib.hid hqI
      clear hqI hqn
      go_upto_region 11 with (go_at_call 24; refine OK8.out.mono ?_; rintro e w8 ⟨rfl, hb8⟩; have F8 : Hid (Ext w7 w8) := hb8; clear hb8)
      have E8 := Lib.hid (E7.out.trans F8.out)
      have HS8 : Hid (∀ X, Ext w8 X → X.cell? ⟨D1, 0, none⟩ = some (.string s) ∧ X.cell? ⟨D1, 1, none⟩ = some (.slice aU L cU)) := fun X hX => HS.out X (E8.out.trans hX)
      go_cut [10, 11] (fun P Q wx => ∃ N9 a9 c9 b9 d9, P = .pointer (some ⟨N9, 0, none⟩) ∧ Q = .slice b9 q1 d9 ∧ Hid (BoxB w8.heap.size wx.heap.size wx N9 x1 (.slice a9 m1 c9) y1) ∧ Hid (PastAt wx (.slice b9 q1 d9) t1) ∧ Ext w8 wx)
      case first =>
        go_region_held3 (fun w' => w'.cell? ⟨D1, 0, none⟩ = some (.string s) ∧ w'.cell? ⟨D1, 1, none⟩ = some (.slice aU L cU))
          (exact HS8.out _ (by (first | assumption | exact Ext.refl _ | exact (Ext.refl _).drew | (refine Ext.alloc ?_ _; first | assumption | exact Ext.refl _ | exact (Ext.refl _).drew) | (refine Ext.drew ?_; first | assumption | exact Ext.refl _ | exact (Ext.refl _).drew) | (refine Ext.drew ?_; refine Ext.alloc ?_ _; first | assumption | exact Ext.refl _ | exact (Ext.refl _).drew) | (refine Ext.setCell (Ext.setCell ?_ ?_ _) ?_ _ <;> first | assumption | omega | (simp <;> omega)))))
          (first | (go_at_call 13; refine (HDI1.out _ (E8.out.trans (by (first | assumption | exact Ext.refl _ | exact (Ext.refl _).drew | (refine Ext.alloc ?_ _; first | assumption | exact Ext.refl _ | exact (Ext.refl _).drew) | (refine Ext.drew ?_; first | assumption | exact Ext.refl _ | exact (Ext.refl _).drew) | (refine Ext.drew ?_; refine Ext.alloc ?_ _; first | assumption | exact Ext.refl _ | exact (Ext.refl _).drew) | (refine Ext.setCell (Ext.setCell ?_ ?_ _) ?_ _ <;> first | assumption | omega | (simp <;> omega)))))).mono ?_; rintro e wC ⟨aC, cC, bC, dC, rfl, hpC, hfC, hpU, hfU, hbC⟩; have gC := fresh_ext (show Ext w8 _ by (first | assumption | exact Ext.refl _ | exact (Ext.refl _).drew | (refine Ext.alloc ?_ _; first | assumption | exact Ext.refl _ | exact (Ext.refl _).drew) | (refine Ext.drew ?_; first | assumption | exact Ext.refl _ | exact (Ext.refl _).drew) | (refine Ext.drew ?_; refine Ext.alloc ?_ _; first | assumption | exact Ext.refl _ | exact (Ext.refl _).drew) | (refine Ext.setCell (Ext.setCell ?_ ?_ _) ?_ _ <;> first | assumption | omega | (simp <;> omega)))) hfC; have eC : Ext w8 wC := Ext.call (by (first | assumption | exact Ext.refl _ | exact (Ext.refl _).drew | (refine Ext.alloc ?_ _; first | assumption | exact Ext.refl _ | exact (Ext.refl _).drew) | (refine Ext.drew ?_; first | assumption | exact Ext.refl _ | exact (Ext.refl _).drew) | (refine Ext.drew ?_; refine Ext.alloc ?_ _; first | assumption | exact Ext.refl _ | exact (Ext.refl _).drew) | (refine Ext.setCell (Ext.setCell ?_ ?_ _) ?_ _ <;> first | assumption | omega | (simp <;> omega)))) hbC; (first | (have hN := box_keep hbC; have nN := box_ne hfC) | (have hN := box_keep_drew hbC; have nN := box_ne_drew hfC) | (have nN := fresh_ne hfC hN; have hN := Ext.row hbC hN) | skip); have PC := Lib.hid hpC; have PU := Lib.hid hpU; (first | (have nU := box_ne hfU) | (have nU := box_ne_drew hfU) | (have nU := fresh_ne hfU hN0) | skip); have FC := Lib.hid gC; have sC := Ext.size eC; (first | (have zN := frozen_of_row _ _ 0 _ _ hN; have zN1 := frozen_of_row _ _ 1 _ _ hN; have yN := cell_of_row _ _ 0 _ _ _ hN; have yN1 := cell_of_row _ _ 1 _ _ _ hN; have HNN := Lib.hid hN; clear hN) | skip); clear hpC hfC hbC gC hpU hfU))
        all_goals
          go_wp2_with fail
          go_meet
          first
            | exact ⟨_, _, _, _, _, rfl, rfl, box_new PC.out FC.out sC, past_new PU.out _, by (first | assumption | exact Ext.refl _ | exact (Ext.refl _).drew | (refine Ext.alloc ?_ _; first | assumption | exact Ext.refl _ | exact (Ext.refl _).drew) | (refine Ext.drew ?_; first | assumption | exact Ext.refl _ | exact (Ext.refl _).drew) | (refine Ext.drew ?_; refine Ext.alloc ?_ _; first | assumption | exact Ext.refl _ | exact (Ext.refl _).drew) | (refine Ext.setCell (Ext.setCell ?_ ?_ _) ?_ _ <;> first | assumption | omega | (simp <;> omega)))⟩
            | exact ⟨_, _, _, _, _, rfl, rfl, box_set HNN.out PC.out FC.out nN (by first | omega | (simp <;> omega)), past_put2 PU.out nU _ _, by (first | assumption | exact Ext.refl _ | exact (Ext.refl _).drew | (refine Ext.alloc ?_ _; first | assumption | exact Ext.refl _ | exact (Ext.refl _).drew) | (refine Ext.drew ?_; first | assumption | exact Ext.refl _ | exact (Ext.refl _).drew) | (refine Ext.drew ?_; refine Ext.alloc ?_ _; first | assumption | exact Ext.refl _ | exact (Ext.refl _).drew) | (refine Ext.setCell (Ext.setCell ?_ ?_ _) ?_ _ <;> first | assumption | omega | (simp <;> omega)))⟩
      case rest =>
        obtain ⟨w9, rfl⟩ : ∃ w9 : World, w9 = wc := ⟨_, rfl⟩
        obtain ⟨N9, a9, c9, b9, d9, rfl, rfl, HA9, HU9, e9⟩ := hcut
        have F9 := Lib.hid (F8.out.trans e9)
        have E9 := Lib.hid (E8.out.trans e9)
        have HS9 : Hid (∀ X, Ext w9 X → X.cell? ⟨N9, 0, none⟩ = some (.string x1) ∧ X.cell? ⟨N9, 1, none⟩ = some (.slice a9 m1 c9)) := fun X hX => (HA9.out.ext hX).cells
        clear e9
        go_upto_region 12 with (fail)
        go_cut [12, 13] (fun P Q wx => ∃ N11 a11 c11 b11 d11, P = .pointer (some ⟨N11, 0, none⟩) ∧ Q = .slice b11 q2 d11 ∧ Hid (BoxB w9.heap.size wx.heap.size wx N11 x2 (.slice a11 m c11) y2) ∧ Hid (PastAt wx (.slice b11 q2 d11) t2) ∧ Ext w9 wx)
        case first =>
          go_region_held3 (fun w' => w'.cell? ⟨N9, 0, none⟩ = some (.string x1) ∧ w'.cell? ⟨N9, 1, none⟩ = some (.slice a9 m1 c9))
            (exact HS9.out _ (by (first | assumption | exact Ext.refl _ | exact (Ext.refl _).drew | (refine Ext.alloc ?_ _; first | assumption | exact Ext.refl _ | exact (Ext.refl _).drew) | (refine Ext.drew ?_; first | assumption | exact Ext.refl _ | exact (Ext.refl _).drew) | (refine Ext.drew ?_; refine Ext.alloc ?_ _; first | assumption | exact Ext.refl _ | exact (Ext.refl _).drew) | (refine Ext.setCell (Ext.setCell ?_ ?_ _) ?_ _ <;> first | assumption | omega | (simp <;> omega)))))
            (first | (go_at_call 13; refine (HDI2.out _ _ _ (E9.out.trans (by (first | assumption | exact Ext.refl _ | exact (Ext.refl _).drew | (refine Ext.alloc ?_ _; first | assumption | exact Ext.refl _ | exact (Ext.refl _).drew) | (refine Ext.drew ?_; first | assumption | exact Ext.refl _ | exact (Ext.refl _).drew) | (refine Ext.drew ?_; refine Ext.alloc ?_ _; first | assumption | exact Ext.refl _ | exact (Ext.refl _).drew) | (refine Ext.setCell (Ext.setCell ?_ ?_ _) ?_ _ <;> first | assumption | omega | (simp <;> omega))))) (Ext.past (by (first | assumption | exact Ext.refl _ | exact (Ext.refl _).drew | (refine Ext.alloc ?_ _; first | assumption | exact Ext.refl _ | exact (Ext.refl _).drew) | (refine Ext.drew ?_; first | assumption | exact Ext.refl _ | exact (Ext.refl _).drew) | (refine Ext.drew ?_; refine Ext.alloc ?_ _; first | assumption | exact Ext.refl _ | exact (Ext.refl _).drew) | (refine Ext.setCell (Ext.setCell ?_ ?_ _) ?_ _ <;> first | assumption | omega | (simp <;> omega)))) HA9.out.past) (DV.out _ (E9.out.trans (by (first | assumption | exact Ext.refl _ | exact (Ext.refl _).drew | (refine Ext.alloc ?_ _; first | assumption | exact Ext.refl _ | exact (Ext.refl _).drew) | (refine Ext.drew ?_; first | assumption | exact Ext.refl _ | exact (Ext.refl _).drew) | (refine Ext.drew ?_; refine Ext.alloc ?_ _; first | assumption | exact Ext.refl _ | exact (Ext.refl _).drew) | (refine Ext.setCell (Ext.setCell ?_ ?_ _) ?_ _ <;> first | assumption | omega | (simp <;> omega))))))).mono ?_; rintro e wC ⟨aC, cC, bC, dC, rfl, hpC, hfC, hpU, hfU, hbC⟩; have gC := fresh_ext (show Ext w9 _ by (first | assumption | exact Ext.refl _ | exact (Ext.refl _).drew | (refine Ext.alloc ?_ _; first | assumption | exact Ext.refl _ | exact (Ext.refl _).drew) | (refine Ext.drew ?_; first | assumption | exact Ext.refl _ | exact (Ext.refl _).drew) | (refine Ext.drew ?_; refine Ext.alloc ?_ _; first | assumption | exact Ext.refl _ | exact (Ext.refl _).drew) | (refine Ext.setCell (Ext.setCell ?_ ?_ _) ?_ _ <;> first | assumption | omega | (simp <;> omega)))) hfC; have eC : Ext w9 wC := Ext.call (by (first | assumption | exact Ext.refl _ | exact (Ext.refl _).drew | (refine Ext.alloc ?_ _; first | assumption | exact Ext.refl _ | exact (Ext.refl _).drew) | (refine Ext.drew ?_; first | assumption | exact Ext.refl _ | exact (Ext.refl _).drew) | (refine Ext.drew ?_; refine Ext.alloc ?_ _; first | assumption | exact Ext.refl _ | exact (Ext.refl _).drew) | (refine Ext.setCell (Ext.setCell ?_ ?_ _) ?_ _ <;> first | assumption | omega | (simp <;> omega)))) hbC; (first | (have hN := box_keep hbC; have nN := box_ne hfC) | (have hN := box_keep_drew hbC; have nN := box_ne_drew hfC) | (have nN := fresh_ne hfC hN; have hN := Ext.row hbC hN) | skip); have PC := Lib.hid hpC; have PU := Lib.hid hpU; (first | (have nU := box_ne hfU) | (have nU := box_ne_drew hfU) | (have nU := fresh_ne hfU hN0) | skip); have FC := Lib.hid gC; have sC := Ext.size eC; (first | (have zN := frozen_of_row _ _ 0 _ _ hN; have zN1 := frozen_of_row _ _ 1 _ _ hN; have yN := cell_of_row _ _ 0 _ _ _ hN; have yN1 := cell_of_row _ _ 1 _ _ _ hN; have HNN := Lib.hid hN; clear hN) | skip); clear hpC hfC hbC gC hpU hfU))
          all_goals
            go_wp2_with fail
            go_meet
            first
              | exact ⟨_, _, _, _, _, rfl, rfl, box_new PC.out FC.out sC, past_new PU.out _, by (first | assumption | exact Ext.refl _ | exact (Ext.refl _).drew | (refine Ext.alloc ?_ _; first | assumption | exact Ext.refl _ | exact (Ext.refl _).drew) | (refine Ext.drew ?_; first | assumption | exact Ext.refl _ | exact (Ext.refl _).drew) | (refine Ext.drew ?_; refine Ext.alloc ?_ _; first | assumption | exact Ext.refl _ | exact (Ext.refl _).drew) | (refine Ext.setCell (Ext.setCell ?_ ?_ _) ?_ _ <;> first | assumption | omega | (simp <;> omega)))⟩
              | exact ⟨_, _, _, _, _, rfl, rfl, box_set HNN.out PC.out FC.out nN (by first | omega | (simp <;> omega)), past_put2 PU.out nU _ _, by (first | assumption | exact Ext.refl _ | exact (Ext.refl _).drew | (refine Ext.alloc ?_ _; first | assumption | exact Ext.refl _ | exact (Ext.refl _).drew) | (refine Ext.drew ?_; first | assumption | exact Ext.refl _ | exact (Ext.refl _).drew) | (refine Ext.drew ?_; refine Ext.alloc ?_ _; first | assumption | exact Ext.refl _ | exact (Ext.refl _).drew) | (refine Ext.setCell (Ext.setCell ?_ ?_ _) ?_ _ <;> first | assumption | omega | (simp <;> omega)))⟩
        case rest =>
          obtain ⟨w11, rfl⟩ : ∃ w11 : World, w11 = wc := ⟨_, rfl⟩
          obtain ⟨N11, a11, c11, b11, d11, rfl, rfl, HC11, HV11, e11⟩ := hcut
          have F11 := Lib.hid (F9.out.trans e11)
          have HU11 := Lib.hid (e11.past HU9.out)
          have HX11 := Lib.hid (F11.out.past UX7.out)
          clear e11
          obtain ⟨aq, cq, hsq, hcq, hcell⟩ := strs_parts HX11.out.strs
          simp only [Value.slice.injEq] at hsq
          obtain ⟨rfl, hlq, rfl⟩ := hsq
          have HCELL := Lib.hid hcell
          clear hcell hlq hcq
          go_wp2_with fail
          go_loop [14] (fun i => ∃ k : Nat, i = .int .i64 k ∧ k ≤ q) (fun i => q - (intOf i).toNat)
          case atStart => exact ⟨0, rfl, Nat.zero_le _⟩
          case round =>
            obtain ⟨k, rfl, hk⟩ := hrel
            by_cases hlt : k < q
            · obtain ⟨t, ht⟩ : ∃ t, t0[k]? = some t := ⟨t0[k]'(by rw [HQ.out]; exact hlt), List.getElem?_eq_getElem (by rw [HQ.out]; exact hlt)⟩
              obtain ⟨b', rfl, hc⟩ := HCELL.out k t ht
              have hne := notEmptyR (HSOME.out t (List.mem_of_getElem? ht))
              have hk0 : (0 : Int) ≤ (k : Int) := by omega
              have hk1 : (k : Int) < (q : Int) := by omega
              clear ht
              go_wp2
              go_round
              case rel => exact ⟨k + 1, by go_num, by omega⟩
              case measure => simp [intOf]; omega
            · obtain rfl : k = q := by omega
              obtain ⟨b40, b41⟩ := (BX7.out.ext F11.out).cells
              go_upto_region 20 with (first
                | (go_at_call_of 21 (Value.string ⟨#[99, 101, 108, 108, 32, 50, 32, 49, 53]⟩); refine (HL1.out _ F11.out).mono ?_; rintro e w12 ⟨a12, c12, rfl, hp12, hb12⟩; have e12 : Hid (Ext w11 (w12.alloc (.cells #[.string x2, .slice a12 m c12] 27))) := (show Ext w11 w12 from hb12).alloc _; have F12 := Lib.hid (F11.out.trans e12.out); obtain ⟨b50, b51⟩ := (BX7.out.ext F12.out).cells; clear hp12 hb12)
                | (go_at_call_of 21 (Value.string ⟨#[110, 117, 109, 98, 101, 114, 32, 50, 32, 51, 32, 48]⟩); refine (HL2.out _ F12.out).mono ?_; rintro e w13 ⟨a13, c13, rfl, hp13, hb13⟩; have e13 : Hid (Ext w11 (w13.alloc (.cells #[.string x2, .slice a13 m c13] 27))) := (Ext.call e12.out hb13).alloc _; clear hp13 hb13))
              obtain ⟨w14, hw14⟩ : ∃ w14, w13.alloc (.cells #[.string x2, .slice a13 m c13] 27) = w14 := ⟨_, rfl⟩
              rw [hw14] at e13
              rw [hw14]
              clear hw14
              have F14 := Lib.hid (F11.out.trans e13.out)
              obtain ⟨b60, b61⟩ := (BX7.out.ext F14.out).cells
              obtain ⟨c60, c61⟩ := (HC11.out.ext e13.out).cells
              go_wp2_with (first
                | (go_at_call 23; refine (same_is x2 x2 _ _ y2 y2 _ (HC11.out.ext e13.out).past.strs (BX7.out.ext F14.out).past.strs (by rw [HM.out]; omega) true (tt x2 y2)).mono ?_; rintro e w15 ⟨rfl, hb15⟩; have e15 : Hid (Ext w11 w15) := Ext.call e13.out hb15; have HO15 := Lib.hid (own_none w15 9 w15.heap.size (Nat.le_refl _)); have U15 := Lib.hid ((e15.out.alloc (.cells #[] 9)).past HU11.out); clear hb15)
                | (have hq9 := OWN16; at_builtin; refine wpList_append_on (by first | rfl | (simp [Region.wanted, yielded])) _ _ 22 rfl w15.heap.size 9 i0 _ 1 16 Tryz.underlying22 hi0 hz0 hz1 hz2 rfl (by omega) (.slice (some ⟨g16, 0, none⟩) q1 c16) q1 (strVals t1) rfl OWN16.out HNE16.out _ q2 (strVals t2) rfl (src_named (F16.out.past HV11.out).strs HQ2.out) (one_strs t2) (by unfold maxLen; omega) (by omega) hs16 (q1 + q2) rfl ?_; intro v17 w17 hown17 hgrow17 hne17; obtain ⟨g17, c17, rfl⟩ := own_slice hown17 hne17; have F17 : Hid (Ext w11 w17) := Below.trans F16.out (Below.mono (Below.grown (Below.refl w15.heap.size w16) hgrow17 hs16 (fun b hb => (OWN16.out.lt b hb).1)) e15.out.size); have P17 := Lib.hid (past_app hown17 HTT.out HQ1.out HQ2.out); clear hown17 hgrow17 hne17)
                | (at_builtin; refine wpList_append_on (by first | rfl | (simp [Region.wanted, yielded])) _ _ 22 rfl w15.heap.size 9 i0 _ 1 16 Tryz.underlying22 hi0 hz0 hz1 hz2 rfl (by omega) (.slice (some ⟨w15.heap.size, 0, none⟩) 0 0) 0 [] rfl HO15.out (by simp) _ q1 (strVals t1) rfl (src_named U15.out.strs HQ1.out) (one_strs t1) (by unfold maxLen; omega) (by omega) (by simp) q1 (Nat.zero_add _) ?_; intro v16 w16 hown16 hgrow16 hne16; obtain ⟨g16, c16, rfl⟩ := own_slice hown16 hne16; have HNE16 := Lib.hid hne16; have OWN16 := Lib.hid (own_nil hown16); have F16 : Hid (Ext w11 w16) := Below.trans (e15.out.alloc (.cells #[] 9)) (Below.mono (Below.grown (Below.refl w15.heap.size (w15.alloc (.cells #[] 9))) hgrow16 (by simp) (fun b hb => by have h9 : w15.heap.size = b := Option.some.inj hb; omega)) e15.out.size); have hs16 : w15.heap.size ≤ w16.heap.size := Nat.le_trans (by simp) hgrow16.size; clear hown16 hgrow16 hne16)
                | (go_at_call 29; refine (texts_is _ _ t0 _ P17.out.strs (F17.out.past HX11.out).strs (by rw [HQ.out]; omega)).mono ?_; rintro e w18 ⟨rfl, hb18⟩; have F18 : Hid (Ext w11 w18) := Ext.call F17.out hb18; clear hb18))
              go_ret
              exact ⟨rfl, Ext.below hB2 (E7.out.trans (F11.out.trans F18.out)) hB2s⟩
  · have hX2 : (1048576 : Int) < (n : Int) := by omega
    clear HD hw hd hwd hmx hpw
    go_enter Tryz.func5, Tryz.ntmps5
    go_wp2
    go_ret
    exact ⟨rfl, Below.refl _ _⟩

set_option maxRecDepth 100000 in
theorem own : ownKnob Tryz.prog.godebug = none := by kernel_rfl
set_option maxRecDepth 100000 in
theorem laidOut : laidOutB Tryz.prog = true := by kernel_rfl
set_option maxRecDepth 100000 in
theorem rowed : rowsOk Tryz.prog Tryz.f5.params.toList = true := by kernel_rfl
set_option maxRecDepth 100000 in
theorem varred : varsOk Tryz.prog Rows.fnDeskSaySpec.vars = true := by kernel_rfl
set_option maxRecDepth 100000 in
theorem resType : Tryz.f5.resultTypes = #[4] := by kernel_rfl

set_option maxRecDepth 100000 in
theorem contract (H : Type) (enc : TypeId × Value → H) (W : World) (base : Nat) (args : Array Value) (ds gs : List (DataW H)) (before : List MemPlace)
    (hval : ∀ (j : Nat) t v, Tryz.f5.params[j]? = some t → args[j]? = some v → Value.okWide Tryz.prog W .any base t v)
    (hW : DataW.Whole enc Tryz.prog Tryz.f5.params.toList Rows.fnDeskSaySpec.vars false W args.toList ds gs before) (hL : laidMetH Tryz.prog Rows.fnDeskSayRow.laid W) (hSh : W.ShapedOpen Tryz.prog) :
    Calls Tryz.prog 5 args W fun e W' => ∃ v, e = .returned v ∧ Rows.fnDeskSaySpec.post enc Tryz.prog Tryz.f5 false true false false W args v W' := by
  have hW' := hW
  obtain ⟨p, q, hA0, hV, rfl, hfz, hnd⟩ := hW
  have hA : DataW.TrodAll enc Tryz.prog W 0 (fun _ => true) true Tryz.f5.params.toList args.toList ds p := hA0
  rw [Tryz.params5] at hA hval
  obtain ⟨v0, vs0, d0, ds0, p0, q0, hargs, rfl, rfl, h0, r0⟩ := trodAll_cons hA
  obtain ⟨rfl, rfl, rfl⟩ := trodAll_nil r0
  obtain rfl : args = #[v0] := by cases args; simp_all
  obtain ⟨g0, g1, g2, rfl⟩ := trodVars_len3 hV
  obtain ⟨n0, hcode0⟩ := open_code (hval 0 36 v0 rfl rfl) h0
  have t_ways : WaysAt W := waysAt (by kernel_rfl) hL (by simp [Rows.fnDeskSayRow])
  have t_dirs : DirsAt W := dirsAt (by kernel_rfl) hL (by simp [Rows.fnDeskSayRow])
  have t_words : WordsAt W := wordsAt (by kernel_rfl) hL (by simp [Rows.fnDeskSayRow])
  have t_max : MaxAt W := maxAt hSh
  have t_pow : PowAt W := powAt (by kernel_rfl) hL (by simp [Rows.fnDeskSayRow])
  refine (walk v0 n0 W t_ways t_dirs t_words t_max t_pow hcode0).mono fun e W' ⟨he, hb⟩ => ?_
  subst he
  exact ⟨_, rfl, law_post laidOut rowed varred resType Tryz.underlying4 hW' ⟨rfl, rfl, rfl⟩ hb⟩

/-- A world for the witness: the settled one, the listed variables holding what their initialisers lay. -/
noncomputable def laidWorld (os : Os) : World := { World.holding Tryz.prog os ⟨#[], #[], []⟩ with heap := (((((((((World.holding Tryz.prog os ⟨#[], #[], []⟩).heap.modify 5 fun
      | .cells _ t frozen => .cells #[.int .u8 0, .int .u8 1, .int .u8 28, .int .u8 2, .int .u8 29, .int .u8 14, .int .u8 24, .int .u8 3, .int .u8 30, .int .u8 22, .int .u8 20, .int .u8 15, .int .u8 25, .int .u8 17, .int .u8 4, .int .u8 8, .int .u8 31, .int .u8 27, .int .u8 13, .int .u8 23, .int .u8 21, .int .u8 19, .int .u8 16, .int .u8 7, .int .u8 26, .int .u8 12, .int .u8 18, .int .u8 6, .int .u8 11, .int .u8 5, .int .u8 10, .int .u8 9] t frozen
      | o => o).modify 6 fun
      | .cells _ t frozen => .cells #[.int .u8 0, .int .u8 1, .int .u8 56, .int .u8 2, .int .u8 57, .int .u8 49, .int .u8 28, .int .u8 3, .int .u8 61, .int .u8 58, .int .u8 42, .int .u8 50, .int .u8 38, .int .u8 29, .int .u8 17, .int .u8 4, .int .u8 62, .int .u8 47, .int .u8 59, .int .u8 36, .int .u8 45, .int .u8 43, .int .u8 51, .int .u8 22, .int .u8 53, .int .u8 39, .int .u8 33, .int .u8 30, .int .u8 24, .int .u8 18, .int .u8 12, .int .u8 5, .int .u8 63, .int .u8 55, .int .u8 48, .int .u8 27, .int .u8 60, .int .u8 41, .int .u8 37, .int .u8 16, .int .u8 46, .int .u8 35, .int .u8 44, .int .u8 21, .int .u8 52, .int .u8 32, .int .u8 23, .int .u8 11, .int .u8 54, .int .u8 26, .int .u8 40, .int .u8 15, .int .u8 34, .int .u8 20, .int .u8 31, .int .u8 10, .int .u8 25, .int .u8 14, .int .u8 19, .int .u8 9, .int .u8 13, .int .u8 8, .int .u8 7, .int .u8 6] t frozen
      | o => o).modify 4 fun
      | .cells _ t frozen => .cells #[.int .u64 1, .int .u64 10, .int .u64 100, .int .u64 1000, .int .u64 10000, .int .u64 100000, .int .u64 1000000, .int .u64 10000000, .int .u64 100000000, .int .u64 1000000000, .int .u64 10000000000, .int .u64 100000000000, .int .u64 1000000000000, .int .u64 10000000000000, .int .u64 100000000000000, .int .u64 1000000000000000, .int .u64 10000000000000000, .int .u64 100000000000000000, .int .u64 1000000000000000000, .int .u64 10000000000000000000] t frozen
      | o => o).modify 8 fun
      | .cells _ t frozen => .cells #[.int .u8 128, .int .u8 191, .int .u8 160, .int .u8 191, .int .u8 128, .int .u8 159, .int .u8 144, .int .u8 191, .int .u8 128, .int .u8 143, .int .u8 0, .int .u8 0, .int .u8 0, .int .u8 0, .int .u8 0, .int .u8 0, .int .u8 0, .int .u8 0, .int .u8 0, .int .u8 0, .int .u8 0, .int .u8 0, .int .u8 0, .int .u8 0, .int .u8 0, .int .u8 0, .int .u8 0, .int .u8 0, .int .u8 0, .int .u8 0, .int .u8 0, .int .u8 0] t frozen
      | o => o).modify 1 fun
      | .cells _ t frozen => .cells #[.string ⟨#[101, 110, 119, 115]⟩, .string ⟨#[110, 119, 115, 101]⟩, .string ⟨#[119, 115, 101, 110]⟩, .string ⟨#[115, 101, 110, 119]⟩, .string ⟨#[101, 115, 119, 110]⟩, .string ⟨#[110, 101, 115, 119]⟩, .string ⟨#[119, 110, 101, 115]⟩, .string ⟨#[115, 119, 110, 101]⟩] t frozen
      | o => o).modify 0 fun
      | .cells _ t frozen => .cells #[.string ⟨#[115, 116, 101, 112]⟩, .string ⟨#[100, 114, 111, 112]⟩, .string ⟨#[119, 97, 121]⟩, .string ⟨#[111, 110]⟩, .string ⟨#[102, 105, 114, 115, 116]⟩, .string ⟨#[98, 97, 99, 107]⟩] t frozen
      | o => o).modify 3 fun
      | .cells _ t frozen => .cells #[.int .i64 1, .int .i64 0, .int .i64 0, .int .i64 1, .int .i64 (-1), .int .i64 0, .int .i64 0, .int .i64 (-1)] t frozen
      | o => o).modify 7 fun
      | .cells _ t frozen => .cells (Go.Pinned.utf8FirstZ.map fun (n : Nat) => Value.int .u8 n).toArray t frozen
      | o => o) }
set_option maxRecDepth 100000 in
theorem laid_met (os : Os) : laidMet Tryz.prog Rows.fnDeskSayRow.laid ((laidWorld os).forCall (fun _ _ => 0) ⟨#[], #[.slice none 0 0], []⟩).memory := laidMet_of_run' 8 (by kernel_rfl) (by kernel_rfl)
set_option maxRecDepth 100000 in
theorem reads (os : Os) {H : Type} (enc : TypeId × Value → H) : ∃ places, DataW.whole enc Tryz.prog ((laidWorld os).forCall (fun _ _ => 0) ⟨#[], #[.slice none 0 0], []⟩).memory Tryz.f5.params.toList Rows.fnDeskSaySpec.vars false (#[.slice none 0 0] : Array Value).toList 8 = some ([.nil], [Rows.laid_loop_example_turtlewalks_impl_deedWords, Rows.laid_loop_example_turtlewalks_impl_wayLetters, Rows.laid_loop_example_turtlewalks_impl_directions], places) := ⟨MemPlace.row ⟨0, 0, none⟩ 6 ++ MemPlace.row ⟨1, 0, none⟩ 8 ++ MemPlace.row ⟨3, 0, none⟩ 8, by kernel_rfl⟩

set_option maxRecDepth 100000 in
theorem lifted (os : Os) (started : os.Started) (H : Type) (enc : TypeId × Value → H) (F : Stop.Interp) :
    ReturnsInHanded {} Tryz.checked os 5 .any ((OpenSpec.ofChange Rows.fnDeskSaySpec).preRow enc Tryz.prog Tryz.f5 Rows.fnDeskSayRow.domain false Rows.fnDeskSayRow.laid) (((OpenSpec.ofChange Rows.fnDeskSaySpec).at F).post enc Tryz.prog Tryz.f5 false true false false) := by
  obtain ⟨places, hx⟩ := reads os enc
  refine returnsInHanded_of_row (C := Tryz.checked) (s := OpenSpec.ofChange Rows.fnDeskSaySpec) own started (by kernel_rfl) Tryz.func5
    (witness_row_at (enc := enc) (C := Tryz.checked) false (laidWorld os) #[.slice none 0 0] rfl (by kernel_rfl) (by kernel_rfl) (by kernel_rfl)
      (OpenSpec.preRow_of_cond 8 hx (by kernel_rfl) (fun k hk => by cases hk) (by kernel_rfl) (laid_met os))) ?_
  intro W base args ds gs before hval hW _ _ _ hL hSh _
  exact contract H enc W base args ds gs before hval hW hL hSh

set_option maxRecDepth 100000 in
theorem said : Rows.FnDeskSaySaid :=
  OpenClaim.holds_of_cond 5 Tryz.f5 rfl rfl rfl rfl rfl rfl rfl ⟨rfl, rfl, rfl, rfl, rfl⟩ rfl rfl rfl rfl rfl (by kernel_rfl) Tryz.func5 (by kernel_rfl)
    (of_decide_eq_true (by kernel_rfl)) (by unfold Func.isWrapper; first | (rw [if_pos (by decide +kernel)]; kernel_rfl) | (rw [if_neg (by decide +kernel)]; exact ⟨rfl, rfl⟩))
    (fun os started H enc _ F => by rw [OpenClaim.pre_eq_preRow]; exact lifted os started H enc F)

set_option maxRecDepth 100000 in
theorem plain (f : FuncId) (fn : Func) (hf : Tryz.pinned.checked.prog.funcNamed "loop.example/turtlewalks/laws.FnDeskSay" = some f) (hfn : Tryz.pinned.checked.prog.funcs[f]? = some fn) :
    false = Tryz.pinned.checked.prog.looks [] ∧ ∀ (j : Nat) t, fn.params[j]? = some t → Tryz.pinned.checked.prog.wantsStandIn t = false := by
  obtain rfl : f = 5 := Option.some.inj ((show Tryz.prog.funcNamed "loop.example/turtlewalks/laws.FnDeskSay" = some 5 by kernel_rfl).symm.trans hf) |>.symm
  obtain rfl : fn = Tryz.f5 := (Option.some.inj (Tryz.func5.symm.trans hfn)).symm
  refine ⟨by kernel_rfl, fun j t ht => ?_⟩
  rw [Tryz.params5] at ht
  have hm : t ∈ [36] := by simpa using Array.mem_of_getElem? ht
  have hall : ([36].all fun u => !Tryz.prog.wantsStandIn u) = true := by kernel_rfl
  exact (show Tryz.prog.wantsStandIn t = false by simpa using List.all_eq_true.1 hall t hm)

set_option maxRecDepth 100000 in
theorem card : Rows.FnDeskSayCardSaid :=
  Claim7.holds_tied_plain_at .later [] _ _ _ _ said (fun _ h => by cases h) (by kernel_rfl) (fun _ h => by cases h) fnDeskSay_row_tie rfl ⟨rfl, rfl⟩ (by kernel_rfl) rfl plain (by kernel_rfl)

end Go.Proofs.YtccdfndnjjjgfaaGreatDoor.fnDeskSay
