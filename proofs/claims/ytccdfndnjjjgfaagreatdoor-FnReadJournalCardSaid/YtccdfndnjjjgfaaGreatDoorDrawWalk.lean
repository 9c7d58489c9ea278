/-
  The draw of a walk: a short text, and nothing that was there has turned but the reader.
-/
import Derived.Test.YtccdfndnjjjgfaaGreatDoorDrawGrown
namespace Go.Proofs.YtccdfndnjjjgfaaGreatDoor
open Go.RowKit

theorem mod_lt {x : Int} {m : Nat} (hm : 0 < m) : ∃ a : Nat, x % (m : Int) = a ∧ a < m := by
  have h0 := Int.emod_nonneg x (b := (m : Int)) (by omega)
  have h1 := Int.emod_lt_of_pos x (b := (m : Int)) (by omega)
  obtain ⟨a, ha⟩ := Int.eq_ofNat_of_zero_le h0
  exact ⟨a, ha, by omega⟩

theorem cut_size {d : Int} (h : 0 ≤ d ∧ d ≤ 3) : ((⟨#[101, 110, 119, 115]⟩ : ByteArray).extract d.toNat (d + 1).toNat).size = 1 := by
  obtain rfl | rfl | rfl | rfl : d = 0 ∨ d = 1 ∨ d = 2 ∨ d = 3 := by omega
  all_goals rfl

set_option maxRecDepth 100000 in
set_option maxHeartbeats 12800000 in
theorem walk_d (w W : World) (R n p k : Nat) (v : Value) (N : Int) (h : Drawn w W R v n p k) (hp : p + k ≤ 90000) (h1 : 0 ≤ N) (h2 : N ≤ 1000000) :
    Calls Tryz.prog 82 #[.pointer (some ⟨R, 0, none⟩), .int .i64 N] W fun e w' => ∃ s : ByteArray, e = .returned (.string s) ∧ s.size ≤ 41 ∧ Drawn w w' R v n p (k + 60) := by
  go_enter Tryz.func82, Tryz.ntmps82
  go_wp2_with (first
    | (go_at_call 68; first
        | (have hq := hd2; refine (pick_d hd2 (by omega) (by omega) (by omega)).mono ?_; rintro e w3 ⟨b, rfl, hbb0, hbb1, hd3, _⟩)
        | (have hq := hd1; refine (pick_d hd1 (by omega) (by omega) (by omega)).mono ?_; rintro e w2 ⟨a, rfl, ha0, ha1, hd2, _⟩)
        | (refine (pick_d h (by omega) (by omega) (by omega)).mono ?_; rintro e w1 ⟨x, rfl, hx0, hx1, hd1, _⟩; obtain rfl | rfl | rfl | rfl | rfl : x = 0 ∨ x = 1 ∨ x = 2 ∨ x = 3 ∨ x = 4 := by omega)
        | (have hq := hdo; refine (pick_d (hdo.alloc _) (by omega) (by omega) (by omega)).mono ?_; rintro e w8 ⟨y, rfl, hy0, hy1, hd8, hg8⟩; have hlit := lit_cell hdo.lt hg8; have hend := hd8; obtain rfl | rfl : y = 0 ∨ y = 1 := by omega
           all_goals (have l0 := hlit 0 _ rfl; have l1 := hlit 1 _ rfl)))
    | (go_at_call 117; refine (grown_d w w1 R n p _ v hd1 (by omega)).mono ?_; rintro e w5 ⟨s, rfl, hs4, hs40, hdg⟩)
    | (go_at_call 69; refine (odd_d hdg (by omega) h1 h2).mono ?_; rintro e w7 ⟨c, rfl, hdo⟩; have hend := hdo; cases c))
  · obtain ⟨a, rfl⟩ := Int.eq_ofNat_of_zero_le ha0
    go_loopw [5, 6] (fun o i wr => ∃ (s : ByteArray) (j : Nat), o = .string s ∧ i = .int .i64 j ∧ s.size + j ≤ 11 ∧ ∃ m, m + j ≤ k + 2 + 11 ∧ Drawn w wr R v n p m) (fun _ i _ => (intOf i).toNat)
    case atStart => exact ⟨_, a, rfl, rfl, by show 0 + a ≤ 11; omega, k + 2, by omega, hd2⟩
    case round =>
      obtain ⟨s, j, rfl, rfl, hsj, m, hm, hd3⟩ := hrel
      by_cases hlt : 0 < j
      · go_wp2_with (first
          | (go_at_call 68; refine (pick_d (hd3.alloc _) (by omega) (by omega) (by omega)).mono ?_; rintro e w4 ⟨y, rfl, hy0, hy1, hd4, hg4⟩; have hlit := lit_cell hd3.lt hg4; obtain rfl | rfl | rfl | rfl : y = 0 ∨ y = 1 ∨ y = 2 ∨ y = 3 := by omega
             all_goals (have l0 := hlit 0 _ rfl; have l1 := hlit 1 _ rfl; have l2 := hlit 2 _ rfl; have l3 := hlit 3 _ rfl)))
        all_goals
          go_roundw
          case rel => exact ⟨_, j - 1, rfl, by congr 1; omega, by simp [lit_size]; omega, _, by omega, hd4⟩
          case measure => simp [intOf]; omega
      · obtain rfl : j = 0 := by omega
        have hd3 := hd3.mono (k' := k + 13) (by omega)
        go_wp2_with (first
          | (go_at_call 68; refine (pick_d (hdo.alloc _) (by omega) (by omega) (by omega)).mono ?_; rintro e w8 ⟨y, rfl, hy0, hy1, hd8, hg8⟩; have hlit := lit_cell hdo.lt hg8; have hend := hd8; obtain rfl | rfl : y = 0 ∨ y = 1 := by omega
             all_goals (have l0 := hlit 0 _ rfl; have l1 := hlit 1 _ rfl))
          | (go_at_call 69; refine (odd_d hd3 (by omega) h1 h2).mono ?_; rintro e w7 ⟨c, rfl, hdo⟩; have hend := hdo; cases c))
        all_goals
          go_ret
          exact ⟨_, rfl, by first | omega | (simp [lit_size]; done) | (simp [lit_size]; omega), hend.mono (by omega)⟩
  · obtain ⟨a, rfl⟩ := Int.eq_ofNat_of_zero_le ha0
    obtain ⟨b, rfl⟩ := Int.eq_ofNat_of_zero_le hbb0
    go_loopw [5, 9] (fun o i wr => ∃ (s : ByteArray) (j : Nat), o = .string s ∧ i = .int .i64 j ∧ s.size = j ∧ j ≤ 2 * (1 + a + (1 + b)) ∧ Drawn w wr R v n p (k + 3)) (fun _ i _ => 2 * (1 + a + (1 + b)) - (intOf i).toNat)
    case atStart => exact ⟨_, 0, rfl, rfl, rfl, by omega, hd3.mono (by omega)⟩
    case round =>
      obtain ⟨s, j, rfl, rfl, hsj, hj, hd4⟩ := hrel
      by_cases hlt : j < 2 * (1 + a + (1 + b))
      · go_wp2
        all_goals
          go_roundw
          case rel => exact ⟨_, j + 1, rfl, by go_num, by simp [lit_size]; omega, by omega, hd4⟩
          case measure => simp [intOf]; omega
      · obtain rfl : j = 2 * (1 + a + (1 + b)) := by omega
        go_wp2_with (first
          | (go_at_call 68; refine (pick_d (hdo.alloc _) (by omega) (by omega) (by omega)).mono ?_; rintro e w8 ⟨y, rfl, hy0, hy1, hd8, hg8⟩; have hlit := lit_cell hdo.lt hg8; have hend := hd8; obtain rfl | rfl : y = 0 ∨ y = 1 := by omega
             all_goals (have l0 := hlit 0 _ rfl; have l1 := hlit 1 _ rfl))
          | (go_at_call 69; refine (odd_d hd4 (by omega) h1 h2).mono ?_; rintro e w7 ⟨c, rfl, hdo⟩; have hend := hdo; cases c))
        all_goals
          go_ret
          exact ⟨_, rfl, by first | omega | (simp [lit_size]; done) | (simp [lit_size]; omega), hend.mono (by omega)⟩
  · go_ret
    exact ⟨_, rfl, by first | omega | (simp [lit_size]; done) | (simp [lit_size]; omega), hend.mono (by omega)⟩
  · go_ret
    exact ⟨_, rfl, by first | omega | (simp [lit_size]; done) | (simp [lit_size]; omega), hend.mono (by omega)⟩
  · go_ret
    exact ⟨_, rfl, by first | omega | (simp [lit_size]; done) | (simp [lit_size]; omega), hend.mono (by omega)⟩
  · obtain ⟨a, rfl⟩ := Int.eq_ofNat_of_zero_le ha0
    go_loopw [10, 11] (fun o i wr => ∃ (s : ByteArray) (j : Nat), o = .string s ∧ i = .int .i64 j ∧ s.size + j ≤ 8 ∧ ∃ m, m + j ≤ k + 2 + 8 ∧ Drawn w wr R v n p m) (fun _ i _ => (intOf i).toNat)
    case atStart => exact ⟨_, 1 + a, rfl, by congr 1, by show 0 + (1 + a) ≤ 8; omega, k + 2, by omega, hd2⟩
    case round =>
      obtain ⟨s, j, rfl, rfl, hsj, m, hm, hd3⟩ := hrel
      by_cases hlt : 0 < j
      · go_wp2_with (first
          | (go_at_call 68; refine (pick_d (hd3.alloc _) (by omega) (by omega) (by omega)).mono ?_; rintro e w4 ⟨y, rfl, hy0, hy1, hd4, hg4⟩; have hlit := lit_cell hd3.lt hg4; obtain rfl | rfl | rfl | rfl : y = 0 ∨ y = 1 ∨ y = 2 ∨ y = 3 := by omega
             all_goals (have l0 := hlit 0 _ rfl; have l1 := hlit 1 _ rfl; have l2 := hlit 2 _ rfl; have l3 := hlit 3 _ rfl)))
        all_goals
          go_roundw
          case rel => exact ⟨_, j - 1, rfl, by congr 1; omega, by simp [lit_size]; omega, _, by omega, hd4⟩
          case measure => simp [intOf]; omega
      · obtain rfl : j = 0 := by omega
        have hd3 := hd3.mono (k' := k + 10) (by omega)
        go_wp2_with (go_at_call 68; refine (pick_d hd3 (by omega) (by omega) (by omega)).mono ?_; rintro e w4 ⟨q, rfl, hq0, hq1, hd4, _⟩)
        go_loopw [5, 13, 14, 15] (fun o i _ _ wr => ∃ (t : ByteArray) (j : Nat), o = .string t ∧ i = .int .i64 j ∧ t.size = s.size + j ∧ j ≤ s.size ∧ Drawn w wr R v n p (k + 11)) (fun _ i _ _ _ => s.size - (intOf i).toNat)
        case atStart => exact ⟨_, 0, rfl, rfl, rfl, by omega, hd4⟩
        case round =>
          obtain ⟨t, j, rfl, rfl, htj, hj, hd5⟩ := hrel
          by_cases hlt2 : j < s.size
          · obtain rfl | rfl | rfl | rfl | rfl : q = 0 ∨ q = 1 ∨ q = 2 ∨ q = 3 ∨ q = 4 := by omega
            all_goals
              obtain ⟨z0, hz0, hz0s⟩ := mod_lt (x := (j : Int)) (m := s.size) (by omega)
              obtain ⟨z1, hz1, hz1s⟩ := mod_lt (x := (j : Int) * 3 + 1) (m := s.size) (by omega)
              obtain ⟨z2, hz2, hz2s⟩ := mod_lt (x := (j : Int) * 5 + 2) (m := s.size) (by omega)
              obtain ⟨z3, hz3, hz3s⟩ := mod_lt (x := (j : Int) * 7 + 3) (m := s.size) (by omega)
              obtain ⟨z4, hz4, hz4s⟩ := mod_lt (x := (j : Int) * 9 + 4) (m := s.size) (by omega)
              have r0 := Tw.dir_range s[z0]
              have r1 := Tw.dir_range s[z1]
              have r2 := Tw.dir_range s[z2]
              have r3 := Tw.dir_range s[z3]
              have r4 := Tw.dir_range s[z4]
              have r5 := Tw.dir_range s[j]
            all_goals
              go_wp2_with (first
                | (go_at_call 104; refine (look_any _ _).mono ?_; rintro e w' ⟨rfl, rfl⟩))
            all_goals
              go_roundw
              case rel => exact ⟨_, j + 1, rfl, by go_num, by rw [ByteArray.size_append, cut_size (by omega)]; omega, by omega, hd5⟩
              case measure => simp [intOf]; omega
          · obtain rfl : j = s.size := by omega
            have hst : t.size ≤ 16 := by omega
            go_wp2_with (first
              | (go_at_call 68; refine (pick_d (hdo.alloc _) (by omega) (by omega) (by omega)).mono ?_; rintro e w8 ⟨y, rfl, hy0, hy1, hd8, hg8⟩; have hlit := lit_cell hdo.lt hg8; have hend := hd8; obtain rfl | rfl : y = 0 ∨ y = 1 := by omega
                 all_goals (have l0 := hlit 0 _ rfl; have l1 := hlit 1 _ rfl))
              | (go_at_call 69; refine (odd_d hd5 (by omega) h1 h2).mono ?_; rintro e w7 ⟨c, rfl, hdo⟩; have hend := hdo; cases c))
            all_goals
              go_ret
              exact ⟨_, rfl, by first | omega | (simp [lit_size]; done) | (simp [lit_size]; omega), hend.mono (by omega)⟩
  · obtain ⟨a, rfl⟩ := Int.eq_ofNat_of_zero_le ha0
    go_loopw [10, 11] (fun o i wr => ∃ (s : ByteArray) (j : Nat), o = .string s ∧ i = .int .i64 j ∧ s.size + j ≤ 8 ∧ ∃ m, m + j ≤ k + 2 + 8 ∧ Drawn w wr R v n p m) (fun _ i _ => (intOf i).toNat)
    case atStart => exact ⟨_, 1 + a, rfl, by congr 1, by show 0 + (1 + a) ≤ 8; omega, k + 2, by omega, hd2⟩
    case round =>
      obtain ⟨s, j, rfl, rfl, hsj, m, hm, hd3⟩ := hrel
      by_cases hlt : 0 < j
      · go_wp2_with (first
          | (go_at_call 68; refine (pick_d (hd3.alloc _) (by omega) (by omega) (by omega)).mono ?_; rintro e w4 ⟨y, rfl, hy0, hy1, hd4, hg4⟩; have hlit := lit_cell hd3.lt hg4; obtain rfl | rfl | rfl | rfl : y = 0 ∨ y = 1 ∨ y = 2 ∨ y = 3 := by omega
             all_goals (have l0 := hlit 0 _ rfl; have l1 := hlit 1 _ rfl; have l2 := hlit 2 _ rfl; have l3 := hlit 3 _ rfl)))
        all_goals
          go_roundw
          case rel => exact ⟨_, j - 1, rfl, by congr 1; omega, by simp [lit_size]; omega, _, by omega, hd4⟩
          case measure => simp [intOf]; omega
      · obtain rfl : j = 0 := by omega
        have hd3 := hd3.mono (k' := k + 10) (by omega)
        go_wp2_with (go_at_call 68; refine (pick_d hd3 (by omega) (by omega) (by omega)).mono ?_; rintro e w4 ⟨q, rfl, hq0, hq1, hd4, _⟩)
        go_loopw [5, 13, 14, 15] (fun o i _ _ wr => ∃ (t : ByteArray) (j : Nat), o = .string t ∧ i = .int .i64 j ∧ t.size = s.size + j ∧ j ≤ s.size ∧ Drawn w wr R v n p (k + 11)) (fun _ i _ _ _ => s.size - (intOf i).toNat)
        case atStart => exact ⟨_, 0, rfl, rfl, rfl, by omega, hd4⟩
        case round =>
          obtain ⟨t, j, rfl, rfl, htj, hj, hd5⟩ := hrel
          by_cases hlt2 : j < s.size
          · obtain rfl | rfl | rfl | rfl | rfl : q = 0 ∨ q = 1 ∨ q = 2 ∨ q = 3 ∨ q = 4 := by omega
            all_goals
              obtain ⟨z0, hz0, hz0s⟩ := mod_lt (x := (j : Int)) (m := s.size) (by omega)
              obtain ⟨z1, hz1, hz1s⟩ := mod_lt (x := (j : Int) * 3 + 1) (m := s.size) (by omega)
              obtain ⟨z2, hz2, hz2s⟩ := mod_lt (x := (j : Int) * 5 + 2) (m := s.size) (by omega)
              obtain ⟨z3, hz3, hz3s⟩ := mod_lt (x := (j : Int) * 7 + 3) (m := s.size) (by omega)
              obtain ⟨z4, hz4, hz4s⟩ := mod_lt (x := (j : Int) * 9 + 4) (m := s.size) (by omega)
              have r0 := Tw.dir_range s[z0]
              have r1 := Tw.dir_range s[z1]
              have r2 := Tw.dir_range s[z2]
              have r3 := Tw.dir_range s[z3]
              have r4 := Tw.dir_range s[z4]
              have r5 := Tw.dir_range s[j]
            all_goals
              go_wp2_with (first
                | (go_at_call 104; refine (look_any _ _).mono ?_; rintro e w' ⟨rfl, rfl⟩))
            all_goals
              go_roundw
              case rel => exact ⟨_, j + 1, rfl, by go_num, by rw [ByteArray.size_append, cut_size (by omega)]; omega, by omega, hd5⟩
              case measure => simp [intOf]; omega
          · obtain rfl : j = s.size := by omega
            have hst : t.size ≤ 16 := by omega
            go_wp2_with (first
              | (go_at_call 68; refine (pick_d (hdo.alloc _) (by omega) (by omega) (by omega)).mono ?_; rintro e w8 ⟨y, rfl, hy0, hy1, hd8, hg8⟩; have hlit := lit_cell hdo.lt hg8; have hend := hd8; obtain rfl | rfl : y = 0 ∨ y = 1 := by omega
                 all_goals (have l0 := hlit 0 _ rfl; have l1 := hlit 1 _ rfl))
              | (go_at_call 69; refine (odd_d hd5 (by omega) h1 h2).mono ?_; rintro e w7 ⟨c, rfl, hdo⟩; have hend := hdo; cases c))
            all_goals
              go_ret
              exact ⟨_, rfl, by first | omega | (simp [lit_size]; done) | (simp [lit_size]; omega), hend.mono (by omega)⟩

end Go.Proofs.YtccdfndnjjjgfaaGreatDoor
