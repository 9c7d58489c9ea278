/-
  Contracts of the reference's UnwovenOf and RunsOf.
-/
import Derived.Test.YtjcagkpolfacpaaWoven
namespace Go.Proofs.Ytjcagkpolfacpaa
open Go.RowKit

theorem ret_cell {a b c d : Int} (h : a = c) (k : b = d) : Ending.returned (.tuple #[.int .i64 a, .int .i64 b, .bool true]) = .returned (.tuple #[.int .i64 c, .int .i64 d, .bool true]) := by rw [h, k]
namespace Rn
def okB (h l lo r hi : Int) : Bool := decide (0 ≤ h ∧ h ≤ 4 ∧ 0 ≤ l ∧ l ≤ r ∧ 0 ≤ lo ∧ lo ≤ hi ∧ r < 2 ^ h.toNat ∧ hi < 2 ^ h.toNat)
/-- What RunsOf says. -/
def runsOf (h l lo r hi : Int) : Int := if okB h l lo r hi = true then (blockRuns h.toNat l.toNat lo.toNat r.toNat hi.toNat : Int) else -1
def inX (left right n : Nat) : Bool := decide (left ≤ east n) && decide (east n ≤ right)
def inY (low high n : Nat) : Bool := decide (low ≤ north n) && decide (north n ≤ high)
theorem in_block (left low right high n : Nat) : inBlock left low right high n = (inX left right n && inY low high n) := by
  unfold inBlock inX inY
  simp only [Bool.and_assoc]
def was (p : Nat → Bool) (n : Nat) : Bool := decide (0 < n) && p (n - 1)
theorem starts_succ (p : Nat → Bool) (n : Nat) : starts p (n + 1) = starts p n + if p n = true ∧ ¬ was p n = true then 1 else 0 := by
  rw [starts]
  congr 2
  unfold was
  simp
theorem was_succ (p : Nat → Bool) (n : Nat) : was p (n + 1) = p n := by simp [was]
theorem starts_le (p : Nat → Bool) : ∀ n, starts p n ≤ n
  | 0 => Nat.le_refl _
  | n + 1 => by
    have := starts_le p n
    rw [starts]
    split <;> omega
end Rn

set_option maxHeartbeats 1600000 in
theorem unwoven_0 (n : Nat) (hn : n < 1) (w : World) : Calls Try.prog 10 #[.int .i64 0, .int .i64 n] w fun e w' => e = .returned (.tuple #[.int .i64 (Rn.east n), .int .i64 (Rn.north n), .bool true]) ∧ w = w' := by
  go_enter Try.func10, Try.ntmps10
  go_wp2_with (go_at_call 9; refine (in_yes _ _ _ _ (by omega) (by omega)).mono ?_; rintro e w' ⟨rfl, rfl⟩)
  refine wp_loop_rounds 1 ?_
  rw [rounds_succ]
  go_wp2
  go_ret3
  exact ⟨ret_cell (by unfold Rn.east Rn.bit; omega) (by unfold Rn.north Rn.bit; omega), rfl⟩
set_option maxHeartbeats 1600000 in
theorem unwoven_1 (n : Nat) (hn : n < 4) (w : World) : Calls Try.prog 10 #[.int .i64 1, .int .i64 n] w fun e w' => e = .returned (.tuple #[.int .i64 (Rn.east n), .int .i64 (Rn.north n), .bool true]) ∧ w = w' := by
  go_enter Try.func10, Try.ntmps10
  go_wp2_with (go_at_call 9; refine (in_yes _ _ _ _ (by omega) (by omega)).mono ?_; rintro e w' ⟨rfl, rfl⟩)
  refine wp_loop_rounds 2 ?_
  rw [rounds_succ]
  go_wp2
  rw [rounds_succ]
  go_wp2
  go_ret3
  exact ⟨ret_cell (by unfold Rn.east Rn.bit; omega) (by unfold Rn.north Rn.bit; omega), rfl⟩
set_option maxHeartbeats 1600000 in
theorem unwoven_2 (n : Nat) (hn : n < 16) (w : World) : Calls Try.prog 10 #[.int .i64 2, .int .i64 n] w fun e w' => e = .returned (.tuple #[.int .i64 (Rn.east n), .int .i64 (Rn.north n), .bool true]) ∧ w = w' := by
  go_enter Try.func10, Try.ntmps10
  go_wp2_with (go_at_call 9; refine (in_yes _ _ _ _ (by omega) (by omega)).mono ?_; rintro e w' ⟨rfl, rfl⟩)
  refine wp_loop_rounds 3 ?_
  rw [rounds_succ]
  go_wp2
  rw [rounds_succ]
  go_wp2
  rw [rounds_succ]
  go_wp2
  go_ret3
  exact ⟨ret_cell (by unfold Rn.east Rn.bit; omega) (by unfold Rn.north Rn.bit; omega), rfl⟩
set_option maxHeartbeats 1600000 in
theorem unwoven_3 (n : Nat) (hn : n < 64) (w : World) : Calls Try.prog 10 #[.int .i64 3, .int .i64 n] w fun e w' => e = .returned (.tuple #[.int .i64 (Rn.east n), .int .i64 (Rn.north n), .bool true]) ∧ w = w' := by
  go_enter Try.func10, Try.ntmps10
  go_wp2_with (go_at_call 9; refine (in_yes _ _ _ _ (by omega) (by omega)).mono ?_; rintro e w' ⟨rfl, rfl⟩)
  refine wp_loop_rounds 4 ?_
  rw [rounds_succ]
  go_wp2
  rw [rounds_succ]
  go_wp2
  rw [rounds_succ]
  go_wp2
  rw [rounds_succ]
  go_wp2
  go_ret3
  exact ⟨ret_cell (by unfold Rn.east Rn.bit; omega) (by unfold Rn.north Rn.bit; omega), rfl⟩
set_option maxHeartbeats 1600000 in
theorem unwoven_4 (n : Nat) (hn : n < 256) (w : World) : Calls Try.prog 10 #[.int .i64 4, .int .i64 n] w fun e w' => e = .returned (.tuple #[.int .i64 (Rn.east n), .int .i64 (Rn.north n), .bool true]) ∧ w = w' := by
  go_enter Try.func10, Try.ntmps10
  go_wp2_with (go_at_call 9; refine (in_yes _ _ _ _ (by omega) (by omega)).mono ?_; rintro e w' ⟨rfl, rfl⟩)
  refine wp_loop_rounds 5 ?_
  rw [rounds_succ]
  go_wp2
  rw [rounds_succ]
  go_wp2
  rw [rounds_succ]
  go_wp2
  rw [rounds_succ]
  go_wp2
  rw [rounds_succ]
  go_wp2
  go_ret3
  exact ⟨ret_cell (by unfold Rn.east Rn.bit; omega) (by unfold Rn.north Rn.bit; omega), rfl⟩

theorem in_is (n lo hi : Int) (b : Bool) (hb : (decide (lo ≤ n) && decide (n ≤ hi)) = b) (w : World) :
    Calls Try.prog 9 #[.int .i64 n, .int .i64 lo, .int .i64 hi] w fun e w' => e = .returned (.bool b) ∧ w = w' := hb ▸ in_any n lo hi w
set_option maxRecDepth 100000 in
set_option maxHeartbeats 3200000 in
theorem specRuns_0 (l lo r hi : Nat) (h1 : l ≤ r) (h2 : lo ≤ hi) (h3 : r < 1) (h4 : hi < 1) (w : World) :
    Calls Try.prog 5 #[.int .i64 0, .int .i64 l, .int .i64 lo, .int .i64 r, .int .i64 hi] w fun e w' => e = .returned (.int .i64 (Rn.starts (Rn.inBlock l lo r hi) 1)) ∧ w = w' := by
  obtain ⟨p, hp⟩ : ∃ p, Rn.inBlock l lo r hi = p := ⟨_, rfl⟩
  rw [hp]
  have HP : Hid (∀ n, p n = (Rn.inX l r n && Rn.inY lo hi n)) := fun n => by rw [← hp, Rn.in_block]
  clear hp
  go_enter Try.func5, Try.ntmps5
  go_wp2_with (go_at_call 9; refine (in_yes _ _ _ _ (by omega) (by omega)).mono ?_; rintro e w' ⟨rfl, rfl⟩)
  go_loop [11, 12, 13] (fun a b i => ∃ n : Nat, n ≤ 1 ∧ a = .int .i64 (Rn.starts p n) ∧ b = .bool (Rn.was p n) ∧ i = .int .i64 n) (fun _ _ i => 1 - (intOf i).toNat)
  case atStart => exact ⟨0, Nat.zero_le _, rfl, rfl, rfl⟩
  case round =>
    obtain ⟨n, hn, rfl, rfl, rfl⟩ := hrel
    by_cases hlt : n < 1
    · have hst := Rn.starts_le p n
      obtain ⟨a, ha⟩ : ∃ a, Rn.starts p n = a := ⟨_, rfl⟩
      obtain ⟨b, hb⟩ : ∃ b, Rn.was p n = b := ⟨_, rfl⟩
      obtain ⟨b1, hb1⟩ : ∃ b, Rn.inX l r n = b := ⟨_, rfl⟩
      obtain ⟨b2, hb2⟩ : ∃ b, Rn.inY lo hi n = b := ⟨_, rfl⟩
      rw [ha] at hst ⊢
      rw [hb]
      have HS := Rn.starts_succ p n
      have HW := Rn.was_succ p n
      rw [HP.out n, hb1, hb2, ha, hb] at HS
      rw [HP.out n, hb1, hb2] at HW
      have HS' := Lib.hid HS
      have HW' := Lib.hid HW
      have HU := Lib.hid (unwoven_0 n hlt)
      have k1 : (decide ((l : Int) ≤ (Rn.east n : Int)) && decide ((Rn.east n : Int) ≤ (r : Int))) = b1 := by rw [← hb1]; unfold Rn.inX; simp only [Int.ofNat_le]
      have k2 : (decide ((lo : Int) ≤ (Rn.north n : Int)) && decide ((Rn.north n : Int) ≤ (hi : Int))) = b2 := by rw [← hb2]; unfold Rn.inY; simp only [Int.ofNat_le]
      have HX := Lib.hid (in_is _ _ _ b1 k1)
      have HY := Lib.hid (in_is _ _ _ b2 k2)
      obtain ⟨x, hx⟩ : ∃ x, Rn.east n = x := ⟨_, rfl⟩
      obtain ⟨y, hy⟩ : ∃ y, Rn.north n = y := ⟨_, rfl⟩
      rw [hx] at HX HU
      rw [hy] at HY HU
      clear HS HW ha hb hb1 hb2 k1 k2 hx hy
      cases b1 <;> cases b2 <;> cases b
      all_goals
        go_wp2_with (first
          | (go_at_call 10; refine (HU.out _).mono ?_; rintro e w' ⟨rfl, rfl⟩)
          | (go_at_call 9; first | ((with_reducible refine (HX.out _).mono ?_); rintro e w' ⟨rfl, rfl⟩) | ((with_reducible refine (HY.out _).mono ?_); rintro e w' ⟨rfl, rfl⟩)))
        go_round
        case rel => exact ⟨n + 1, by omega, by rw [HS'.out]; rfl, by rw [HW'.out]; rfl, by go_num⟩
        case measure => simp [intOf]; omega
    · obtain rfl : n = 1 := by omega
      go_wp2_with fail
      go_ret
      exact ⟨rfl, rfl⟩
set_option maxRecDepth 100000 in
set_option maxHeartbeats 3200000 in
theorem specRuns_1 (l lo r hi : Nat) (h1 : l ≤ r) (h2 : lo ≤ hi) (h3 : r < 2) (h4 : hi < 2) (w : World) :
    Calls Try.prog 5 #[.int .i64 1, .int .i64 l, .int .i64 lo, .int .i64 r, .int .i64 hi] w fun e w' => e = .returned (.int .i64 (Rn.starts (Rn.inBlock l lo r hi) 4)) ∧ w = w' := by
  obtain ⟨p, hp⟩ : ∃ p, Rn.inBlock l lo r hi = p := ⟨_, rfl⟩
  rw [hp]
  have HP : Hid (∀ n, p n = (Rn.inX l r n && Rn.inY lo hi n)) := fun n => by rw [← hp, Rn.in_block]
  clear hp
  go_enter Try.func5, Try.ntmps5
  go_wp2_with (go_at_call 9; refine (in_yes _ _ _ _ (by omega) (by omega)).mono ?_; rintro e w' ⟨rfl, rfl⟩)
  go_loop [11, 12, 13] (fun a b i => ∃ n : Nat, n ≤ 4 ∧ a = .int .i64 (Rn.starts p n) ∧ b = .bool (Rn.was p n) ∧ i = .int .i64 n) (fun _ _ i => 4 - (intOf i).toNat)
  case atStart => exact ⟨0, Nat.zero_le _, rfl, rfl, rfl⟩
  case round =>
    obtain ⟨n, hn, rfl, rfl, rfl⟩ := hrel
    by_cases hlt : n < 4
    · have hst := Rn.starts_le p n
      obtain ⟨a, ha⟩ : ∃ a, Rn.starts p n = a := ⟨_, rfl⟩
      obtain ⟨b, hb⟩ : ∃ b, Rn.was p n = b := ⟨_, rfl⟩
      obtain ⟨b1, hb1⟩ : ∃ b, Rn.inX l r n = b := ⟨_, rfl⟩
      obtain ⟨b2, hb2⟩ : ∃ b, Rn.inY lo hi n = b := ⟨_, rfl⟩
      rw [ha] at hst ⊢
      rw [hb]
      have HS := Rn.starts_succ p n
      have HW := Rn.was_succ p n
      rw [HP.out n, hb1, hb2, ha, hb] at HS
      rw [HP.out n, hb1, hb2] at HW
      have HS' := Lib.hid HS
      have HW' := Lib.hid HW
      have HU := Lib.hid (unwoven_1 n hlt)
      have k1 : (decide ((l : Int) ≤ (Rn.east n : Int)) && decide ((Rn.east n : Int) ≤ (r : Int))) = b1 := by rw [← hb1]; unfold Rn.inX; simp only [Int.ofNat_le]
      have k2 : (decide ((lo : Int) ≤ (Rn.north n : Int)) && decide ((Rn.north n : Int) ≤ (hi : Int))) = b2 := by rw [← hb2]; unfold Rn.inY; simp only [Int.ofNat_le]
      have HX := Lib.hid (in_is _ _ _ b1 k1)
      have HY := Lib.hid (in_is _ _ _ b2 k2)
      obtain ⟨x, hx⟩ : ∃ x, Rn.east n = x := ⟨_, rfl⟩
      obtain ⟨y, hy⟩ : ∃ y, Rn.north n = y := ⟨_, rfl⟩
      rw [hx] at HX HU
      rw [hy] at HY HU
      clear HS HW ha hb hb1 hb2 k1 k2 hx hy
      cases b1 <;> cases b2 <;> cases b
      all_goals
        go_wp2_with (first
          | (go_at_call 10; refine (HU.out _).mono ?_; rintro e w' ⟨rfl, rfl⟩)
          | (go_at_call 9; first | ((with_reducible refine (HX.out _).mono ?_); rintro e w' ⟨rfl, rfl⟩) | ((with_reducible refine (HY.out _).mono ?_); rintro e w' ⟨rfl, rfl⟩)))
        go_round
        case rel => exact ⟨n + 1, by omega, by rw [HS'.out]; rfl, by rw [HW'.out]; rfl, by go_num⟩
        case measure => simp [intOf]; omega
    · obtain rfl : n = 4 := by omega
      go_wp2_with fail
      go_ret
      exact ⟨rfl, rfl⟩
set_option maxRecDepth 100000 in
set_option maxHeartbeats 3200000 in
theorem specRuns_2 (l lo r hi : Nat) (h1 : l ≤ r) (h2 : lo ≤ hi) (h3 : r < 4) (h4 : hi < 4) (w : World) :
    Calls Try.prog 5 #[.int .i64 2, .int .i64 l, .int .i64 lo, .int .i64 r, .int .i64 hi] w fun e w' => e = .returned (.int .i64 (Rn.starts (Rn.inBlock l lo r hi) 16)) ∧ w = w' := by
  obtain ⟨p, hp⟩ : ∃ p, Rn.inBlock l lo r hi = p := ⟨_, rfl⟩
  rw [hp]
  have HP : Hid (∀ n, p n = (Rn.inX l r n && Rn.inY lo hi n)) := fun n => by rw [← hp, Rn.in_block]
  clear hp
  go_enter Try.func5, Try.ntmps5
  go_wp2_with (go_at_call 9; refine (in_yes _ _ _ _ (by omega) (by omega)).mono ?_; rintro e w' ⟨rfl, rfl⟩)
  go_loop [11, 12, 13] (fun a b i => ∃ n : Nat, n ≤ 16 ∧ a = .int .i64 (Rn.starts p n) ∧ b = .bool (Rn.was p n) ∧ i = .int .i64 n) (fun _ _ i => 16 - (intOf i).toNat)
  case atStart => exact ⟨0, Nat.zero_le _, rfl, rfl, rfl⟩
  case round =>
    obtain ⟨n, hn, rfl, rfl, rfl⟩ := hrel
    by_cases hlt : n < 16
    · have hst := Rn.starts_le p n
      obtain ⟨a, ha⟩ : ∃ a, Rn.starts p n = a := ⟨_, rfl⟩
      obtain ⟨b, hb⟩ : ∃ b, Rn.was p n = b := ⟨_, rfl⟩
      obtain ⟨b1, hb1⟩ : ∃ b, Rn.inX l r n = b := ⟨_, rfl⟩
      obtain ⟨b2, hb2⟩ : ∃ b, Rn.inY lo hi n = b := ⟨_, rfl⟩
      rw [ha] at hst ⊢
      rw [hb]
      have HS := Rn.starts_succ p n
      have HW := Rn.was_succ p n
      rw [HP.out n, hb1, hb2, ha, hb] at HS
      rw [HP.out n, hb1, hb2] at HW
      have HS' := Lib.hid HS
      have HW' := Lib.hid HW
      have HU := Lib.hid (unwoven_2 n hlt)
      have k1 : (decide ((l : Int) ≤ (Rn.east n : Int)) && decide ((Rn.east n : Int) ≤ (r : Int))) = b1 := by rw [← hb1]; unfold Rn.inX; simp only [Int.ofNat_le]
      have k2 : (decide ((lo : Int) ≤ (Rn.north n : Int)) && decide ((Rn.north n : Int) ≤ (hi : Int))) = b2 := by rw [← hb2]; unfold Rn.inY; simp only [Int.ofNat_le]
      have HX := Lib.hid (in_is _ _ _ b1 k1)
      have HY := Lib.hid (in_is _ _ _ b2 k2)
      obtain ⟨x, hx⟩ : ∃ x, Rn.east n = x := ⟨_, rfl⟩
      obtain ⟨y, hy⟩ : ∃ y, Rn.north n = y := ⟨_, rfl⟩
      rw [hx] at HX HU
      rw [hy] at HY HU
      clear HS HW ha hb hb1 hb2 k1 k2 hx hy
      cases b1 <;> cases b2 <;> cases b
      all_goals
        go_wp2_with (first
          | (go_at_call 10; refine (HU.out _).mono ?_; rintro e w' ⟨rfl, rfl⟩)
          | (go_at_call 9; first | ((with_reducible refine (HX.out _).mono ?_); rintro e w' ⟨rfl, rfl⟩) | ((with_reducible refine (HY.out _).mono ?_); rintro e w' ⟨rfl, rfl⟩)))
        go_round
        case rel => exact ⟨n + 1, by omega, by rw [HS'.out]; rfl, by rw [HW'.out]; rfl, by go_num⟩
        case measure => simp [intOf]; omega
    · obtain rfl : n = 16 := by omega
      go_wp2_with fail
      go_ret
      exact ⟨rfl, rfl⟩
set_option maxRecDepth 100000 in
set_option maxHeartbeats 3200000 in
theorem specRuns_3 (l lo r hi : Nat) (h1 : l ≤ r) (h2 : lo ≤ hi) (h3 : r < 8) (h4 : hi < 8) (w : World) :
    Calls Try.prog 5 #[.int .i64 3, .int .i64 l, .int .i64 lo, .int .i64 r, .int .i64 hi] w fun e w' => e = .returned (.int .i64 (Rn.starts (Rn.inBlock l lo r hi) 64)) ∧ w = w' := by
  obtain ⟨p, hp⟩ : ∃ p, Rn.inBlock l lo r hi = p := ⟨_, rfl⟩
  rw [hp]
  have HP : Hid (∀ n, p n = (Rn.inX l r n && Rn.inY lo hi n)) := fun n => by rw [← hp, Rn.in_block]
  clear hp
  go_enter Try.func5, Try.ntmps5
  go_wp2_with (go_at_call 9; refine (in_yes _ _ _ _ (by omega) (by omega)).mono ?_; rintro e w' ⟨rfl, rfl⟩)
  go_loop [11, 12, 13] (fun a b i => ∃ n : Nat, n ≤ 64 ∧ a = .int .i64 (Rn.starts p n) ∧ b = .bool (Rn.was p n) ∧ i = .int .i64 n) (fun _ _ i => 64 - (intOf i).toNat)
  case atStart => exact ⟨0, Nat.zero_le _, rfl, rfl, rfl⟩
  case round =>
    obtain ⟨n, hn, rfl, rfl, rfl⟩ := hrel
    by_cases hlt : n < 64
    · have hst := Rn.starts_le p n
      obtain ⟨a, ha⟩ : ∃ a, Rn.starts p n = a := ⟨_, rfl⟩
      obtain ⟨b, hb⟩ : ∃ b, Rn.was p n = b := ⟨_, rfl⟩
      obtain ⟨b1, hb1⟩ : ∃ b, Rn.inX l r n = b := ⟨_, rfl⟩
      obtain ⟨b2, hb2⟩ : ∃ b, Rn.inY lo hi n = b := ⟨_, rfl⟩
      rw [ha] at hst ⊢
      rw [hb]
      have HS := Rn.starts_succ p n
      have HW := Rn.was_succ p n
      rw [HP.out n, hb1, hb2, ha, hb] at HS
      rw [HP.out n, hb1, hb2] at HW
      have HS' := Lib.hid HS
      have HW' := Lib.hid HW
      have HU := Lib.hid (unwoven_3 n hlt)
      have k1 : (decide ((l : Int) ≤ (Rn.east n : Int)) && decide ((Rn.east n : Int) ≤ (r : Int))) = b1 := by rw [← hb1]; unfold Rn.inX; simp only [Int.ofNat_le]
      have k2 : (decide ((lo : Int) ≤ (Rn.north n : Int)) && decide ((Rn.north n : Int) ≤ (hi : Int))) = b2 := by rw [← hb2]; unfold Rn.inY; simp only [Int.ofNat_le]
      have HX := Lib.hid (in_is _ _ _ b1 k1)
      have HY := Lib.hid (in_is _ _ _ b2 k2)
      obtain ⟨x, hx⟩ : ∃ x, Rn.east n = x := ⟨_, rfl⟩
      obtain ⟨y, hy⟩ : ∃ y, Rn.north n = y := ⟨_, rfl⟩
      rw [hx] at HX HU
      rw [hy] at HY HU
      clear HS HW ha hb hb1 hb2 k1 k2 hx hy
      cases b1 <;> cases b2 <;> cases b
      all_goals
        go_wp2_with (first
          | (go_at_call 10; refine (HU.out _).mono ?_; rintro e w' ⟨rfl, rfl⟩)
          | (go_at_call 9; first | ((with_reducible refine (HX.out _).mono ?_); rintro e w' ⟨rfl, rfl⟩) | ((with_reducible refine (HY.out _).mono ?_); rintro e w' ⟨rfl, rfl⟩)))
        go_round
        case rel => exact ⟨n + 1, by omega, by rw [HS'.out]; rfl, by rw [HW'.out]; rfl, by go_num⟩
        case measure => simp [intOf]; omega
    · obtain rfl : n = 64 := by omega
      go_wp2_with fail
      go_ret
      exact ⟨rfl, rfl⟩
set_option maxRecDepth 100000 in
set_option maxHeartbeats 3200000 in
theorem specRuns_4 (l lo r hi : Nat) (h1 : l ≤ r) (h2 : lo ≤ hi) (h3 : r < 16) (h4 : hi < 16) (w : World) :
    Calls Try.prog 5 #[.int .i64 4, .int .i64 l, .int .i64 lo, .int .i64 r, .int .i64 hi] w fun e w' => e = .returned (.int .i64 (Rn.starts (Rn.inBlock l lo r hi) 256)) ∧ w = w' := by
  obtain ⟨p, hp⟩ : ∃ p, Rn.inBlock l lo r hi = p := ⟨_, rfl⟩
  rw [hp]
  have HP : Hid (∀ n, p n = (Rn.inX l r n && Rn.inY lo hi n)) := fun n => by rw [← hp, Rn.in_block]
  clear hp
  go_enter Try.func5, Try.ntmps5
  go_wp2_with (go_at_call 9; refine (in_yes _ _ _ _ (by omega) (by omega)).mono ?_; rintro e w' ⟨rfl, rfl⟩)
  go_loop [11, 12, 13] (fun a b i => ∃ n : Nat, n ≤ 256 ∧ a = .int .i64 (Rn.starts p n) ∧ b = .bool (Rn.was p n) ∧ i = .int .i64 n) (fun _ _ i => 256 - (intOf i).toNat)
  case atStart => exact ⟨0, Nat.zero_le _, rfl, rfl, rfl⟩
  case round =>
    obtain ⟨n, hn, rfl, rfl, rfl⟩ := hrel
    by_cases hlt : n < 256
    · have hst := Rn.starts_le p n
      obtain ⟨a, ha⟩ : ∃ a, Rn.starts p n = a := ⟨_, rfl⟩
      obtain ⟨b, hb⟩ : ∃ b, Rn.was p n = b := ⟨_, rfl⟩
      obtain ⟨b1, hb1⟩ : ∃ b, Rn.inX l r n = b := ⟨_, rfl⟩
      obtain ⟨b2, hb2⟩ : ∃ b, Rn.inY lo hi n = b := ⟨_, rfl⟩
      rw [ha] at hst ⊢
      rw [hb]
      have HS := Rn.starts_succ p n
      have HW := Rn.was_succ p n
      rw [HP.out n, hb1, hb2, ha, hb] at HS
      rw [HP.out n, hb1, hb2] at HW
      have HS' := Lib.hid HS
      have HW' := Lib.hid HW
      have HU := Lib.hid (unwoven_4 n hlt)
      have k1 : (decide ((l : Int) ≤ (Rn.east n : Int)) && decide ((Rn.east n : Int) ≤ (r : Int))) = b1 := by rw [← hb1]; unfold Rn.inX; simp only [Int.ofNat_le]
      have k2 : (decide ((lo : Int) ≤ (Rn.north n : Int)) && decide ((Rn.north n : Int) ≤ (hi : Int))) = b2 := by rw [← hb2]; unfold Rn.inY; simp only [Int.ofNat_le]
      have HX := Lib.hid (in_is _ _ _ b1 k1)
      have HY := Lib.hid (in_is _ _ _ b2 k2)
      obtain ⟨x, hx⟩ : ∃ x, Rn.east n = x := ⟨_, rfl⟩
      obtain ⟨y, hy⟩ : ∃ y, Rn.north n = y := ⟨_, rfl⟩
      rw [hx] at HX HU
      rw [hy] at HY HU
      clear HS HW ha hb hb1 hb2 k1 k2 hx hy
      cases b1 <;> cases b2 <;> cases b
      all_goals
        go_wp2_with (first
          | (go_at_call 10; refine (HU.out _).mono ?_; rintro e w' ⟨rfl, rfl⟩)
          | (go_at_call 9; first | ((with_reducible refine (HX.out _).mono ?_); rintro e w' ⟨rfl, rfl⟩) | ((with_reducible refine (HY.out _).mono ?_); rintro e w' ⟨rfl, rfl⟩)))
        go_round
        case rel => exact ⟨n + 1, by omega, by rw [HS'.out]; rfl, by rw [HW'.out]; rfl, by go_num⟩
        case measure => simp [intOf]; omega
    · obtain rfl : n = 256 := by omega
      go_wp2_with fail
      go_ret
      exact ⟨rfl, rfl⟩
set_option maxHeartbeats 1600000 in
theorem specRunsNo_0 (l lo r hi : Int) (b2 b3 b4 b5 : Bool) (h2 : (decide (0 ≤ l) && decide (l ≤ r)) = b2) (h3 : (decide (0 ≤ lo) && decide (lo ≤ hi)) = b3) (h4 : (decide (0 ≤ r) && decide (r ≤ 0)) = b4) (h5 : (decide (0 ≤ hi) && decide (hi ≤ 0)) = b5) (hno : (b2 && b3 && b4 && b5) = false) (w : World) :
    Calls Try.prog 5 #[.int .i64 0, .int .i64 l, .int .i64 lo, .int .i64 r, .int .i64 hi] w fun e w' => e = .returned (.int .i64 (-1)) ∧ w = w' := by
  have H1 := Lib.hid (in_is 0 0 4 true (by decide))
  have H2 := Lib.hid (in_is _ _ _ b2 h2)
  have H3 := Lib.hid (in_is _ _ _ b3 h3)
  have H4 := Lib.hid (in_is _ _ _ b4 h4)
  have H5 := Lib.hid (in_is _ _ _ b5 h5)
  clear h2 h3 h4 h5
  cases b2
  rotate_left
  · cases b3
    rotate_left
    · cases b4
      rotate_left
      · cases b5
        rotate_left
        · simp at hno
        all_goals
          clear hno
          go_enter Try.func5, Try.ntmps5
          go_wp2_with (go_at_call 9; first
            | ((with_reducible refine (H5.out _).mono ?_); clear H5; rintro e w' ⟨rfl, rfl⟩)
            | ((with_reducible refine (H4.out _).mono ?_); clear H4; rintro e w' ⟨rfl, rfl⟩)
            | ((with_reducible refine (H3.out _).mono ?_); clear H3; rintro e w' ⟨rfl, rfl⟩)
            | ((with_reducible refine (H2.out _).mono ?_); clear H2; rintro e w' ⟨rfl, rfl⟩)
            | ((with_reducible refine (H1.out _).mono ?_); clear H1; rintro e w' ⟨rfl, rfl⟩))
          go_ret
          exact ⟨rfl, rfl⟩
      all_goals
        clear hno
        go_enter Try.func5, Try.ntmps5
        go_wp2_with (go_at_call 9; first
          | ((with_reducible refine (H4.out _).mono ?_); clear H4; rintro e w' ⟨rfl, rfl⟩)
          | ((with_reducible refine (H3.out _).mono ?_); clear H3; rintro e w' ⟨rfl, rfl⟩)
          | ((with_reducible refine (H2.out _).mono ?_); clear H2; rintro e w' ⟨rfl, rfl⟩)
          | ((with_reducible refine (H1.out _).mono ?_); clear H1; rintro e w' ⟨rfl, rfl⟩))
        go_ret
        exact ⟨rfl, rfl⟩
    all_goals
      clear hno
      go_enter Try.func5, Try.ntmps5
      go_wp2_with (go_at_call 9; first
        | ((with_reducible refine (H3.out _).mono ?_); clear H3; rintro e w' ⟨rfl, rfl⟩)
        | ((with_reducible refine (H2.out _).mono ?_); clear H2; rintro e w' ⟨rfl, rfl⟩)
        | ((with_reducible refine (H1.out _).mono ?_); clear H1; rintro e w' ⟨rfl, rfl⟩))
      go_ret
      exact ⟨rfl, rfl⟩
  all_goals
    clear hno
    go_enter Try.func5, Try.ntmps5
    go_wp2_with (go_at_call 9; first
      | ((with_reducible refine (H2.out _).mono ?_); clear H2; rintro e w' ⟨rfl, rfl⟩)
      | ((with_reducible refine (H1.out _).mono ?_); clear H1; rintro e w' ⟨rfl, rfl⟩))
    go_ret
    exact ⟨rfl, rfl⟩
set_option maxHeartbeats 1600000 in
theorem specRunsNo_1 (l lo r hi : Int) (b2 b3 b4 b5 : Bool) (h2 : (decide (0 ≤ l) && decide (l ≤ r)) = b2) (h3 : (decide (0 ≤ lo) && decide (lo ≤ hi)) = b3) (h4 : (decide (0 ≤ r) && decide (r ≤ 1)) = b4) (h5 : (decide (0 ≤ hi) && decide (hi ≤ 1)) = b5) (hno : (b2 && b3 && b4 && b5) = false) (w : World) :
    Calls Try.prog 5 #[.int .i64 1, .int .i64 l, .int .i64 lo, .int .i64 r, .int .i64 hi] w fun e w' => e = .returned (.int .i64 (-1)) ∧ w = w' := by
  have H1 := Lib.hid (in_is 1 0 4 true (by decide))
  have H2 := Lib.hid (in_is _ _ _ b2 h2)
  have H3 := Lib.hid (in_is _ _ _ b3 h3)
  have H4 := Lib.hid (in_is _ _ _ b4 h4)
  have H5 := Lib.hid (in_is _ _ _ b5 h5)
  clear h2 h3 h4 h5
  cases b2
  rotate_left
  · cases b3
    rotate_left
    · cases b4
      rotate_left
      · cases b5
        rotate_left
        · simp at hno
        all_goals
          clear hno
          go_enter Try.func5, Try.ntmps5
          go_wp2_with (go_at_call 9; first
            | ((with_reducible refine (H5.out _).mono ?_); clear H5; rintro e w' ⟨rfl, rfl⟩)
            | ((with_reducible refine (H4.out _).mono ?_); clear H4; rintro e w' ⟨rfl, rfl⟩)
            | ((with_reducible refine (H3.out _).mono ?_); clear H3; rintro e w' ⟨rfl, rfl⟩)
            | ((with_reducible refine (H2.out _).mono ?_); clear H2; rintro e w' ⟨rfl, rfl⟩)
            | ((with_reducible refine (H1.out _).mono ?_); clear H1; rintro e w' ⟨rfl, rfl⟩))
          go_ret
          exact ⟨rfl, rfl⟩
      all_goals
        clear hno
        go_enter Try.func5, Try.ntmps5
        go_wp2_with (go_at_call 9; first
          | ((with_reducible refine (H4.out _).mono ?_); clear H4; rintro e w' ⟨rfl, rfl⟩)
          | ((with_reducible refine (H3.out _).mono ?_); clear H3; rintro e w' ⟨rfl, rfl⟩)
          | ((with_reducible refine (H2.out _).mono ?_); clear H2; rintro e w' ⟨rfl, rfl⟩)
          | ((with_reducible refine (H1.out _).mono ?_); clear H1; rintro e w' ⟨rfl, rfl⟩))
        go_ret
        exact ⟨rfl, rfl⟩
    all_goals
      clear hno
      go_enter Try.func5, Try.ntmps5
      go_wp2_with (go_at_call 9; first
        | ((with_reducible refine (H3.out _).mono ?_); clear H3; rintro e w' ⟨rfl, rfl⟩)
        | ((with_reducible refine (H2.out _).mono ?_); clear H2; rintro e w' ⟨rfl, rfl⟩)
        | ((with_reducible refine (H1.out _).mono ?_); clear H1; rintro e w' ⟨rfl, rfl⟩))
      go_ret
      exact ⟨rfl, rfl⟩
  all_goals
    clear hno
    go_enter Try.func5, Try.ntmps5
    go_wp2_with (go_at_call 9; first
      | ((with_reducible refine (H2.out _).mono ?_); clear H2; rintro e w' ⟨rfl, rfl⟩)
      | ((with_reducible refine (H1.out _).mono ?_); clear H1; rintro e w' ⟨rfl, rfl⟩))
    go_ret
    exact ⟨rfl, rfl⟩
set_option maxHeartbeats 1600000 in
theorem specRunsNo_2 (l lo r hi : Int) (b2 b3 b4 b5 : Bool) (h2 : (decide (0 ≤ l) && decide (l ≤ r)) = b2) (h3 : (decide (0 ≤ lo) && decide (lo ≤ hi)) = b3) (h4 : (decide (0 ≤ r) && decide (r ≤ 3)) = b4) (h5 : (decide (0 ≤ hi) && decide (hi ≤ 3)) = b5) (hno : (b2 && b3 && b4 && b5) = false) (w : World) :
    Calls Try.prog 5 #[.int .i64 2, .int .i64 l, .int .i64 lo, .int .i64 r, .int .i64 hi] w fun e w' => e = .returned (.int .i64 (-1)) ∧ w = w' := by
  have H1 := Lib.hid (in_is 2 0 4 true (by decide))
  have H2 := Lib.hid (in_is _ _ _ b2 h2)
  have H3 := Lib.hid (in_is _ _ _ b3 h3)
  have H4 := Lib.hid (in_is _ _ _ b4 h4)
  have H5 := Lib.hid (in_is _ _ _ b5 h5)
  clear h2 h3 h4 h5
  cases b2
  rotate_left
  · cases b3
    rotate_left
    · cases b4
      rotate_left
      · cases b5
        rotate_left
        · simp at hno
        all_goals
          clear hno
          go_enter Try.func5, Try.ntmps5
          go_wp2_with (go_at_call 9; first
            | ((with_reducible refine (H5.out _).mono ?_); clear H5; rintro e w' ⟨rfl, rfl⟩)
            | ((with_reducible refine (H4.out _).mono ?_); clear H4; rintro e w' ⟨rfl, rfl⟩)
            | ((with_reducible refine (H3.out _).mono ?_); clear H3; rintro e w' ⟨rfl, rfl⟩)
            | ((with_reducible refine (H2.out _).mono ?_); clear H2; rintro e w' ⟨rfl, rfl⟩)
            | ((with_reducible refine (H1.out _).mono ?_); clear H1; rintro e w' ⟨rfl, rfl⟩))
          go_ret
          exact ⟨rfl, rfl⟩
      all_goals
        clear hno
        go_enter Try.func5, Try.ntmps5
        go_wp2_with (go_at_call 9; first
          | ((with_reducible refine (H4.out _).mono ?_); clear H4; rintro e w' ⟨rfl, rfl⟩)
          | ((with_reducible refine (H3.out _).mono ?_); clear H3; rintro e w' ⟨rfl, rfl⟩)
          | ((with_reducible refine (H2.out _).mono ?_); clear H2; rintro e w' ⟨rfl, rfl⟩)
          | ((with_reducible refine (H1.out _).mono ?_); clear H1; rintro e w' ⟨rfl, rfl⟩))
        go_ret
        exact ⟨rfl, rfl⟩
    all_goals
      clear hno
      go_enter Try.func5, Try.ntmps5
      go_wp2_with (go_at_call 9; first
        | ((with_reducible refine (H3.out _).mono ?_); clear H3; rintro e w' ⟨rfl, rfl⟩)
        | ((with_reducible refine (H2.out _).mono ?_); clear H2; rintro e w' ⟨rfl, rfl⟩)
        | ((with_reducible refine (H1.out _).mono ?_); clear H1; rintro e w' ⟨rfl, rfl⟩))
      go_ret
      exact ⟨rfl, rfl⟩
  all_goals
    clear hno
    go_enter Try.func5, Try.ntmps5
    go_wp2_with (go_at_call 9; first
      | ((with_reducible refine (H2.out _).mono ?_); clear H2; rintro e w' ⟨rfl, rfl⟩)
      | ((with_reducible refine (H1.out _).mono ?_); clear H1; rintro e w' ⟨rfl, rfl⟩))
    go_ret
    exact ⟨rfl, rfl⟩
set_option maxHeartbeats 1600000 in
theorem specRunsNo_3 (l lo r hi : Int) (b2 b3 b4 b5 : Bool) (h2 : (decide (0 ≤ l) && decide (l ≤ r)) = b2) (h3 : (decide (0 ≤ lo) && decide (lo ≤ hi)) = b3) (h4 : (decide (0 ≤ r) && decide (r ≤ 7)) = b4) (h5 : (decide (0 ≤ hi) && decide (hi ≤ 7)) = b5) (hno : (b2 && b3 && b4 && b5) = false) (w : World) :
    Calls Try.prog 5 #[.int .i64 3, .int .i64 l, .int .i64 lo, .int .i64 r, .int .i64 hi] w fun e w' => e = .returned (.int .i64 (-1)) ∧ w = w' := by
  have H1 := Lib.hid (in_is 3 0 4 true (by decide))
  have H2 := Lib.hid (in_is _ _ _ b2 h2)
  have H3 := Lib.hid (in_is _ _ _ b3 h3)
  have H4 := Lib.hid (in_is _ _ _ b4 h4)
  have H5 := Lib.hid (in_is _ _ _ b5 h5)
  clear h2 h3 h4 h5
  cases b2
  rotate_left
  · cases b3
    rotate_left
    · cases b4
      rotate_left
      · cases b5
        rotate_left
        · simp at hno
        all_goals
          clear hno
          go_enter Try.func5, Try.ntmps5
          go_wp2_with (go_at_call 9; first
            | ((with_reducible refine (H5.out _).mono ?_); clear H5; rintro e w' ⟨rfl, rfl⟩)
            | ((with_reducible refine (H4.out _).mono ?_); clear H4; rintro e w' ⟨rfl, rfl⟩)
            | ((with_reducible refine (H3.out _).mono ?_); clear H3; rintro e w' ⟨rfl, rfl⟩)
            | ((with_reducible refine (H2.out _).mono ?_); clear H2; rintro e w' ⟨rfl, rfl⟩)
            | ((with_reducible refine (H1.out _).mono ?_); clear H1; rintro e w' ⟨rfl, rfl⟩))
          go_ret
          exact ⟨rfl, rfl⟩
      all_goals
        clear hno
        go_enter Try.func5, Try.ntmps5
        go_wp2_with (go_at_call 9; first
          | ((with_reducible refine (H4.out _).mono ?_); clear H4; rintro e w' ⟨rfl, rfl⟩)
          | ((with_reducible refine (H3.out _).mono ?_); clear H3; rintro e w' ⟨rfl, rfl⟩)
          | ((with_reducible refine (H2.out _).mono ?_); clear H2; rintro e w' ⟨rfl, rfl⟩)
          | ((with_reducible refine (H1.out _).mono ?_); clear H1; rintro e w' ⟨rfl, rfl⟩))
        go_ret
        exact ⟨rfl, rfl⟩
    all_goals
      clear hno
      go_enter Try.func5, Try.ntmps5
      go_wp2_with (go_at_call 9; first
        | ((with_reducible refine (H3.out _).mono ?_); clear H3; rintro e w' ⟨rfl, rfl⟩)
        | ((with_reducible refine (H2.out _).mono ?_); clear H2; rintro e w' ⟨rfl, rfl⟩)
        | ((with_reducible refine (H1.out _).mono ?_); clear H1; rintro e w' ⟨rfl, rfl⟩))
      go_ret
      exact ⟨rfl, rfl⟩
  all_goals
    clear hno
    go_enter Try.func5, Try.ntmps5
    go_wp2_with (go_at_call 9; first
      | ((with_reducible refine (H2.out _).mono ?_); clear H2; rintro e w' ⟨rfl, rfl⟩)
      | ((with_reducible refine (H1.out _).mono ?_); clear H1; rintro e w' ⟨rfl, rfl⟩))
    go_ret
    exact ⟨rfl, rfl⟩
set_option maxHeartbeats 1600000 in
theorem specRunsNo_4 (l lo r hi : Int) (b2 b3 b4 b5 : Bool) (h2 : (decide (0 ≤ l) && decide (l ≤ r)) = b2) (h3 : (decide (0 ≤ lo) && decide (lo ≤ hi)) = b3) (h4 : (decide (0 ≤ r) && decide (r ≤ 15)) = b4) (h5 : (decide (0 ≤ hi) && decide (hi ≤ 15)) = b5) (hno : (b2 && b3 && b4 && b5) = false) (w : World) :
    Calls Try.prog 5 #[.int .i64 4, .int .i64 l, .int .i64 lo, .int .i64 r, .int .i64 hi] w fun e w' => e = .returned (.int .i64 (-1)) ∧ w = w' := by
  have H1 := Lib.hid (in_is 4 0 4 true (by decide))
  have H2 := Lib.hid (in_is _ _ _ b2 h2)
  have H3 := Lib.hid (in_is _ _ _ b3 h3)
  have H4 := Lib.hid (in_is _ _ _ b4 h4)
  have H5 := Lib.hid (in_is _ _ _ b5 h5)
  clear h2 h3 h4 h5
  cases b2
  rotate_left
  · cases b3
    rotate_left
    · cases b4
      rotate_left
      · cases b5
        rotate_left
        · simp at hno
        all_goals
          clear hno
          go_enter Try.func5, Try.ntmps5
          go_wp2_with (go_at_call 9; first
            | ((with_reducible refine (H5.out _).mono ?_); clear H5; rintro e w' ⟨rfl, rfl⟩)
            | ((with_reducible refine (H4.out _).mono ?_); clear H4; rintro e w' ⟨rfl, rfl⟩)
            | ((with_reducible refine (H3.out _).mono ?_); clear H3; rintro e w' ⟨rfl, rfl⟩)
            | ((with_reducible refine (H2.out _).mono ?_); clear H2; rintro e w' ⟨rfl, rfl⟩)
            | ((with_reducible refine (H1.out _).mono ?_); clear H1; rintro e w' ⟨rfl, rfl⟩))
          go_ret
          exact ⟨rfl, rfl⟩
      all_goals
        clear hno
        go_enter Try.func5, Try.ntmps5
        go_wp2_with (go_at_call 9; first
          | ((with_reducible refine (H4.out _).mono ?_); clear H4; rintro e w' ⟨rfl, rfl⟩)
          | ((with_reducible refine (H3.out _).mono ?_); clear H3; rintro e w' ⟨rfl, rfl⟩)
          | ((with_reducible refine (H2.out _).mono ?_); clear H2; rintro e w' ⟨rfl, rfl⟩)
          | ((with_reducible refine (H1.out _).mono ?_); clear H1; rintro e w' ⟨rfl, rfl⟩))
        go_ret
        exact ⟨rfl, rfl⟩
    all_goals
      clear hno
      go_enter Try.func5, Try.ntmps5
      go_wp2_with (go_at_call 9; first
        | ((with_reducible refine (H3.out _).mono ?_); clear H3; rintro e w' ⟨rfl, rfl⟩)
        | ((with_reducible refine (H2.out _).mono ?_); clear H2; rintro e w' ⟨rfl, rfl⟩)
        | ((with_reducible refine (H1.out _).mono ?_); clear H1; rintro e w' ⟨rfl, rfl⟩))
      go_ret
      exact ⟨rfl, rfl⟩
  all_goals
    clear hno
    go_enter Try.func5, Try.ntmps5
    go_wp2_with (go_at_call 9; first
      | ((with_reducible refine (H2.out _).mono ?_); clear H2; rintro e w' ⟨rfl, rfl⟩)
      | ((with_reducible refine (H1.out _).mono ?_); clear H1; rintro e w' ⟨rfl, rfl⟩))
    go_ret
    exact ⟨rfl, rfl⟩
theorem specRuns_out (h l lo r hi : Int) (hh : ¬ (0 ≤ h ∧ h ≤ 4)) (w : World) :
    Calls Try.prog 5 #[.int .i64 h, .int .i64 l, .int .i64 lo, .int .i64 r, .int .i64 hi] w fun e w' => e = .returned (.int .i64 (-1)) ∧ w = w' := by
  have H1 := Lib.hid (in_no h 0 4 · hh)
  clear hh
  go_enter Try.func5, Try.ntmps5
  go_wp2_with (go_at_call 9; refine (H1.out _).mono ?_; rintro e w' ⟨rfl, rfl⟩)
  go_ret
  exact ⟨rfl, rfl⟩
theorem specRuns (h l lo r hi : Int) (w : World) :
    Calls Try.prog 5 #[.int .i64 h, .int .i64 l, .int .i64 lo, .int .i64 r, .int .i64 hi] w fun e w' => e = .returned (.int .i64 (Rn.runsOf h l lo r hi)) ∧ w = w' := by
  by_cases hh : 0 ≤ h ∧ h ≤ 4
  · have h5 : h = 0 ∨ h = 1 ∨ h = 2 ∨ h = 3 ∨ h = 4 := by omega
    cases hok : Rn.okB h l lo r hi
    · unfold Rn.runsOf
      rw [hok, if_neg (by simp)]
      unfold Rn.okB at hok
      have hno := of_decide_eq_false hok
      rcases h5 with rfl | rfl | rfl | rfl | rfl
      · exact specRunsNo_0 l lo r hi _ _ _ _ rfl rfl rfl rfl (by rw [Bool.eq_false_iff]; intro h9; simp only [Bool.and_eq_true, decide_eq_true_eq] at h9; exact hno (by simp only [Int.reduceToNat]; omega)) w
      · exact specRunsNo_1 l lo r hi _ _ _ _ rfl rfl rfl rfl (by rw [Bool.eq_false_iff]; intro h9; simp only [Bool.and_eq_true, decide_eq_true_eq] at h9; exact hno (by simp only [Int.reduceToNat]; omega)) w
      · exact specRunsNo_2 l lo r hi _ _ _ _ rfl rfl rfl rfl (by rw [Bool.eq_false_iff]; intro h9; simp only [Bool.and_eq_true, decide_eq_true_eq] at h9; exact hno (by simp only [Int.reduceToNat]; omega)) w
      · exact specRunsNo_3 l lo r hi _ _ _ _ rfl rfl rfl rfl (by rw [Bool.eq_false_iff]; intro h9; simp only [Bool.and_eq_true, decide_eq_true_eq] at h9; exact hno (by simp only [Int.reduceToNat]; omega)) w
      · exact specRunsNo_4 l lo r hi _ _ _ _ rfl rfl rfl rfl (by rw [Bool.eq_false_iff]; intro h9; simp only [Bool.and_eq_true, decide_eq_true_eq] at h9; exact hno (by simp only [Int.reduceToNat]; omega)) w
    · unfold Rn.runsOf
      rw [hok, if_pos rfl]
      unfold Rn.okB at hok
      have hyes := of_decide_eq_true hok
      clear hok
      obtain ⟨a, rfl⟩ := Int.eq_ofNat_of_zero_le (show 0 ≤ l by omega)
      obtain ⟨b, rfl⟩ := Int.eq_ofNat_of_zero_le (show 0 ≤ lo by omega)
      obtain ⟨c, rfl⟩ := Int.eq_ofNat_of_zero_le (show 0 ≤ r by omega)
      obtain ⟨d, rfl⟩ := Int.eq_ofNat_of_zero_le (show 0 ≤ hi by omega)
      rcases h5 with rfl | rfl | rfl | rfl | rfl
      · simp only [Int.reduceToNat] at hyes
        exact specRuns_0 a b c d (by omega) (by omega) (by omega) (by omega) w
      · simp only [Int.reduceToNat] at hyes
        exact specRuns_1 a b c d (by omega) (by omega) (by omega) (by omega) w
      · simp only [Int.reduceToNat] at hyes
        exact specRuns_2 a b c d (by omega) (by omega) (by omega) (by omega) w
      · simp only [Int.reduceToNat] at hyes
        exact specRuns_3 a b c d (by omega) (by omega) (by omega) (by omega) w
      · simp only [Int.reduceToNat] at hyes
        exact specRuns_4 a b c d (by omega) (by omega) (by omega) (by omega) w
  · unfold Rn.runsOf
    rw [if_neg (by unfold Rn.okB; simp only [decide_eq_true_eq]; omega)]
    exact specRuns_out h l lo r hi hh w
end Go.Proofs.Ytjcagkpolfacpaa
