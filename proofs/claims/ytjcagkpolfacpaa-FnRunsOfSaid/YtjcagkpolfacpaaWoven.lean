/-
  Contracts of the program's WovenOf, below 16, and of cellOk.
-/
import Derived.Test.YtjcagkpolfacpaaRunsPure
import Derived.Test.YtjcagkpolfacpaaBase
namespace Go.Proofs.Ytjcagkpolfacpaa
open Go.RowKit

namespace Rn
def spr (x : Nat) : Nat := bit x 0 + 4 * bit x 1 + 16 * bit x 2 + 64 * bit x 3
theorem spr_le (x : Nat) : spr x ≤ 85 := by unfold spr bit; omega
theorem wov_bits {x y : Nat} (hx : x < 16) (hy : y < 16) : bits .or .i64 (spr x : Int) ((spr y : Int) * 2) = (woven x y : Int) := by
  have h1 : (List.range 16).all (fun x => (List.range 16).all fun y => bits .or .i64 (spr x : Int) ((spr y : Int) * 2) == (woven x y : Int)) = true := by decide +kernel
  exact beq_iff_eq.1 (List.all_eq_true.1 (List.all_eq_true.1 h1 x (List.mem_range.2 hx)) y (List.mem_range.2 hy))
end Rn

set_option maxHeartbeats 1600000 in
theorem spread_any (x : Nat) (hx : x < 16) (w : World) : Calls Try.prog 20 #[.int .i64 x] w fun e w' => e = .returned (.int .i64 (Rn.spr x)) ∧ w = w' := by
  go_enter Try.func20, Try.ntmps20
  go_wp2_with fail
  go_ret
  refine ⟨ret_int ?_, rfl⟩
  obtain rfl | rfl | rfl | rfl | rfl | rfl | rfl | rfl | rfl | rfl | rfl | rfl | rfl | rfl | rfl | rfl : x = 0 ∨ x = 1 ∨ x = 2 ∨ x = 3 ∨ x = 4 ∨ x = 5 ∨ x = 6 ∨ x = 7 ∨ x = 8 ∨ x = 9 ∨ x = 10 ∨ x = 11 ∨ x = 12 ∨ x = 13 ∨ x = 14 ∨ x = 15 := by omega
  all_goals decide +kernel

theorem halves_any (h : Int) (w : World) : Calls Try.prog 19 #[.int .i64 h] w fun e w' => e = .returned (.bool (decide (0 ≤ h ∧ h ≤ 5))) ∧ w = w' := by
  go_enter Try.func19, Try.ntmps19
  go_wp2_with fail
  all_goals go_ret
  all_goals exact ⟨ret_bool (by rw [Bool.eq_iff_iff]; simp only [Bool.and_eq_true, decide_eq_true_eq, Bool.false_eq_true, false_iff]; omega), rfl⟩
theorem halves_is (h : Int) (b : Bool) (hb : decide (0 ≤ h ∧ h ≤ 5) = b) (w : World) : Calls Try.prog 19 #[.int .i64 h] w fun e w' => e = .returned (.bool b) ∧ w = w' := hb ▸ halves_any h w

theorem cell_neg (h x y : Int) (hh : h < 0 ∨ 5 < h) (w : World) : Calls Try.prog 11 #[.int .i64 h, .int .i64 x, .int .i64 y] w fun e w' => e = .returned (.bool false) ∧ w = w' := by
  have hb : decide (0 ≤ h ∧ h ≤ 5) = false := decide_eq_false (by omega)
  have HB := Lib.hid hb
  clear hb hh
  go_enter Try.func11, Try.ntmps11
  go_wp2_with (go_at_call 19; refine (halves_is _ false HB.out _).mono ?_; rintro e w' ⟨rfl, rfl⟩)
  go_ret
  exact ⟨rfl, rfl⟩
set_option maxHeartbeats 3200000 in
theorem cell_at (h : Nat) (hh : h ≤ 5) (x y : Int) (w : World) : Calls Try.prog 11 #[.int .i64 h, .int .i64 x, .int .i64 y] w fun e w' => e = .returned (.bool (decide (0 ≤ x ∧ x < 2 ^ h ∧ 0 ≤ y ∧ y < 2 ^ h))) ∧ w = w' := by
  obtain rfl | rfl | rfl | rfl | rfl | rfl : h = 0 ∨ h = 1 ∨ h = 2 ∨ h = 3 ∨ h = 4 ∨ h = 5 := by omega
  all_goals
    go_enter Try.func11, Try.ntmps11
    go_wp2_with (go_at_call 19; refine (halves_is _ true (by decide) _).mono ?_; rintro e w' ⟨rfl, rfl⟩)
  all_goals go_ret
  all_goals exact ⟨ret_bool (by rw [Bool.eq_iff_iff]; simp only [Bool.and_eq_true, decide_eq_true_eq, Bool.false_eq_true, false_iff]; omega), rfl⟩
/-- With its truth at hand. -/
theorem cell_is (h : Int) (hh : h ≤ 5) (x y : Int) (b : Bool) (hb : decide (0 ≤ h ∧ 0 ≤ x ∧ x < 2 ^ h.toNat ∧ 0 ≤ y ∧ y < 2 ^ h.toNat) = b) (w : World) : Calls Try.prog 11 #[.int .i64 h, .int .i64 x, .int .i64 y] w fun e w' => e = .returned (.bool b) ∧ w = w' := by
  by_cases h0 : h < 0
  · rw [← hb, decide_eq_false (by omega)]
    exact cell_neg h x y (.inl h0) w
  · obtain ⟨k, rfl⟩ := Int.eq_ofNat_of_zero_le (show 0 ≤ h by omega)
    have := cell_at k (by omega) x y w
    rw [← hb]
    simp only [Int.toNat_natCast, Int.natCast_nonneg, true_and]
    exact this

theorem woven_at (h x y : Nat) (hh : h ≤ 4) (hx : x < 2 ^ h) (hy : y < 2 ^ h) (w : World) : Calls Try.prog 12 #[.int .i64 h, .int .i64 x, .int .i64 y] w fun e w' => e = .returned (.int .i64 (Rn.woven x y)) ∧ w = w' := by
  have hp := Rn.pow_le hh
  have hx16 : x < 16 := by omega
  have hy16 : y < 16 := by omega
  have hb : decide (0 ≤ (h : Int) ∧ 0 ≤ (x : Int) ∧ (x : Int) < 2 ^ (h : Int).toNat ∧ 0 ≤ (y : Int) ∧ (y : Int) < 2 ^ (h : Int).toNat) = true := by
    have hx' : (x : Int) < ((2 ^ h : Nat) : Int) := by omega
    have hy' : (y : Int) < ((2 ^ h : Nat) : Int) := by omega
    simp only [Int.toNat_natCast, decide_eq_true_eq]
    push_cast at hx' hy'
    exact ⟨by omega, by omega, hx', by omega, hy'⟩
  have HB := Lib.hid hb
  have HW := Lib.hid (Rn.wov_bits hx16 hy16)
  have h5 : (h : Int) ≤ 5 := by omega
  have sx := Rn.spr_le x
  have sy := Rn.spr_le y
  have HX := Lib.hid (spread_any x hx16)
  have HY := Lib.hid (spread_any y hy16)
  obtain ⟨m, hm⟩ : ∃ m, Rn.woven x y = m := ⟨_, rfl⟩
  rw [hm] at HW ⊢
  obtain ⟨p, hp⟩ : ∃ p, Rn.spr x = p := ⟨_, rfl⟩
  obtain ⟨q, hq⟩ : ∃ q, Rn.spr y = q := ⟨_, rfl⟩
  rw [hp] at HW HX sx
  rw [hq] at HW HY sy
  clear hb hm hp hq hx hy hh
  go_enter Try.func12, Try.ntmps12
  go_wp2_with (first
    | (go_at_call 11; refine (cell_is _ h5 _ _ true HB.out _).mono ?_; rintro e w' ⟨rfl, rfl⟩)
    | (go_at_call 20; first | ((with_reducible refine (HX.out _).mono ?_); rintro e w' ⟨rfl, rfl⟩) | ((with_reducible refine (HY.out _).mono ?_); rintro e w' ⟨rfl, rfl⟩)))
  go_ret
  exact ⟨ret_int HW.out, rfl⟩
end Go.Proofs.Ytjcagkpolfacpaa
