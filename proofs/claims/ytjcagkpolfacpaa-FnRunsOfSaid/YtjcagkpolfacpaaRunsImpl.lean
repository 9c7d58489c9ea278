/-
  Contract of the program's RunsOf, for all arguments.
-/
import Derived.Test.YtjcagkpolfacpaaRuns
namespace Go.Proofs.Ytjcagkpolfacpaa
open Go Go.RowKit

namespace Rn
theorem rowRuns_le (left : Nat) : ∀ k, rowRuns left k ≤ k + 1
  | 0 => Nat.le_refl _
  | k + 1 => by
    have := rowRuns_le left k
    rw [rowRuns]
    split <;> omega
theorem rowRuns_next (left y : Nat) (h : left + 1 ≤ y) : rowRuns left (y + 1 - 1 - left) = rowRuns left (y - 1 - left) + if y % 2 = 0 then 1 else 0 := by
  obtain ⟨k, rfl⟩ : ∃ k, y = left + 1 + k := ⟨y - (left + 1), by omega⟩
  rw [show left + 1 + k + 1 - 1 - left = k + 1 by omega, show left + 1 + k - 1 - left = k by omega, rowRuns, show left + 1 + k = left + k + 1 by omega]
end Rn

set_option maxHeartbeats 1600000 in
theorem implRuns_great (h l lo r hi : Int) (hh : 4 < h) (w : World) :
    Calls Try.prog 6 #[.int .i64 h, .int .i64 l, .int .i64 lo, .int .i64 r, .int .i64 hi] w fun e w' => e = .returned (.int .i64 (-1)) ∧ w = w' := by
  go_enter Try.func6, Try.ntmps6
  go_wp2_with fail
  go_ret
  exact ⟨rfl, rfl⟩
set_option maxHeartbeats 3200000 in
theorem implRuns_no (h l lo r hi : Int) (hh : h ≤ 4) (b1 b2 : Bool) (k1 : decide (0 ≤ h ∧ 0 ≤ l ∧ l < 2 ^ h.toNat ∧ 0 ≤ lo ∧ lo < 2 ^ h.toNat) = b1) (k2 : decide (0 ≤ h ∧ 0 ≤ r ∧ r < 2 ^ h.toNat ∧ 0 ≤ hi ∧ hi < 2 ^ h.toNat) = b2)
    (hno : b1 = false ∨ b1 = true ∧ b2 = false ∨ b1 = true ∧ b2 = true ∧ r < l ∨ b1 = true ∧ b2 = true ∧ l ≤ r ∧ hi < lo) (w : World) :
    Calls Try.prog 6 #[.int .i64 h, .int .i64 l, .int .i64 lo, .int .i64 r, .int .i64 hi] w fun e w' => e = .returned (.int .i64 (-1)) ∧ w = w' := by
  have h5 : h ≤ 5 := by omega
  have HC1 := Lib.hid (cell_is _ h5 _ _ b1 k1)
  have HC2 := Lib.hid (cell_is _ h5 _ _ b2 k2)
  clear k1 k2 h5
  rcases hno with rfl | ⟨rfl, rfl⟩ | ⟨rfl, rfl, hrl⟩ | ⟨rfl, rfl, hrl, hhl⟩
  all_goals
    go_enter Try.func6, Try.ntmps6
    go_wp2_with (first
      | (go_at_call 11; first | ((with_reducible refine (HC1.out _).mono ?_); clear HC1; rintro e w' ⟨rfl, rfl⟩) | ((with_reducible refine (HC2.out _).mono ?_); clear HC2; rintro e w' ⟨rfl, rfl⟩)))
    go_ret
    exact ⟨rfl, rfl⟩
theorem implRuns (h l lo r hi : Int) (w : World) :
    Calls Try.prog 6 #[.int .i64 h, .int .i64 l, .int .i64 lo, .int .i64 r, .int .i64 hi] w fun e w' => e = .returned (.int .i64 (Rn.runsOf h l lo r hi)) ∧ Below w.heap.size w w' := by
  have hsame : ∀ e w', (e = Ending.returned (.int .i64 (-1)) ∧ w = w') → Rn.okB h l lo r hi = false → e = Ending.returned (.int .i64 (Rn.runsOf h l lo r hi)) ∧ Below w.heap.size w w' := by
    rintro e w' ⟨rfl, rfl⟩ h9
    exact ⟨ret_int (by unfold Rn.runsOf; rw [h9]; rfl), Below.refl _ _⟩
  cases hok : Rn.okB h l lo r hi
  · by_cases hh : h ≤ 4
    · refine (implRuns_no h l lo r hi hh _ _ rfl rfl ?_ w).mono fun e w' h9 => hsame e w' h9 hok
      unfold Rn.okB at hok
      have hno := of_decide_eq_false hok
      cases e1 : decide (0 ≤ h ∧ 0 ≤ l ∧ l < 2 ^ h.toNat ∧ 0 ≤ lo ∧ lo < 2 ^ h.toNat)
      · exact .inl rfl
      · have f1 := of_decide_eq_true e1
        cases e2 : decide (0 ≤ h ∧ 0 ≤ r ∧ r < 2 ^ h.toNat ∧ 0 ≤ hi ∧ hi < 2 ^ h.toNat)
        · exact .inr (.inl ⟨rfl, rfl⟩)
        · have f2 := of_decide_eq_true e2
          by_cases g1 : r < l
          · exact .inr (.inr (.inl ⟨rfl, rfl, g1⟩))
          · by_cases g2 : hi < lo
            · exact .inr (.inr (.inr ⟨rfl, rfl, by omega, g2⟩))
            · exact absurd ⟨f1.1, hh, f1.2.1, by omega, f1.2.2.2.1, by omega, f2.2.2.1, f2.2.2.2.2⟩ hno
    · exact (implRuns_great h l lo r hi (by omega) w).mono fun e w' h9 => hsame e w' h9 hok
  · unfold Rn.okB at hok
    have hyes := of_decide_eq_true hok
    clear hok hsame
    obtain ⟨h, rfl⟩ := Int.eq_ofNat_of_zero_le (show 0 ≤ h by omega)
    obtain ⟨a, rfl⟩ := Int.eq_ofNat_of_zero_le (show 0 ≤ l by omega)
    obtain ⟨b, rfl⟩ := Int.eq_ofNat_of_zero_le (show 0 ≤ lo by omega)
    obtain ⟨c, rfl⟩ := Int.eq_ofNat_of_zero_le (show 0 ≤ r by omega)
    obtain ⟨d, rfl⟩ := Int.eq_ofNat_of_zero_le (show 0 ≤ hi by omega)
    have e : ((2 ^ h : Nat) : Int) = (2 : Int) ^ h := by push_cast; rfl
    simp only [Int.toNat_natCast, ← e] at hyes
    exact implRuns_yes h a b c d (by omega) (by omega) (by omega) (by omega) (by omega) w
end Go.Proofs.Ytjcagkpolfacpaa
