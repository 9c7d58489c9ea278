/-
  Contract of the reference's DeedText.
-/
import Derived.Test.YtccdfndnjjjgfaaGreatDoorDeedImpl
import Derived.Test.YtccdfndnjjjgfaaGreatDoorNumber
namespace Go.Proofs.YtccdfndnjjjgfaaGreatDoor
open Go.RowKit

set_option maxRecDepth 100000 in
set_option maxHeartbeats 800000 in
theorem spec_number0 (n : Int) (w : World) (h0 : 0 ≤ n) (h1 : n ≤ 99) (x : ByteArray) (hx2 : x.size ≤ 2) (hx : Hid (Tw.str (Lib.decDigits n.toNat) = x)) :
    Calls Tryz.prog 84 #[.agg #[.int .i64 0, .int .i64 n]] w fun e w' => e = .returned (.string ((⟨#[115, 116, 101, 112, 32]⟩ : ByteArray) ++ x)) ∧ Below w.heap.size w w' := by
  have hnum : Hid (∀ W : World, Calls Tryz.prog 51 #[.int .i64 n] W fun e w' => e = .returned (.string x) ∧ Below W.heap.size W w') := by
    intro W
    obtain ⟨m, rfl⟩ := Int.eq_ofNat_of_zero_le h0
    have h := number_small m (by omega) W
    rwa [show Tw.str (Lib.decDigits m) = x from hx.out] at h
  clear hx
  go_enter Tryz.func84, Tryz.ntmps84
  go_wp2_with (first
    | (go_at_call 110; refine (in_yes n 0 99 _ h0 h1).mono ?_; rintro e w' ⟨rfl, rfl⟩)
    | (go_at_call 51; refine (hnum.out _).mono ?_; rintro e w2 ⟨rfl, hb2⟩))
  go_ret
  exact ⟨rfl, ((Below.refl _ _).alloc (Nat.le_refl _) _).trans (hb2.mono (by simp))⟩
set_option maxRecDepth 100000 in
set_option maxHeartbeats 800000 in
theorem spec_bad0 (n : Int) (w : World) (hn : ¬ (0 ≤ n ∧ n ≤ 99)) :
    Calls Tryz.prog 84 #[.agg #[.int .i64 0, .int .i64 n]] w fun e w' => e = .returned (.string ⟨#[]⟩) ∧ Below w.heap.size w w' := by
  go_enter Tryz.func84, Tryz.ntmps84
  go_wp2_with (first
    | (go_at_call 110; refine (in_no n 0 99 _ hn).mono ?_; rintro e w' ⟨rfl, rfl⟩))
  go_ret
  exact ⟨rfl, deed_below _ _ _⟩
set_option maxRecDepth 100000 in
set_option maxHeartbeats 800000 in
theorem spec_number2 (n : Int) (w : World) (h0 : 0 ≤ n) (h1 : n ≤ 99) (x : ByteArray) (hx2 : x.size ≤ 2) (hx : Hid (Tw.str (Lib.decDigits n.toNat) = x)) :
    Calls Tryz.prog 84 #[.agg #[.int .i64 2, .int .i64 n]] w fun e w' => e = .returned (.string ((⟨#[119, 97, 121, 32]⟩ : ByteArray) ++ x)) ∧ Below w.heap.size w w' := by
  have hnum : Hid (∀ W : World, Calls Tryz.prog 51 #[.int .i64 n] W fun e w' => e = .returned (.string x) ∧ Below W.heap.size W w') := by
    intro W
    obtain ⟨m, rfl⟩ := Int.eq_ofNat_of_zero_le h0
    have h := number_small m (by omega) W
    rwa [show Tw.str (Lib.decDigits m) = x from hx.out] at h
  clear hx
  go_enter Tryz.func84, Tryz.ntmps84
  go_wp2_with (first
    | (go_at_call 110; refine (in_yes n 0 99 _ h0 h1).mono ?_; rintro e w' ⟨rfl, rfl⟩)
    | (go_at_call 51; refine (hnum.out _).mono ?_; rintro e w2 ⟨rfl, hb2⟩))
  go_ret
  exact ⟨rfl, ((Below.refl _ _).alloc (Nat.le_refl _) _).trans (hb2.mono (by simp))⟩
set_option maxRecDepth 100000 in
set_option maxHeartbeats 800000 in
theorem spec_bad2 (n : Int) (w : World) (hn : ¬ (0 ≤ n ∧ n ≤ 99)) :
    Calls Tryz.prog 84 #[.agg #[.int .i64 2, .int .i64 n]] w fun e w' => e = .returned (.string ⟨#[]⟩) ∧ Below w.heap.size w w' := by
  go_enter Tryz.func84, Tryz.ntmps84
  go_wp2_with (first
    | (go_at_call 110; refine (in_no n 0 99 _ hn).mono ?_; rintro e w' ⟨rfl, rfl⟩))
  go_ret
  exact ⟨rfl, deed_below _ _ _⟩
set_option maxRecDepth 100000 in
set_option maxHeartbeats 800000 in
theorem spec_number3 (n : Int) (w : World) (h0 : 0 ≤ n) (h1 : n ≤ 99) (x : ByteArray) (hx2 : x.size ≤ 2) (hx : Hid (Tw.str (Lib.decDigits n.toNat) = x)) :
    Calls Tryz.prog 84 #[.agg #[.int .i64 3, .int .i64 n]] w fun e w' => e = .returned (.string ((⟨#[111, 110, 32]⟩ : ByteArray) ++ x)) ∧ Below w.heap.size w w' := by
  have hnum : Hid (∀ W : World, Calls Tryz.prog 51 #[.int .i64 n] W fun e w' => e = .returned (.string x) ∧ Below W.heap.size W w') := by
    intro W
    obtain ⟨m, rfl⟩ := Int.eq_ofNat_of_zero_le h0
    have h := number_small m (by omega) W
    rwa [show Tw.str (Lib.decDigits m) = x from hx.out] at h
  clear hx
  go_enter Tryz.func84, Tryz.ntmps84
  go_wp2_with (first
    | (go_at_call 110; refine (in_yes n 0 99 _ h0 h1).mono ?_; rintro e w' ⟨rfl, rfl⟩)
    | (go_at_call 51; refine (hnum.out _).mono ?_; rintro e w2 ⟨rfl, hb2⟩))
  go_ret
  exact ⟨rfl, ((Below.refl _ _).alloc (Nat.le_refl _) _).trans (hb2.mono (by simp))⟩
set_option maxRecDepth 100000 in
set_option maxHeartbeats 800000 in
theorem spec_bad3 (n : Int) (w : World) (hn : ¬ (0 ≤ n ∧ n ≤ 99)) :
    Calls Tryz.prog 84 #[.agg #[.int .i64 3, .int .i64 n]] w fun e w' => e = .returned (.string ⟨#[]⟩) ∧ Below w.heap.size w w' := by
  go_enter Tryz.func84, Tryz.ntmps84
  go_wp2_with (first
    | (go_at_call 110; refine (in_no n 0 99 _ hn).mono ?_; rintro e w' ⟨rfl, rfl⟩))
  go_ret
  exact ⟨rfl, deed_below _ _ _⟩
set_option maxRecDepth 100000 in
set_option maxHeartbeats 800000 in
theorem spec_plain1 (w : World) :
    Calls Tryz.prog 84 #[.agg #[.int .i64 1, .int .i64 0]] w fun e w' => e = .returned (.string ⟨#[100, 114, 111, 112]⟩) ∧ Below w.heap.size w w' := by
  go_enter Tryz.func84, Tryz.ntmps84
  go_wp2
  go_ret
  exact ⟨rfl, deed_below _ _ _⟩
set_option maxRecDepth 100000 in
set_option maxHeartbeats 800000 in
theorem spec_odd1 (n : Int) (w : World) (hn : (n == 0) = false) :
    Calls Tryz.prog 84 #[.agg #[.int .i64 1, .int .i64 n]] w fun e w' => e = .returned (.string ⟨#[]⟩) ∧ Below w.heap.size w w' := by
  go_enter Tryz.func84, Tryz.ntmps84
  go_wp2
  go_ret
  exact ⟨rfl, deed_below _ _ _⟩
set_option maxRecDepth 100000 in
set_option maxHeartbeats 800000 in
theorem spec_plain4 (w : World) :
    Calls Tryz.prog 84 #[.agg #[.int .i64 4, .int .i64 0]] w fun e w' => e = .returned (.string ⟨#[102, 105, 114, 115, 116]⟩) ∧ Below w.heap.size w w' := by
  go_enter Tryz.func84, Tryz.ntmps84
  go_wp2
  go_ret
  exact ⟨rfl, deed_below _ _ _⟩
set_option maxRecDepth 100000 in
set_option maxHeartbeats 800000 in
theorem spec_odd4 (n : Int) (w : World) (hn : (n == 0) = false) :
    Calls Tryz.prog 84 #[.agg #[.int .i64 4, .int .i64 n]] w fun e w' => e = .returned (.string ⟨#[]⟩) ∧ Below w.heap.size w w' := by
  go_enter Tryz.func84, Tryz.ntmps84
  go_wp2
  go_ret
  exact ⟨rfl, deed_below _ _ _⟩
set_option maxRecDepth 100000 in
set_option maxHeartbeats 800000 in
theorem spec_plain5 (w : World) :
    Calls Tryz.prog 84 #[.agg #[.int .i64 5, .int .i64 0]] w fun e w' => e = .returned (.string ⟨#[98, 97, 99, 107]⟩) ∧ Below w.heap.size w w' := by
  go_enter Tryz.func84, Tryz.ntmps84
  go_wp2
  go_ret
  exact ⟨rfl, deed_below _ _ _⟩
set_option maxRecDepth 100000 in
set_option maxHeartbeats 800000 in
theorem spec_odd5 (n : Int) (w : World) (hn : (n == 0) = false) :
    Calls Tryz.prog 84 #[.agg #[.int .i64 5, .int .i64 n]] w fun e w' => e = .returned (.string ⟨#[]⟩) ∧ Below w.heap.size w w' := by
  go_enter Tryz.func84, Tryz.ntmps84
  go_wp2
  go_ret
  exact ⟨rfl, deed_below _ _ _⟩
set_option maxRecDepth 100000 in
set_option maxHeartbeats 800000 in
theorem spec_none (k n : Int) (w : World) (b0 : (k == 0) = false) (b1 : (k == 1) = false) (b2 : (k == 2) = false) (b3 : (k == 3) = false) (b4 : (k == 4) = false) (b5 : (k == 5) = false) :
    Calls Tryz.prog 84 #[.agg #[.int .i64 k, .int .i64 n]] w fun e w' => e = .returned (.string ⟨#[]⟩) ∧ Below w.heap.size w w' := by
  go_enter Tryz.func84, Tryz.ntmps84
  go_wp2
  go_ret
  exact ⟨rfl, deed_below _ _ _⟩

theorem specDeedText (k n : Int) (w : World) :
    Calls Tryz.prog 84 #[.agg #[.int .i64 k, .int .i64 n]] w fun e w' => e = .returned (.string (Tw.str (deedText k n))) ∧ Below w.heap.size w w' := by
  rcases (by omega : (k < 0 ∨ 6 ≤ k) ∨ (k = 0 ∨ k = 2 ∨ k = 3) ∨ (k = 1 ∨ k = 4 ∨ k = 5)) with hk | hk | hk
  · rw [text_none hk]
    exact spec_none k n w (beq_false_of_ne (by omega)) (beq_false_of_ne (by omega)) (beq_false_of_ne (by omega)) (beq_false_of_ne (by omega)) (beq_false_of_ne (by omega)) (beq_false_of_ne (by omega))
  · by_cases hn : 0 ≤ n ∧ n ≤ 99
    · rw [text_number hk hn.1 hn.2]
      have h2 : (Tw.str (Lib.decDigits n.toNat)).size ≤ 2 := dec_few (by omega)
      rcases hk with rfl | rfl | rfl
      · exact spec_number0 n w hn.1 hn.2 _ h2 (Lib.hid rfl)
      · exact spec_number2 n w hn.1 hn.2 _ h2 (Lib.hid rfl)
      · exact spec_number3 n w hn.1 hn.2 _ h2 (Lib.hid rfl)
    · rw [text_bad hk hn]
      rcases hk with rfl | rfl | rfl
      · exact spec_bad0 n w hn
      · exact spec_bad2 n w hn
      · exact spec_bad3 n w hn
  · by_cases hn : n = 0
    · subst hn
      rw [text_plain hk]
      rcases hk with rfl | rfl | rfl
      · exact spec_plain1 w
      · exact spec_plain4 w
      · exact spec_plain5 w
    · rw [text_odd hk hn]
      rcases hk with rfl | rfl | rfl
      · exact spec_odd1 n w (beq_false_of_ne hn)
      · exact spec_odd4 n w (beq_false_of_ne hn)
      · exact spec_odd5 n w (beq_false_of_ne hn)

end Go.Proofs.YtccdfndnjjjgfaaGreatDoor
