/-
  Contracts of the program's fillTurn, CellOf and NumberOf at numbers of four digits.
-/
import Derived.Test.YtccdfndnjjjgfaaGreatDoorProg
import Derived.Test.YtccdfndnjjjgfaaGreatDoorHilbPure
import Derived.WalkKit
import Derived.WalkSpells
import Derived.WalkLawsBesides
import Derived.Outline
import Derived.Lib.Hide
import Derived.KernelRfl
import Derived.Laws.BitsLemmas
import Derived.Deep.QuietTactic
import Derived.BigQuiet
import Derived.Below
import Derived.Deep.RegionHeld3
namespace Go.Proofs.YtccdfndnjjjgfaaGreatDoor
open Go.RowKit

theorem ret_threeT {a b c d : Int} {t : Bool} (h : a = c) (k : b = d) : Ending.returned (.tuple #[.int .i64 a, .int .i64 b, .bool t]) = .returned (.tuple #[.int .i64 c, .int .i64 d, .bool t]) := by rw [h, k]
theorem ret_intN {a b : Nat} (h : a = b) : Ending.returned (.int .i64 (a : Int)) = .returned (.int .i64 (b : Int)) := by rw [h]
theorem below_drewN' {B : Nat} {w w' : World} (h : Below B w w') (n : Nat) : Below B w (w'.drewN n) := ⟨h.os, h.tape, h.output, h.size, h.block⟩
theorem ret_boolD {p : Prop} [Decidable p] (h : ¬ p) : Ending.returned (.bool (decide p)) = .returned (.bool false) := by rw [decide_eq_false h]
theorem wraps_i64 (n : Int) (h0 : 0 ≤ n) (h1 : n < 2 ^ 63) : IntKind.i64.wrap n = n := IntWalk.i64_in n (by omega)
theorem and3 (n : Nat) (h : n < 2 ^ 62) : bits .and .i64 (n : Int) 3 = ((n % 4 : Nat) : Int) := by
  have := bits_mask .i64 63 (by decide) wraps_i64 2 (by decide) (n : Int) (by omega) (by omega)
  rw [show (3 : Int) = 2 ^ 2 - 1 from rfl, this]
  omega
theorem and1 (n : Nat) (h : n < 2 ^ 62) : bits .and .i64 (n : Int) 1 = ((n % 2 : Nat) : Int) := by
  have := bits_mask .i64 63 (by decide) wraps_i64 1 (by decide) (n : Int) (by omega) (by omega)
  rw [show (1 : Int) = 2 ^ 1 - 1 from rfl, this]
  omega
theorem or_add (i : Nat) (x y : Nat) (hx : x % 2 ^ i = 0) (hx1 : x < 2 ^ 62) (hy : y < 2 ^ i) (hy1 : y < 2 ^ 62) : bits .or .i64 (x : Int) (y : Int) = ((x + y : Nat) : Int) := by
  rw [bits_join .i64 63 (by decide) wraps_i64 i (x : Int) (y : Int) (by omega) (by exact_mod_cast hx) (by omega) (by omega) (by exact_mod_cast hy) (by omega)]
  omega

set_option maxHeartbeats 3200000 in
theorem put_any (t e n : Nat) (ht : t < 4) (he : e ≤ 1) (hn : n ≤ 1) (w : World) :
    Calls Tryz.prog 155 #[.int .i64 t, .int .i64 e, .int .i64 n] w fun E w' => E = .returned (.tuple #[.int .i64 (Hb.putE t e n : Nat), .int .i64 (Hb.putN t e n : Nat)]) ∧ w = w' := by
  have b10 : bits .and .i64 0 1 = 0 := by decide
  have b11 : bits .and .i64 1 1 = 1 := by decide
  have b12 : bits .and .i64 2 1 = 0 := by decide
  have b13 : bits .and .i64 3 1 = 1 := by decide
  have b20 : bits .and .i64 0 2 = 0 := by decide
  have b21 : bits .and .i64 1 2 = 0 := by decide
  have b22 : bits .and .i64 2 2 = 2 := by decide
  have b23 : bits .and .i64 3 2 = 2 := by decide
  obtain rfl | rfl | rfl | rfl : t = 0 ∨ t = 1 ∨ t = 2 ∨ t = 3 := by omega
  all_goals
    obtain rfl | rfl : e = 0 ∨ e = 1 := by omega
    all_goals
      obtain rfl | rfl : n = 0 ∨ n = 1 := by omega
      all_goals
        go_enter Tryz.func155, Tryz.ntmps155
        go_wp2
        go_ret2
        exact ⟨rfl, rfl⟩
set_option maxHeartbeats 3200000 in
theorem into_any (t q : Nat) (ht : t < 4) (hq : q < 4) (w : World) :
    Calls Tryz.prog 156 #[.int .i64 t, .int .i64 q] w fun E w' => E = .returned (.int .i64 (Hb.into t q : Nat)) ∧ w = w' := by
  have b10 : bits .xor .i64 0 1 = 1 := by decide
  have b11 : bits .xor .i64 1 1 = 0 := by decide
  have b12 : bits .xor .i64 2 1 = 3 := by decide
  have b13 : bits .xor .i64 3 1 = 2 := by decide
  have b20 : bits .xor .i64 0 2 = 2 := by decide
  have b21 : bits .xor .i64 1 2 = 3 := by decide
  have b22 : bits .xor .i64 2 2 = 0 := by decide
  have b23 : bits .xor .i64 3 2 = 1 := by decide
  obtain rfl | rfl | rfl | rfl : t = 0 ∨ t = 1 ∨ t = 2 ∨ t = 3 := by omega
  all_goals
    obtain rfl | rfl | rfl | rfl : q = 0 ∨ q = 1 ∨ q = 2 ∨ q = 3 := by omega
    all_goals
      go_enter Tryz.func156, Tryz.ntmps156
      go_wp2
      go_ret
      exact ⟨rfl, rfl⟩
set_option maxHeartbeats 1600000 in
theorem quarterAt_any (t q : Nat) (ht : t < 4) (hq : q < 4) (w : World) :
    Calls Tryz.prog 133 #[.int .i64 t, .int .i64 q] w fun E w' => E = .returned (.tuple #[.int .i64 (Hb.putE t (Hb.qe q) (Hb.qn q) : Nat), .int .i64 (Hb.putN t (Hb.qe q) (Hb.qn q) : Nat), .int .i64 (Hb.into t q : Nat)]) ∧ w = w' := by
  have HI := Lib.hid (into_any t q ht hq)
  have HP := Lib.hid (put_any t (Hb.qe q) (Hb.qn q) ht (Hb.qe_le q) (Hb.qn_le q))
  obtain rfl | rfl | rfl | rfl : q = 0 ∨ q = 1 ∨ q = 2 ∨ q = 3 := by omega
  all_goals
    go_enter Tryz.func133, Tryz.ntmps133
    go_wp2_with (first
      | (go_at_call 155; refine (HP.out _).mono ?_; rintro e w1 ⟨rfl, rfl⟩)
      | (go_at_call 156; refine (HI.out _).mono ?_; rintro e w1 ⟨rfl, rfl⟩))
    refine bodyPost_ret (by simp [results, Tryz.results133, go_sem]; rfl) rfl ?_
    exact ⟨rfl, rfl⟩
set_option maxHeartbeats 1600000 in
theorem digitAt_any (t e n : Nat) (ht : t < 4) (he : e ≤ 1) (hn : n ≤ 1) (w : World) :
    Calls Tryz.prog 135 #[.int .i64 t, .int .i64 e, .int .i64 n] w fun E w' => E = .returned (.tuple #[.int .i64 (Hb.quart (Hb.putE t e n) (Hb.putN t e n) : Nat), .int .i64 (Hb.into t (Hb.quart (Hb.putE t e n) (Hb.putN t e n)) : Nat)]) ∧ w = w' := by
  have hp := Hb.putE_le (t := t) he hn
  have hr := Hb.putN_le (t := t) he hn
  have hP := put_any t e n ht he hn
  obtain ⟨p, hpp⟩ : ∃ p, Hb.putE t e n = p := ⟨_, rfl⟩
  obtain ⟨r, hrr⟩ : ∃ r, Hb.putN t e n = r := ⟨_, rfl⟩
  rw [hpp] at hp hP ⊢
  rw [hrr] at hr hP ⊢
  have HP := Lib.hid hP
  have HI := Lib.hid (into_any t (Hb.quart p r) ht (Hb.quart_lt hr))
  have b00 : bits .xor .i64 0 0 = 0 := by decide
  have b01 : bits .xor .i64 0 1 = 1 := by decide
  have b30 : bits .xor .i64 3 0 = 3 := by decide
  have b31 : bits .xor .i64 3 1 = 2 := by decide
  clear hP hpp hrr
  obtain rfl | rfl : p = 0 ∨ p = 1 := by omega
  all_goals
    obtain rfl | rfl : r = 0 ∨ r = 1 := by omega
    all_goals
      go_enter Tryz.func135, Tryz.ntmps135
      go_wp2_with (first
        | (go_at_call 155; refine (HP.out _).mono ?_; rintro e w1 ⟨rfl, rfl⟩)
        | (go_at_call 156; refine (HI.out _).mono ?_; rintro e w1 ⟨rfl, rfl⟩))
      go_ret2
      exact ⟨rfl, rfl⟩
set_option maxHeartbeats 800000 in
theorem halvesOk_any (h : Nat) (w : World) : Calls Tryz.prog 132 #[.int .i64 h] w fun E w' => E = .returned (.bool (decide (h ≤ 5))) ∧ w = w' := by
  by_cases h5 : h ≤ 5
  · have i1 : (h : Int) ≤ 5 := by omega
    have HH := Lib.hid h5
    clear h5
    go_enter Tryz.func132, Tryz.ntmps132
    go_wp2
    go_ret
    exact ⟨by rw [decide_eq_true HH.out]; rfl, rfl⟩
  · have i1 : ¬ (h : Int) ≤ 5 := by omega
    have HH := Lib.hid h5
    clear h5
    go_enter Tryz.func132, Tryz.ntmps132
    go_wp2
    go_ret
    exact ⟨by rw [decide_eq_false HH.out]; rfl, rfl⟩
set_option maxRecDepth 100000 in
set_option maxHeartbeats 3200000 in
theorem cellOf_0 (b : Nat) (hb : b < 1) (w : World) : Calls Tryz.prog 99 #[.int .i64 0, .int .i64 b] w fun E w' => E = .returned (.tuple #[.int .i64 ((Hb.cell 0 b).1 : Nat), .int .i64 ((Hb.cell 0 b).2 : Nat), .bool true]) ∧ w = w' := by
  have HO := Lib.hid (halvesOk_any 0)
  have i1 : ¬ (b : Int) < 0 := by omega
  have i2 : ¬ (1 : Int) ≤ b := by omega
  have HF := Lib.hid (Hb.from_cell 0 0 b (by decide))
  obtain ⟨⟨cx, cy⟩, hc⟩ : ∃ c, Hb.from_ 0 0 b = c := ⟨_, rfl⟩
  have HC := Lib.hid hc
  clear hc
  go_enter Tryz.func99, Tryz.ntmps99
  go_wp2_with (first
    | (go_at_call 132; refine (HO.out _).mono ?_; rintro e w1 ⟨rfl, rfl⟩))
  go_loop [7, 8, 9, 10] (fun x y q l => ∃ (lv X Y T : Nat) (L : Int), lv ≤ 0 ∧ T < 4 ∧ X < 4294967296 ∧ Y < 4294967296 ∧ x = .int .i64 X ∧ y = .int .i64 Y ∧ q = .func (.func 133) #[.int .i64 T] #[] ∧ l = .int .i64 L ∧ Hid (L = (lv : Int) - 1) ∧ Hid (X % 2 ^ lv = 0 ∧ Y % 2 ^ lv = 0 ∧ X + (Hb.from_ lv T b).1 = cx ∧ Y + (Hb.from_ lv T b).2 = cy ∧ cx < 1 ∧ cy < 1)) (fun _ _ _ l => (intOf l + 1).toNat)
  case atStart =>
    have hlt := Hb.cell_lt 0 (b % 4 ^ 0)
    have h0 : Hb.turned 0 (2 ^ 0) (Hb.cell 0 (b % 4 ^ 0)) = Hb.cell 0 (b % 4 ^ 0) := rfl
    have hcc : Hb.cell 0 (b % 4 ^ 0) = (cx, cy) := by rw [← h0, ← HF.out, HC.out]
    rw [hcc] at hlt
    exact ⟨0, 0, 0, 0, -1, by decide, by decide, by decide, by decide, rfl, rfl, rfl, rfl, by show _ = _; decide, by decide, by decide, by rw [HC.out]; simp, by rw [HC.out]; simp, hlt.1, hlt.2⟩
  case round =>
    obtain ⟨lv, X, Y, T, L, hlv, hT, hX, hY, rfl, rfl, rfl, rfl, HL, HR⟩ := hrel
    obtain rfl : lv = 0 := by omega
    · obtain rfl : L = -1 := by have := HL.out; omega
      go_wp2_with fail
      refine bodyPost_ret (by simp [results, Tryz.results99, go_sem]; rfl) rfl ?_
      refine ⟨?_, rfl⟩
      obtain ⟨_, _, h1, h2, _, _⟩ := HR.out
      have h0 : Hb.turned 0 (2 ^ 0) (Hb.cell 0 (b % 4 ^ 0)) = Hb.cell 0 (b % 4 ^ 0) := rfl
      have hm : b % 4 ^ 0 = b := Nat.mod_eq_of_lt hb
      have hcc : Hb.cell 0 b = (cx, cy) := by
        have e := HF.out
        rw [h0, hm, HC.out] at e
        exact e.symm
      rw [hcc]
      exact ret_threeT (by simp [Hb.from_] at h1; omega) (by simp [Hb.from_] at h2; omega)
set_option maxRecDepth 100000 in
set_option maxHeartbeats 3200000 in
theorem cellOf_1 (b : Nat) (hb : b < 4) (w : World) : Calls Tryz.prog 99 #[.int .i64 1, .int .i64 b] w fun E w' => E = .returned (.tuple #[.int .i64 ((Hb.cell 1 b).1 : Nat), .int .i64 ((Hb.cell 1 b).2 : Nat), .bool true]) ∧ w = w' := by
  have HO := Lib.hid (halvesOk_any 1)
  have i1 : ¬ (b : Int) < 0 := by omega
  have i2 : ¬ (4 : Int) ≤ b := by omega
  have HF := Lib.hid (Hb.from_cell 1 0 b (by decide))
  obtain ⟨⟨cx, cy⟩, hc⟩ : ∃ c, Hb.from_ 1 0 b = c := ⟨_, rfl⟩
  have HC := Lib.hid hc
  clear hc
  go_enter Tryz.func99, Tryz.ntmps99
  go_wp2_with (first
    | (go_at_call 132; refine (HO.out _).mono ?_; rintro e w1 ⟨rfl, rfl⟩))
  go_loop [7, 8, 9, 10] (fun x y q l => ∃ (lv X Y T : Nat) (L : Int), lv ≤ 1 ∧ T < 4 ∧ X < 4294967296 ∧ Y < 4294967296 ∧ x = .int .i64 X ∧ y = .int .i64 Y ∧ q = .func (.func 133) #[.int .i64 T] #[] ∧ l = .int .i64 L ∧ Hid (L = (lv : Int) - 1) ∧ Hid (X % 2 ^ lv = 0 ∧ Y % 2 ^ lv = 0 ∧ X + (Hb.from_ lv T b).1 = cx ∧ Y + (Hb.from_ lv T b).2 = cy ∧ cx < 2 ∧ cy < 2)) (fun _ _ _ l => (intOf l + 1).toNat)
  case atStart =>
    have hlt := Hb.cell_lt 1 (b % 4 ^ 1)
    have h0 : Hb.turned 0 (2 ^ 1) (Hb.cell 1 (b % 4 ^ 1)) = Hb.cell 1 (b % 4 ^ 1) := rfl
    have hcc : Hb.cell 1 (b % 4 ^ 1) = (cx, cy) := by rw [← h0, ← HF.out, HC.out]
    rw [hcc] at hlt
    exact ⟨1, 0, 0, 0, 0, by decide, by decide, by decide, by decide, rfl, rfl, rfl, rfl, by show _ = _; decide, by decide, by decide, by rw [HC.out]; simp, by rw [HC.out]; simp, hlt.1, hlt.2⟩
  case round =>
    obtain ⟨lv, X, Y, T, L, hlv, hT, hX, hY, rfl, rfl, rfl, rfl, HL, HR⟩ := hrel
    obtain rfl | rfl : lv = 0 ∨ lv = 1 := by omega
    · obtain rfl : L = -1 := by have := HL.out; omega
      go_wp2_with fail
      refine bodyPost_ret (by simp [results, Tryz.results99, go_sem]; rfl) rfl ?_
      refine ⟨?_, rfl⟩
      obtain ⟨_, _, h1, h2, _, _⟩ := HR.out
      have h0 : Hb.turned 0 (2 ^ 1) (Hb.cell 1 (b % 4 ^ 1)) = Hb.cell 1 (b % 4 ^ 1) := rfl
      have hm : b % 4 ^ 1 = b := Nat.mod_eq_of_lt hb
      have hcc : Hb.cell 1 b = (cx, cy) := by
        have e := HF.out
        rw [h0, hm, HC.out] at e
        exact e.symm
      rw [hcc]
      exact ret_threeT (by simp [Hb.from_] at h1; omega) (by simp [Hb.from_] at h2; omega)
    · obtain rfl : L = 0 := by have := HL.out; omega
      obtain ⟨q, hq⟩ : ∃ q, b / 1 % 4 = q := ⟨_, rfl⟩
      have hq4 : q < 4 := by omega
      have hand : bits .and .i64 (b : Int) 3 = (q : Int) := by rw [show (b : Int) = ((b / 1 : Nat) : Int) from by omega, and3 _ (by omega), hq]
      have hE1 := Hb.putE_le (t := T) (Hb.qe_le q) (Hb.qn_le q)
      have hN1 := Hb.putN_le (t := T) (Hb.qe_le q) (Hb.qn_le q)
      have hT2 := Hb.into_lt (t := T) (q := q) hT
      have hQ := quarterAt_any T q hT hq4
      have hfr : Hb.from_ 1 T b = (Hb.putE T (Hb.qe q) (Hb.qn q) * 1 + (Hb.from_ 0 (Hb.into T q) b).1, Hb.putN T (Hb.qe q) (Hb.qn q) * 1 + (Hb.from_ 0 (Hb.into T q) b).2) := by
        rw [← hq]
        rfl
      obtain ⟨E, hE⟩ : ∃ E, Hb.putE T (Hb.qe q) (Hb.qn q) = E := ⟨_, rfl⟩
      obtain ⟨N, hN⟩ : ∃ N, Hb.putN T (Hb.qe q) (Hb.qn q) = N := ⟨_, rfl⟩
      obtain ⟨T2, hTT⟩ : ∃ T2, Hb.into T q = T2 := ⟨_, rfl⟩
      rw [hE] at hE1 hQ hfr
      rw [hN] at hN1 hQ hfr
      rw [hTT] at hT2 hQ hfr
      have HQ := Lib.hid hQ
      have HFR := Lib.hid hfr
      clear hQ hfr hE hN hTT hq
      go_wp2_with (first
        | (go_at_call 133; refine (HQ.out _).mono ?_; rintro e w1 ⟨rfl, rfl⟩))
      go_round
      case rel =>
        obtain ⟨h1, h2, h3, h4, h5, h6⟩ := HR.out
        have hfr := HFR.out
        rw [hfr] at h3 h4
        simp only at h3 h4
        obtain ⟨f1, hf1⟩ : ∃ f1, (Hb.from_ 0 T2 b).1 = f1 := ⟨_, rfl⟩
        obtain ⟨f2, hf2⟩ : ∃ f2, (Hb.from_ 0 T2 b).2 = f2 := ⟨_, rfl⟩
        rw [hf1] at h3
        rw [hf2] at h4
        refine ⟨0, X + E * 1, Y + N * 1, T2, -1, by omega, hT2, by omega, by omega, ?_, ?_, rfl, by go_num, by show _ = _; decide, by omega, by omega, by rw [hf1]; omega, by rw [hf2]; omega, h5, h6⟩
        · have e := or_add 1 X (E * 1) h1 (by omega) (by omega) (by omega)
          simpa using congrArg (Value.int .i64) e
        · have e := or_add 1 Y (N * 1) h2 (by omega) (by omega) (by omega)
          simpa using congrArg (Value.int .i64) e
      case measure => simp [intOf] <;> omega
set_option maxRecDepth 100000 in
set_option maxHeartbeats 3200000 in
theorem cellOf_2 (b : Nat) (hb : b < 16) (w : World) : Calls Tryz.prog 99 #[.int .i64 2, .int .i64 b] w fun E w' => E = .returned (.tuple #[.int .i64 ((Hb.cell 2 b).1 : Nat), .int .i64 ((Hb.cell 2 b).2 : Nat), .bool true]) ∧ w = w' := by
  have HO := Lib.hid (halvesOk_any 2)
  have i1 : ¬ (b : Int) < 0 := by omega
  have i2 : ¬ (16 : Int) ≤ b := by omega
  have HF := Lib.hid (Hb.from_cell 2 0 b (by decide))
  obtain ⟨⟨cx, cy⟩, hc⟩ : ∃ c, Hb.from_ 2 0 b = c := ⟨_, rfl⟩
  have HC := Lib.hid hc
  clear hc
  go_enter Tryz.func99, Tryz.ntmps99
  go_wp2_with (first
    | (go_at_call 132; refine (HO.out _).mono ?_; rintro e w1 ⟨rfl, rfl⟩))
  go_loop [7, 8, 9, 10] (fun x y q l => ∃ (lv X Y T : Nat) (L : Int), lv ≤ 2 ∧ T < 4 ∧ X < 4294967296 ∧ Y < 4294967296 ∧ x = .int .i64 X ∧ y = .int .i64 Y ∧ q = .func (.func 133) #[.int .i64 T] #[] ∧ l = .int .i64 L ∧ Hid (L = (lv : Int) - 1) ∧ Hid (X % 2 ^ lv = 0 ∧ Y % 2 ^ lv = 0 ∧ X + (Hb.from_ lv T b).1 = cx ∧ Y + (Hb.from_ lv T b).2 = cy ∧ cx < 4 ∧ cy < 4)) (fun _ _ _ l => (intOf l + 1).toNat)
  case atStart =>
    have hlt := Hb.cell_lt 2 (b % 4 ^ 2)
    have h0 : Hb.turned 0 (2 ^ 2) (Hb.cell 2 (b % 4 ^ 2)) = Hb.cell 2 (b % 4 ^ 2) := rfl
    have hcc : Hb.cell 2 (b % 4 ^ 2) = (cx, cy) := by rw [← h0, ← HF.out, HC.out]
    rw [hcc] at hlt
    exact ⟨2, 0, 0, 0, 1, by decide, by decide, by decide, by decide, rfl, rfl, rfl, rfl, by show _ = _; decide, by decide, by decide, by rw [HC.out]; simp, by rw [HC.out]; simp, hlt.1, hlt.2⟩
  case round =>
    obtain ⟨lv, X, Y, T, L, hlv, hT, hX, hY, rfl, rfl, rfl, rfl, HL, HR⟩ := hrel
    obtain rfl | rfl | rfl : lv = 0 ∨ lv = 1 ∨ lv = 2 := by omega
    · obtain rfl : L = -1 := by have := HL.out; omega
      go_wp2_with fail
      refine bodyPost_ret (by simp [results, Tryz.results99, go_sem]; rfl) rfl ?_
      refine ⟨?_, rfl⟩
      obtain ⟨_, _, h1, h2, _, _⟩ := HR.out
      have h0 : Hb.turned 0 (2 ^ 2) (Hb.cell 2 (b % 4 ^ 2)) = Hb.cell 2 (b % 4 ^ 2) := rfl
      have hm : b % 4 ^ 2 = b := Nat.mod_eq_of_lt hb
      have hcc : Hb.cell 2 b = (cx, cy) := by
        have e := HF.out
        rw [h0, hm, HC.out] at e
        exact e.symm
      rw [hcc]
      exact ret_threeT (by simp [Hb.from_] at h1; omega) (by simp [Hb.from_] at h2; omega)
    · obtain rfl : L = 0 := by have := HL.out; omega
      obtain ⟨q, hq⟩ : ∃ q, b / 1 % 4 = q := ⟨_, rfl⟩
      have hq4 : q < 4 := by omega
      have hand : bits .and .i64 (b : Int) 3 = (q : Int) := by rw [show (b : Int) = ((b / 1 : Nat) : Int) from by omega, and3 _ (by omega), hq]
      have hE1 := Hb.putE_le (t := T) (Hb.qe_le q) (Hb.qn_le q)
      have hN1 := Hb.putN_le (t := T) (Hb.qe_le q) (Hb.qn_le q)
      have hT2 := Hb.into_lt (t := T) (q := q) hT
      have hQ := quarterAt_any T q hT hq4
      have hfr : Hb.from_ 1 T b = (Hb.putE T (Hb.qe q) (Hb.qn q) * 1 + (Hb.from_ 0 (Hb.into T q) b).1, Hb.putN T (Hb.qe q) (Hb.qn q) * 1 + (Hb.from_ 0 (Hb.into T q) b).2) := by
        rw [← hq]
        rfl
      obtain ⟨E, hE⟩ : ∃ E, Hb.putE T (Hb.qe q) (Hb.qn q) = E := ⟨_, rfl⟩
      obtain ⟨N, hN⟩ : ∃ N, Hb.putN T (Hb.qe q) (Hb.qn q) = N := ⟨_, rfl⟩
      obtain ⟨T2, hTT⟩ : ∃ T2, Hb.into T q = T2 := ⟨_, rfl⟩
      rw [hE] at hE1 hQ hfr
      rw [hN] at hN1 hQ hfr
      rw [hTT] at hT2 hQ hfr
      have HQ := Lib.hid hQ
      have HFR := Lib.hid hfr
      clear hQ hfr hE hN hTT hq
      go_wp2_with (first
        | (go_at_call 133; refine (HQ.out _).mono ?_; rintro e w1 ⟨rfl, rfl⟩))
      go_round
      case rel =>
        obtain ⟨h1, h2, h3, h4, h5, h6⟩ := HR.out
        have hfr := HFR.out
        rw [hfr] at h3 h4
        simp only at h3 h4
        obtain ⟨f1, hf1⟩ : ∃ f1, (Hb.from_ 0 T2 b).1 = f1 := ⟨_, rfl⟩
        obtain ⟨f2, hf2⟩ : ∃ f2, (Hb.from_ 0 T2 b).2 = f2 := ⟨_, rfl⟩
        rw [hf1] at h3
        rw [hf2] at h4
        refine ⟨0, X + E * 1, Y + N * 1, T2, -1, by omega, hT2, by omega, by omega, ?_, ?_, rfl, by go_num, by show _ = _; decide, by omega, by omega, by rw [hf1]; omega, by rw [hf2]; omega, h5, h6⟩
        · have e := or_add 1 X (E * 1) h1 (by omega) (by omega) (by omega)
          simpa using congrArg (Value.int .i64) e
        · have e := or_add 1 Y (N * 1) h2 (by omega) (by omega) (by omega)
          simpa using congrArg (Value.int .i64) e
      case measure => simp [intOf] <;> omega
    · obtain rfl : L = 1 := by have := HL.out; omega
      obtain ⟨q, hq⟩ : ∃ q, b / 4 % 4 = q := ⟨_, rfl⟩
      have hq4 : q < 4 := by omega
      have hand : bits .and .i64 ((b : Int) / 4) 3 = (q : Int) := by rw [show ((b : Int) / 4) = ((b / 4 : Nat) : Int) from by omega, and3 _ (by omega), hq]
      have hE1 := Hb.putE_le (t := T) (Hb.qe_le q) (Hb.qn_le q)
      have hN1 := Hb.putN_le (t := T) (Hb.qe_le q) (Hb.qn_le q)
      have hT2 := Hb.into_lt (t := T) (q := q) hT
      have hQ := quarterAt_any T q hT hq4
      have hfr : Hb.from_ 2 T b = (Hb.putE T (Hb.qe q) (Hb.qn q) * 2 + (Hb.from_ 1 (Hb.into T q) b).1, Hb.putN T (Hb.qe q) (Hb.qn q) * 2 + (Hb.from_ 1 (Hb.into T q) b).2) := by
        rw [← hq]
        rfl
      obtain ⟨E, hE⟩ : ∃ E, Hb.putE T (Hb.qe q) (Hb.qn q) = E := ⟨_, rfl⟩
      obtain ⟨N, hN⟩ : ∃ N, Hb.putN T (Hb.qe q) (Hb.qn q) = N := ⟨_, rfl⟩
      obtain ⟨T2, hTT⟩ : ∃ T2, Hb.into T q = T2 := ⟨_, rfl⟩
      rw [hE] at hE1 hQ hfr
      rw [hN] at hN1 hQ hfr
      rw [hTT] at hT2 hQ hfr
      have HQ := Lib.hid hQ
      have HFR := Lib.hid hfr
      clear hQ hfr hE hN hTT hq
      go_wp2_with (first
        | (go_at_call 133; refine (HQ.out _).mono ?_; rintro e w1 ⟨rfl, rfl⟩))
      go_round
      case rel =>
        obtain ⟨h1, h2, h3, h4, h5, h6⟩ := HR.out
        have hfr := HFR.out
        rw [hfr] at h3 h4
        simp only at h3 h4
        obtain ⟨f1, hf1⟩ : ∃ f1, (Hb.from_ 1 T2 b).1 = f1 := ⟨_, rfl⟩
        obtain ⟨f2, hf2⟩ : ∃ f2, (Hb.from_ 1 T2 b).2 = f2 := ⟨_, rfl⟩
        rw [hf1] at h3
        rw [hf2] at h4
        refine ⟨1, X + E * 2, Y + N * 2, T2, 0, by omega, hT2, by omega, by omega, ?_, ?_, rfl, by go_num, by show _ = _; decide, by omega, by omega, by rw [hf1]; omega, by rw [hf2]; omega, h5, h6⟩
        · have e := or_add 2 X (E * 2) h1 (by omega) (by omega) (by omega)
          simpa using congrArg (Value.int .i64) e
        · have e := or_add 2 Y (N * 2) h2 (by omega) (by omega) (by omega)
          simpa using congrArg (Value.int .i64) e
      case measure => simp [intOf] <;> omega
set_option maxRecDepth 100000 in
set_option maxHeartbeats 3200000 in
theorem cellOf_3 (b : Nat) (hb : b < 64) (w : World) : Calls Tryz.prog 99 #[.int .i64 3, .int .i64 b] w fun E w' => E = .returned (.tuple #[.int .i64 ((Hb.cell 3 b).1 : Nat), .int .i64 ((Hb.cell 3 b).2 : Nat), .bool true]) ∧ w = w' := by
  have HO := Lib.hid (halvesOk_any 3)
  have i1 : ¬ (b : Int) < 0 := by omega
  have i2 : ¬ (64 : Int) ≤ b := by omega
  have HF := Lib.hid (Hb.from_cell 3 0 b (by decide))
  obtain ⟨⟨cx, cy⟩, hc⟩ : ∃ c, Hb.from_ 3 0 b = c := ⟨_, rfl⟩
  have HC := Lib.hid hc
  clear hc
  go_enter Tryz.func99, Tryz.ntmps99
  go_wp2_with (first
    | (go_at_call 132; refine (HO.out _).mono ?_; rintro e w1 ⟨rfl, rfl⟩))
  go_loop [7, 8, 9, 10] (fun x y q l => ∃ (lv X Y T : Nat) (L : Int), lv ≤ 3 ∧ T < 4 ∧ X < 4294967296 ∧ Y < 4294967296 ∧ x = .int .i64 X ∧ y = .int .i64 Y ∧ q = .func (.func 133) #[.int .i64 T] #[] ∧ l = .int .i64 L ∧ Hid (L = (lv : Int) - 1) ∧ Hid (X % 2 ^ lv = 0 ∧ Y % 2 ^ lv = 0 ∧ X + (Hb.from_ lv T b).1 = cx ∧ Y + (Hb.from_ lv T b).2 = cy ∧ cx < 8 ∧ cy < 8)) (fun _ _ _ l => (intOf l + 1).toNat)
  case atStart =>
    have hlt := Hb.cell_lt 3 (b % 4 ^ 3)
    have h0 : Hb.turned 0 (2 ^ 3) (Hb.cell 3 (b % 4 ^ 3)) = Hb.cell 3 (b % 4 ^ 3) := rfl
    have hcc : Hb.cell 3 (b % 4 ^ 3) = (cx, cy) := by rw [← h0, ← HF.out, HC.out]
    rw [hcc] at hlt
    exact ⟨3, 0, 0, 0, 2, by decide, by decide, by decide, by decide, rfl, rfl, rfl, rfl, by show _ = _; decide, by decide, by decide, by rw [HC.out]; simp, by rw [HC.out]; simp, hlt.1, hlt.2⟩
  case round =>
    obtain ⟨lv, X, Y, T, L, hlv, hT, hX, hY, rfl, rfl, rfl, rfl, HL, HR⟩ := hrel
    obtain rfl | rfl | rfl | rfl : lv = 0 ∨ lv = 1 ∨ lv = 2 ∨ lv = 3 := by omega
    · obtain rfl : L = -1 := by have := HL.out; omega
      go_wp2_with fail
      refine bodyPost_ret (by simp [results, Tryz.results99, go_sem]; rfl) rfl ?_
      refine ⟨?_, rfl⟩
      obtain ⟨_, _, h1, h2, _, _⟩ := HR.out
      have h0 : Hb.turned 0 (2 ^ 3) (Hb.cell 3 (b % 4 ^ 3)) = Hb.cell 3 (b % 4 ^ 3) := rfl
      have hm : b % 4 ^ 3 = b := Nat.mod_eq_of_lt hb
      have hcc : Hb.cell 3 b = (cx, cy) := by
        have e := HF.out
        rw [h0, hm, HC.out] at e
        exact e.symm
      rw [hcc]
      exact ret_threeT (by simp [Hb.from_] at h1; omega) (by simp [Hb.from_] at h2; omega)
    · obtain rfl : L = 0 := by have := HL.out; omega
      obtain ⟨q, hq⟩ : ∃ q, b / 1 % 4 = q := ⟨_, rfl⟩
      have hq4 : q < 4 := by omega
      have hand : bits .and .i64 (b : Int) 3 = (q : Int) := by rw [show (b : Int) = ((b / 1 : Nat) : Int) from by omega, and3 _ (by omega), hq]
      have hE1 := Hb.putE_le (t := T) (Hb.qe_le q) (Hb.qn_le q)
      have hN1 := Hb.putN_le (t := T) (Hb.qe_le q) (Hb.qn_le q)
      have hT2 := Hb.into_lt (t := T) (q := q) hT
      have hQ := quarterAt_any T q hT hq4
      have hfr : Hb.from_ 1 T b = (Hb.putE T (Hb.qe q) (Hb.qn q) * 1 + (Hb.from_ 0 (Hb.into T q) b).1, Hb.putN T (Hb.qe q) (Hb.qn q) * 1 + (Hb.from_ 0 (Hb.into T q) b).2) := by
        rw [← hq]
        rfl
      obtain ⟨E, hE⟩ : ∃ E, Hb.putE T (Hb.qe q) (Hb.qn q) = E := ⟨_, rfl⟩
      obtain ⟨N, hN⟩ : ∃ N, Hb.putN T (Hb.qe q) (Hb.qn q) = N := ⟨_, rfl⟩
      obtain ⟨T2, hTT⟩ : ∃ T2, Hb.into T q = T2 := ⟨_, rfl⟩
      rw [hE] at hE1 hQ hfr
      rw [hN] at hN1 hQ hfr
      rw [hTT] at hT2 hQ hfr
      have HQ := Lib.hid hQ
      have HFR := Lib.hid hfr
      clear hQ hfr hE hN hTT hq
      go_wp2_with (first
        | (go_at_call 133; refine (HQ.out _).mono ?_; rintro e w1 ⟨rfl, rfl⟩))
      go_round
      case rel =>
        obtain ⟨h1, h2, h3, h4, h5, h6⟩ := HR.out
        have hfr := HFR.out
        rw [hfr] at h3 h4
        simp only at h3 h4
        obtain ⟨f1, hf1⟩ : ∃ f1, (Hb.from_ 0 T2 b).1 = f1 := ⟨_, rfl⟩
        obtain ⟨f2, hf2⟩ : ∃ f2, (Hb.from_ 0 T2 b).2 = f2 := ⟨_, rfl⟩
        rw [hf1] at h3
        rw [hf2] at h4
        refine ⟨0, X + E * 1, Y + N * 1, T2, -1, by omega, hT2, by omega, by omega, ?_, ?_, rfl, by go_num, by show _ = _; decide, by omega, by omega, by rw [hf1]; omega, by rw [hf2]; omega, h5, h6⟩
        · have e := or_add 1 X (E * 1) h1 (by omega) (by omega) (by omega)
          simpa using congrArg (Value.int .i64) e
        · have e := or_add 1 Y (N * 1) h2 (by omega) (by omega) (by omega)
          simpa using congrArg (Value.int .i64) e
      case measure => simp [intOf] <;> omega
    · obtain rfl : L = 1 := by have := HL.out; omega
      obtain ⟨q, hq⟩ : ∃ q, b / 4 % 4 = q := ⟨_, rfl⟩
      have hq4 : q < 4 := by omega
      have hand : bits .and .i64 ((b : Int) / 4) 3 = (q : Int) := by rw [show ((b : Int) / 4) = ((b / 4 : Nat) : Int) from by omega, and3 _ (by omega), hq]
      have hE1 := Hb.putE_le (t := T) (Hb.qe_le q) (Hb.qn_le q)
      have hN1 := Hb.putN_le (t := T) (Hb.qe_le q) (Hb.qn_le q)
      have hT2 := Hb.into_lt (t := T) (q := q) hT
      have hQ := quarterAt_any T q hT hq4
      have hfr : Hb.from_ 2 T b = (Hb.putE T (Hb.qe q) (Hb.qn q) * 2 + (Hb.from_ 1 (Hb.into T q) b).1, Hb.putN T (Hb.qe q) (Hb.qn q) * 2 + (Hb.from_ 1 (Hb.into T q) b).2) := by
        rw [← hq]
        rfl
      obtain ⟨E, hE⟩ : ∃ E, Hb.putE T (Hb.qe q) (Hb.qn q) = E := ⟨_, rfl⟩
      obtain ⟨N, hN⟩ : ∃ N, Hb.putN T (Hb.qe q) (Hb.qn q) = N := ⟨_, rfl⟩
      obtain ⟨T2, hTT⟩ : ∃ T2, Hb.into T q = T2 := ⟨_, rfl⟩
      rw [hE] at hE1 hQ hfr
      rw [hN] at hN1 hQ hfr
      rw [hTT] at hT2 hQ hfr
      have HQ := Lib.hid hQ
      have HFR := Lib.hid hfr
      clear hQ hfr hE hN hTT hq
      go_wp2_with (first
        | (go_at_call 133; refine (HQ.out _).mono ?_; rintro e w1 ⟨rfl, rfl⟩))
      go_round
      case rel =>
        obtain ⟨h1, h2, h3, h4, h5, h6⟩ := HR.out
        have hfr := HFR.out
        rw [hfr] at h3 h4
        simp only at h3 h4
        obtain ⟨f1, hf1⟩ : ∃ f1, (Hb.from_ 1 T2 b).1 = f1 := ⟨_, rfl⟩
        obtain ⟨f2, hf2⟩ : ∃ f2, (Hb.from_ 1 T2 b).2 = f2 := ⟨_, rfl⟩
        rw [hf1] at h3
        rw [hf2] at h4
        refine ⟨1, X + E * 2, Y + N * 2, T2, 0, by omega, hT2, by omega, by omega, ?_, ?_, rfl, by go_num, by show _ = _; decide, by omega, by omega, by rw [hf1]; omega, by rw [hf2]; omega, h5, h6⟩
        · have e := or_add 2 X (E * 2) h1 (by omega) (by omega) (by omega)
          simpa using congrArg (Value.int .i64) e
        · have e := or_add 2 Y (N * 2) h2 (by omega) (by omega) (by omega)
          simpa using congrArg (Value.int .i64) e
      case measure => simp [intOf] <;> omega
    · obtain rfl : L = 2 := by have := HL.out; omega
      obtain ⟨q, hq⟩ : ∃ q, b / 16 % 4 = q := ⟨_, rfl⟩
      have hq4 : q < 4 := by omega
      have hand : bits .and .i64 ((b : Int) / 16) 3 = (q : Int) := by rw [show ((b : Int) / 16) = ((b / 16 : Nat) : Int) from by omega, and3 _ (by omega), hq]
      have hE1 := Hb.putE_le (t := T) (Hb.qe_le q) (Hb.qn_le q)
      have hN1 := Hb.putN_le (t := T) (Hb.qe_le q) (Hb.qn_le q)
      have hT2 := Hb.into_lt (t := T) (q := q) hT
      have hQ := quarterAt_any T q hT hq4
      have hfr : Hb.from_ 3 T b = (Hb.putE T (Hb.qe q) (Hb.qn q) * 4 + (Hb.from_ 2 (Hb.into T q) b).1, Hb.putN T (Hb.qe q) (Hb.qn q) * 4 + (Hb.from_ 2 (Hb.into T q) b).2) := by
        rw [← hq]
        rfl
      obtain ⟨E, hE⟩ : ∃ E, Hb.putE T (Hb.qe q) (Hb.qn q) = E := ⟨_, rfl⟩
      obtain ⟨N, hN⟩ : ∃ N, Hb.putN T (Hb.qe q) (Hb.qn q) = N := ⟨_, rfl⟩
      obtain ⟨T2, hTT⟩ : ∃ T2, Hb.into T q = T2 := ⟨_, rfl⟩
      rw [hE] at hE1 hQ hfr
      rw [hN] at hN1 hQ hfr
      rw [hTT] at hT2 hQ hfr
      have HQ := Lib.hid hQ
      have HFR := Lib.hid hfr
      clear hQ hfr hE hN hTT hq
      go_wp2_with (first
        | (go_at_call 133; refine (HQ.out _).mono ?_; rintro e w1 ⟨rfl, rfl⟩))
      go_round
      case rel =>
        obtain ⟨h1, h2, h3, h4, h5, h6⟩ := HR.out
        have hfr := HFR.out
        rw [hfr] at h3 h4
        simp only at h3 h4
        obtain ⟨f1, hf1⟩ : ∃ f1, (Hb.from_ 2 T2 b).1 = f1 := ⟨_, rfl⟩
        obtain ⟨f2, hf2⟩ : ∃ f2, (Hb.from_ 2 T2 b).2 = f2 := ⟨_, rfl⟩
        rw [hf1] at h3
        rw [hf2] at h4
        refine ⟨2, X + E * 4, Y + N * 4, T2, 1, by omega, hT2, by omega, by omega, ?_, ?_, rfl, by go_num, by show _ = _; decide, by omega, by omega, by rw [hf1]; omega, by rw [hf2]; omega, h5, h6⟩
        · have e := or_add 3 X (E * 4) h1 (by omega) (by omega) (by omega)
          simpa using congrArg (Value.int .i64) e
        · have e := or_add 3 Y (N * 4) h2 (by omega) (by omega) (by omega)
          simpa using congrArg (Value.int .i64) e
      case measure => simp [intOf] <;> omega
set_option maxRecDepth 100000 in
set_option maxHeartbeats 3200000 in
theorem cellOf_4 (b : Nat) (hb : b < 256) (w : World) : Calls Tryz.prog 99 #[.int .i64 4, .int .i64 b] w fun E w' => E = .returned (.tuple #[.int .i64 ((Hb.cell 4 b).1 : Nat), .int .i64 ((Hb.cell 4 b).2 : Nat), .bool true]) ∧ w = w' := by
  have HO := Lib.hid (halvesOk_any 4)
  have i1 : ¬ (b : Int) < 0 := by omega
  have i2 : ¬ (256 : Int) ≤ b := by omega
  have HF := Lib.hid (Hb.from_cell 4 0 b (by decide))
  obtain ⟨⟨cx, cy⟩, hc⟩ : ∃ c, Hb.from_ 4 0 b = c := ⟨_, rfl⟩
  have HC := Lib.hid hc
  clear hc
  go_enter Tryz.func99, Tryz.ntmps99
  go_wp2_with (first
    | (go_at_call 132; refine (HO.out _).mono ?_; rintro e w1 ⟨rfl, rfl⟩))
  go_loop [7, 8, 9, 10] (fun x y q l => ∃ (lv X Y T : Nat) (L : Int), lv ≤ 4 ∧ T < 4 ∧ X < 4294967296 ∧ Y < 4294967296 ∧ x = .int .i64 X ∧ y = .int .i64 Y ∧ q = .func (.func 133) #[.int .i64 T] #[] ∧ l = .int .i64 L ∧ Hid (L = (lv : Int) - 1) ∧ Hid (X % 2 ^ lv = 0 ∧ Y % 2 ^ lv = 0 ∧ X + (Hb.from_ lv T b).1 = cx ∧ Y + (Hb.from_ lv T b).2 = cy ∧ cx < 16 ∧ cy < 16)) (fun _ _ _ l => (intOf l + 1).toNat)
  case atStart =>
    have hlt := Hb.cell_lt 4 (b % 4 ^ 4)
    have h0 : Hb.turned 0 (2 ^ 4) (Hb.cell 4 (b % 4 ^ 4)) = Hb.cell 4 (b % 4 ^ 4) := rfl
    have hcc : Hb.cell 4 (b % 4 ^ 4) = (cx, cy) := by rw [← h0, ← HF.out, HC.out]
    rw [hcc] at hlt
    exact ⟨4, 0, 0, 0, 3, by decide, by decide, by decide, by decide, rfl, rfl, rfl, rfl, by show _ = _; decide, by decide, by decide, by rw [HC.out]; simp, by rw [HC.out]; simp, hlt.1, hlt.2⟩
  case round =>
    obtain ⟨lv, X, Y, T, L, hlv, hT, hX, hY, rfl, rfl, rfl, rfl, HL, HR⟩ := hrel
    obtain rfl | rfl | rfl | rfl | rfl : lv = 0 ∨ lv = 1 ∨ lv = 2 ∨ lv = 3 ∨ lv = 4 := by omega
    · obtain rfl : L = -1 := by have := HL.out; omega
      go_wp2_with fail
      refine bodyPost_ret (by simp [results, Tryz.results99, go_sem]; rfl) rfl ?_
      refine ⟨?_, rfl⟩
      obtain ⟨_, _, h1, h2, _, _⟩ := HR.out
      have h0 : Hb.turned 0 (2 ^ 4) (Hb.cell 4 (b % 4 ^ 4)) = Hb.cell 4 (b % 4 ^ 4) := rfl
      have hm : b % 4 ^ 4 = b := Nat.mod_eq_of_lt hb
      have hcc : Hb.cell 4 b = (cx, cy) := by
        have e := HF.out
        rw [h0, hm, HC.out] at e
        exact e.symm
      rw [hcc]
      exact ret_threeT (by simp [Hb.from_] at h1; omega) (by simp [Hb.from_] at h2; omega)
    · obtain rfl : L = 0 := by have := HL.out; omega
      obtain ⟨q, hq⟩ : ∃ q, b / 1 % 4 = q := ⟨_, rfl⟩
      have hq4 : q < 4 := by omega
      have hand : bits .and .i64 (b : Int) 3 = (q : Int) := by rw [show (b : Int) = ((b / 1 : Nat) : Int) from by omega, and3 _ (by omega), hq]
      have hE1 := Hb.putE_le (t := T) (Hb.qe_le q) (Hb.qn_le q)
      have hN1 := Hb.putN_le (t := T) (Hb.qe_le q) (Hb.qn_le q)
      have hT2 := Hb.into_lt (t := T) (q := q) hT
      have hQ := quarterAt_any T q hT hq4
      have hfr : Hb.from_ 1 T b = (Hb.putE T (Hb.qe q) (Hb.qn q) * 1 + (Hb.from_ 0 (Hb.into T q) b).1, Hb.putN T (Hb.qe q) (Hb.qn q) * 1 + (Hb.from_ 0 (Hb.into T q) b).2) := by
        rw [← hq]
        rfl
      obtain ⟨E, hE⟩ : ∃ E, Hb.putE T (Hb.qe q) (Hb.qn q) = E := ⟨_, rfl⟩
      obtain ⟨N, hN⟩ : ∃ N, Hb.putN T (Hb.qe q) (Hb.qn q) = N := ⟨_, rfl⟩
      obtain ⟨T2, hTT⟩ : ∃ T2, Hb.into T q = T2 := ⟨_, rfl⟩
      rw [hE] at hE1 hQ hfr
      rw [hN] at hN1 hQ hfr
      rw [hTT] at hT2 hQ hfr
      have HQ := Lib.hid hQ
      have HFR := Lib.hid hfr
      clear hQ hfr hE hN hTT hq
      go_wp2_with (first
        | (go_at_call 133; refine (HQ.out _).mono ?_; rintro e w1 ⟨rfl, rfl⟩))
      go_round
      case rel =>
        obtain ⟨h1, h2, h3, h4, h5, h6⟩ := HR.out
        have hfr := HFR.out
        rw [hfr] at h3 h4
        simp only at h3 h4
        obtain ⟨f1, hf1⟩ : ∃ f1, (Hb.from_ 0 T2 b).1 = f1 := ⟨_, rfl⟩
        obtain ⟨f2, hf2⟩ : ∃ f2, (Hb.from_ 0 T2 b).2 = f2 := ⟨_, rfl⟩
        rw [hf1] at h3
        rw [hf2] at h4
        refine ⟨0, X + E * 1, Y + N * 1, T2, -1, by omega, hT2, by omega, by omega, ?_, ?_, rfl, by go_num, by show _ = _; decide, by omega, by omega, by rw [hf1]; omega, by rw [hf2]; omega, h5, h6⟩
        · have e := or_add 1 X (E * 1) h1 (by omega) (by omega) (by omega)
          simpa using congrArg (Value.int .i64) e
        · have e := or_add 1 Y (N * 1) h2 (by omega) (by omega) (by omega)
          simpa using congrArg (Value.int .i64) e
      case measure => simp [intOf] <;> omega
    · obtain rfl : L = 1 := by have := HL.out; omega
      obtain ⟨q, hq⟩ : ∃ q, b / 4 % 4 = q := ⟨_, rfl⟩
      have hq4 : q < 4 := by omega
      have hand : bits .and .i64 ((b : Int) / 4) 3 = (q : Int) := by rw [show ((b : Int) / 4) = ((b / 4 : Nat) : Int) from by omega, and3 _ (by omega), hq]
      have hE1 := Hb.putE_le (t := T) (Hb.qe_le q) (Hb.qn_le q)
      have hN1 := Hb.putN_le (t := T) (Hb.qe_le q) (Hb.qn_le q)
      have hT2 := Hb.into_lt (t := T) (q := q) hT
      have hQ := quarterAt_any T q hT hq4
      have hfr : Hb.from_ 2 T b = (Hb.putE T (Hb.qe q) (Hb.qn q) * 2 + (Hb.from_ 1 (Hb.into T q) b).1, Hb.putN T (Hb.qe q) (Hb.qn q) * 2 + (Hb.from_ 1 (Hb.into T q) b).2) := by
        rw [← hq]
        rfl
      obtain ⟨E, hE⟩ : ∃ E, Hb.putE T (Hb.qe q) (Hb.qn q) = E := ⟨_, rfl⟩
      obtain ⟨N, hN⟩ : ∃ N, Hb.putN T (Hb.qe q) (Hb.qn q) = N := ⟨_, rfl⟩
      obtain ⟨T2, hTT⟩ : ∃ T2, Hb.into T q = T2 := ⟨_, rfl⟩
      rw [hE] at hE1 hQ hfr
      rw [hN] at hN1 hQ hfr
      rw [hTT] at hT2 hQ hfr
      have HQ := Lib.hid hQ
      have HFR := Lib.hid hfr
      clear hQ hfr hE hN hTT hq
      go_wp2_with (first
        | (go_at_call 133; refine (HQ.out _).mono ?_; rintro e w1 ⟨rfl, rfl⟩))
      go_round
      case rel =>
        obtain ⟨h1, h2, h3, h4, h5, h6⟩ := HR.out
        have hfr := HFR.out
        rw [hfr] at h3 h4
        simp only at h3 h4
        obtain ⟨f1, hf1⟩ : ∃ f1, (Hb.from_ 1 T2 b).1 = f1 := ⟨_, rfl⟩
        obtain ⟨f2, hf2⟩ : ∃ f2, (Hb.from_ 1 T2 b).2 = f2 := ⟨_, rfl⟩
        rw [hf1] at h3
        rw [hf2] at h4
        refine ⟨1, X + E * 2, Y + N * 2, T2, 0, by omega, hT2, by omega, by omega, ?_, ?_, rfl, by go_num, by show _ = _; decide, by omega, by omega, by rw [hf1]; omega, by rw [hf2]; omega, h5, h6⟩
        · have e := or_add 2 X (E * 2) h1 (by omega) (by omega) (by omega)
          simpa using congrArg (Value.int .i64) e
        · have e := or_add 2 Y (N * 2) h2 (by omega) (by omega) (by omega)
          simpa using congrArg (Value.int .i64) e
      case measure => simp [intOf] <;> omega
    · obtain rfl : L = 2 := by have := HL.out; omega
      obtain ⟨q, hq⟩ : ∃ q, b / 16 % 4 = q := ⟨_, rfl⟩
      have hq4 : q < 4 := by omega
      have hand : bits .and .i64 ((b : Int) / 16) 3 = (q : Int) := by rw [show ((b : Int) / 16) = ((b / 16 : Nat) : Int) from by omega, and3 _ (by omega), hq]
      have hE1 := Hb.putE_le (t := T) (Hb.qe_le q) (Hb.qn_le q)
      have hN1 := Hb.putN_le (t := T) (Hb.qe_le q) (Hb.qn_le q)
      have hT2 := Hb.into_lt (t := T) (q := q) hT
      have hQ := quarterAt_any T q hT hq4
      have hfr : Hb.from_ 3 T b = (Hb.putE T (Hb.qe q) (Hb.qn q) * 4 + (Hb.from_ 2 (Hb.into T q) b).1, Hb.putN T (Hb.qe q) (Hb.qn q) * 4 + (Hb.from_ 2 (Hb.into T q) b).2) := by
        rw [← hq]
        rfl
      obtain ⟨E, hE⟩ : ∃ E, Hb.putE T (Hb.qe q) (Hb.qn q) = E := ⟨_, rfl⟩
      obtain ⟨N, hN⟩ : ∃ N, Hb.putN T (Hb.qe q) (Hb.qn q) = N := ⟨_, rfl⟩
      obtain ⟨T2, hTT⟩ : ∃ T2, Hb.into T q = T2 := ⟨_, rfl⟩
      rw [hE] at hE1 hQ hfr
      rw [hN] at hN1 hQ hfr
      rw [hTT] at hT2 hQ hfr
      have HQ := Lib.hid hQ
      have HFR := Lib.hid hfr
      clear hQ hfr hE hN hTT hq
      go_wp2_with (first
        | (go_at_call 133; refine (HQ.out _).mono ?_; rintro e w1 ⟨rfl, rfl⟩))
      go_round
      case rel =>
        obtain ⟨h1, h2, h3, h4, h5, h6⟩ := HR.out
        have hfr := HFR.out
        rw [hfr] at h3 h4
        simp only at h3 h4
        obtain ⟨f1, hf1⟩ : ∃ f1, (Hb.from_ 2 T2 b).1 = f1 := ⟨_, rfl⟩
        obtain ⟨f2, hf2⟩ : ∃ f2, (Hb.from_ 2 T2 b).2 = f2 := ⟨_, rfl⟩
        rw [hf1] at h3
        rw [hf2] at h4
        refine ⟨2, X + E * 4, Y + N * 4, T2, 1, by omega, hT2, by omega, by omega, ?_, ?_, rfl, by go_num, by show _ = _; decide, by omega, by omega, by rw [hf1]; omega, by rw [hf2]; omega, h5, h6⟩
        · have e := or_add 3 X (E * 4) h1 (by omega) (by omega) (by omega)
          simpa using congrArg (Value.int .i64) e
        · have e := or_add 3 Y (N * 4) h2 (by omega) (by omega) (by omega)
          simpa using congrArg (Value.int .i64) e
      case measure => simp [intOf] <;> omega
    · obtain rfl : L = 3 := by have := HL.out; omega
      obtain ⟨q, hq⟩ : ∃ q, b / 64 % 4 = q := ⟨_, rfl⟩
      have hq4 : q < 4 := by omega
      have hand : bits .and .i64 ((b : Int) / 64) 3 = (q : Int) := by rw [show ((b : Int) / 64) = ((b / 64 : Nat) : Int) from by omega, and3 _ (by omega), hq]
      have hE1 := Hb.putE_le (t := T) (Hb.qe_le q) (Hb.qn_le q)
      have hN1 := Hb.putN_le (t := T) (Hb.qe_le q) (Hb.qn_le q)
      have hT2 := Hb.into_lt (t := T) (q := q) hT
      have hQ := quarterAt_any T q hT hq4
      have hfr : Hb.from_ 4 T b = (Hb.putE T (Hb.qe q) (Hb.qn q) * 8 + (Hb.from_ 3 (Hb.into T q) b).1, Hb.putN T (Hb.qe q) (Hb.qn q) * 8 + (Hb.from_ 3 (Hb.into T q) b).2) := by
        rw [← hq]
        rfl
      obtain ⟨E, hE⟩ : ∃ E, Hb.putE T (Hb.qe q) (Hb.qn q) = E := ⟨_, rfl⟩
      obtain ⟨N, hN⟩ : ∃ N, Hb.putN T (Hb.qe q) (Hb.qn q) = N := ⟨_, rfl⟩
      obtain ⟨T2, hTT⟩ : ∃ T2, Hb.into T q = T2 := ⟨_, rfl⟩
      rw [hE] at hE1 hQ hfr
      rw [hN] at hN1 hQ hfr
      rw [hTT] at hT2 hQ hfr
      have HQ := Lib.hid hQ
      have HFR := Lib.hid hfr
      clear hQ hfr hE hN hTT hq
      go_wp2_with (first
        | (go_at_call 133; refine (HQ.out _).mono ?_; rintro e w1 ⟨rfl, rfl⟩))
      go_round
      case rel =>
        obtain ⟨h1, h2, h3, h4, h5, h6⟩ := HR.out
        have hfr := HFR.out
        rw [hfr] at h3 h4
        simp only at h3 h4
        obtain ⟨f1, hf1⟩ : ∃ f1, (Hb.from_ 3 T2 b).1 = f1 := ⟨_, rfl⟩
        obtain ⟨f2, hf2⟩ : ∃ f2, (Hb.from_ 3 T2 b).2 = f2 := ⟨_, rfl⟩
        rw [hf1] at h3
        rw [hf2] at h4
        refine ⟨3, X + E * 8, Y + N * 8, T2, 2, by omega, hT2, by omega, by omega, ?_, ?_, rfl, by go_num, by show _ = _; decide, by omega, by omega, by rw [hf1]; omega, by rw [hf2]; omega, h5, h6⟩
        · have e := or_add 4 X (E * 8) h1 (by omega) (by omega) (by omega)
          simpa using congrArg (Value.int .i64) e
        · have e := or_add 4 Y (N * 8) h2 (by omega) (by omega) (by omega)
          simpa using congrArg (Value.int .i64) e
      case measure => simp [intOf] <;> omega
set_option maxRecDepth 100000 in
set_option maxHeartbeats 3200000 in
theorem cellOf_5 (b : Nat) (hb : b < 1024) (w : World) : Calls Tryz.prog 99 #[.int .i64 5, .int .i64 b] w fun E w' => E = .returned (.tuple #[.int .i64 ((Hb.cell 5 b).1 : Nat), .int .i64 ((Hb.cell 5 b).2 : Nat), .bool true]) ∧ w = w' := by
  have HO := Lib.hid (halvesOk_any 5)
  have i1 : ¬ (b : Int) < 0 := by omega
  have i2 : ¬ (1024 : Int) ≤ b := by omega
  have HF := Lib.hid (Hb.from_cell 5 0 b (by decide))
  obtain ⟨⟨cx, cy⟩, hc⟩ : ∃ c, Hb.from_ 5 0 b = c := ⟨_, rfl⟩
  have HC := Lib.hid hc
  clear hc
  go_enter Tryz.func99, Tryz.ntmps99
  go_wp2_with (first
    | (go_at_call 132; refine (HO.out _).mono ?_; rintro e w1 ⟨rfl, rfl⟩))
  go_loop [7, 8, 9, 10] (fun x y q l => ∃ (lv X Y T : Nat) (L : Int), lv ≤ 5 ∧ T < 4 ∧ X < 4294967296 ∧ Y < 4294967296 ∧ x = .int .i64 X ∧ y = .int .i64 Y ∧ q = .func (.func 133) #[.int .i64 T] #[] ∧ l = .int .i64 L ∧ Hid (L = (lv : Int) - 1) ∧ Hid (X % 2 ^ lv = 0 ∧ Y % 2 ^ lv = 0 ∧ X + (Hb.from_ lv T b).1 = cx ∧ Y + (Hb.from_ lv T b).2 = cy ∧ cx < 32 ∧ cy < 32)) (fun _ _ _ l => (intOf l + 1).toNat)
  case atStart =>
    have hlt := Hb.cell_lt 5 (b % 4 ^ 5)
    have h0 : Hb.turned 0 (2 ^ 5) (Hb.cell 5 (b % 4 ^ 5)) = Hb.cell 5 (b % 4 ^ 5) := rfl
    have hcc : Hb.cell 5 (b % 4 ^ 5) = (cx, cy) := by rw [← h0, ← HF.out, HC.out]
    rw [hcc] at hlt
    exact ⟨5, 0, 0, 0, 4, by decide, by decide, by decide, by decide, rfl, rfl, rfl, rfl, by show _ = _; decide, by decide, by decide, by rw [HC.out]; simp, by rw [HC.out]; simp, hlt.1, hlt.2⟩
  case round =>
    obtain ⟨lv, X, Y, T, L, hlv, hT, hX, hY, rfl, rfl, rfl, rfl, HL, HR⟩ := hrel
    obtain rfl | rfl | rfl | rfl | rfl | rfl : lv = 0 ∨ lv = 1 ∨ lv = 2 ∨ lv = 3 ∨ lv = 4 ∨ lv = 5 := by omega
    · obtain rfl : L = -1 := by have := HL.out; omega
      go_wp2_with fail
      refine bodyPost_ret (by simp [results, Tryz.results99, go_sem]; rfl) rfl ?_
      refine ⟨?_, rfl⟩
      obtain ⟨_, _, h1, h2, _, _⟩ := HR.out
      have h0 : Hb.turned 0 (2 ^ 5) (Hb.cell 5 (b % 4 ^ 5)) = Hb.cell 5 (b % 4 ^ 5) := rfl
      have hm : b % 4 ^ 5 = b := Nat.mod_eq_of_lt hb
      have hcc : Hb.cell 5 b = (cx, cy) := by
        have e := HF.out
        rw [h0, hm, HC.out] at e
        exact e.symm
      rw [hcc]
      exact ret_threeT (by simp [Hb.from_] at h1; omega) (by simp [Hb.from_] at h2; omega)
    · obtain rfl : L = 0 := by have := HL.out; omega
      obtain ⟨q, hq⟩ : ∃ q, b / 1 % 4 = q := ⟨_, rfl⟩
      have hq4 : q < 4 := by omega
      have hand : bits .and .i64 (b : Int) 3 = (q : Int) := by rw [show (b : Int) = ((b / 1 : Nat) : Int) from by omega, and3 _ (by omega), hq]
      have hE1 := Hb.putE_le (t := T) (Hb.qe_le q) (Hb.qn_le q)
      have hN1 := Hb.putN_le (t := T) (Hb.qe_le q) (Hb.qn_le q)
      have hT2 := Hb.into_lt (t := T) (q := q) hT
      have hQ := quarterAt_any T q hT hq4
      have hfr : Hb.from_ 1 T b = (Hb.putE T (Hb.qe q) (Hb.qn q) * 1 + (Hb.from_ 0 (Hb.into T q) b).1, Hb.putN T (Hb.qe q) (Hb.qn q) * 1 + (Hb.from_ 0 (Hb.into T q) b).2) := by
        rw [← hq]
        rfl
      obtain ⟨E, hE⟩ : ∃ E, Hb.putE T (Hb.qe q) (Hb.qn q) = E := ⟨_, rfl⟩
      obtain ⟨N, hN⟩ : ∃ N, Hb.putN T (Hb.qe q) (Hb.qn q) = N := ⟨_, rfl⟩
      obtain ⟨T2, hTT⟩ : ∃ T2, Hb.into T q = T2 := ⟨_, rfl⟩
      rw [hE] at hE1 hQ hfr
      rw [hN] at hN1 hQ hfr
      rw [hTT] at hT2 hQ hfr
      have HQ := Lib.hid hQ
      have HFR := Lib.hid hfr
      clear hQ hfr hE hN hTT hq
      go_wp2_with (first
        | (go_at_call 133; refine (HQ.out _).mono ?_; rintro e w1 ⟨rfl, rfl⟩))
      go_round
      case rel =>
        obtain ⟨h1, h2, h3, h4, h5, h6⟩ := HR.out
        have hfr := HFR.out
        rw [hfr] at h3 h4
        simp only at h3 h4
        obtain ⟨f1, hf1⟩ : ∃ f1, (Hb.from_ 0 T2 b).1 = f1 := ⟨_, rfl⟩
        obtain ⟨f2, hf2⟩ : ∃ f2, (Hb.from_ 0 T2 b).2 = f2 := ⟨_, rfl⟩
        rw [hf1] at h3
        rw [hf2] at h4
        refine ⟨0, X + E * 1, Y + N * 1, T2, -1, by omega, hT2, by omega, by omega, ?_, ?_, rfl, by go_num, by show _ = _; decide, by omega, by omega, by rw [hf1]; omega, by rw [hf2]; omega, h5, h6⟩
        · have e := or_add 1 X (E * 1) h1 (by omega) (by omega) (by omega)
          simpa using congrArg (Value.int .i64) e
        · have e := or_add 1 Y (N * 1) h2 (by omega) (by omega) (by omega)
          simpa using congrArg (Value.int .i64) e
      case measure => simp [intOf] <;> omega
    · obtain rfl : L = 1 := by have := HL.out; omega
      obtain ⟨q, hq⟩ : ∃ q, b / 4 % 4 = q := ⟨_, rfl⟩
      have hq4 : q < 4 := by omega
      have hand : bits .and .i64 ((b : Int) / 4) 3 = (q : Int) := by rw [show ((b : Int) / 4) = ((b / 4 : Nat) : Int) from by omega, and3 _ (by omega), hq]
      have hE1 := Hb.putE_le (t := T) (Hb.qe_le q) (Hb.qn_le q)
      have hN1 := Hb.putN_le (t := T) (Hb.qe_le q) (Hb.qn_le q)
      have hT2 := Hb.into_lt (t := T) (q := q) hT
      have hQ := quarterAt_any T q hT hq4
      have hfr : Hb.from_ 2 T b = (Hb.putE T (Hb.qe q) (Hb.qn q) * 2 + (Hb.from_ 1 (Hb.into T q) b).1, Hb.putN T (Hb.qe q) (Hb.qn q) * 2 + (Hb.from_ 1 (Hb.into T q) b).2) := by
        rw [← hq]
        rfl
      obtain ⟨E, hE⟩ : ∃ E, Hb.putE T (Hb.qe q) (Hb.qn q) = E := ⟨_, rfl⟩
      obtain ⟨N, hN⟩ : ∃ N, Hb.putN T (Hb.qe q) (Hb.qn q) = N := ⟨_, rfl⟩
      obtain ⟨T2, hTT⟩ : ∃ T2, Hb.into T q = T2 := ⟨_, rfl⟩
      rw [hE] at hE1 hQ hfr
      rw [hN] at hN1 hQ hfr
      rw [hTT] at hT2 hQ hfr
      have HQ := Lib.hid hQ
      have HFR := Lib.hid hfr
      clear hQ hfr hE hN hTT hq
      go_wp2_with (first
        | (go_at_call 133; refine (HQ.out _).mono ?_; rintro e w1 ⟨rfl, rfl⟩))
      go_round
      case rel =>
        obtain ⟨h1, h2, h3, h4, h5, h6⟩ := HR.out
        have hfr := HFR.out
        rw [hfr] at h3 h4
        simp only at h3 h4
        obtain ⟨f1, hf1⟩ : ∃ f1, (Hb.from_ 1 T2 b).1 = f1 := ⟨_, rfl⟩
        obtain ⟨f2, hf2⟩ : ∃ f2, (Hb.from_ 1 T2 b).2 = f2 := ⟨_, rfl⟩
        rw [hf1] at h3
        rw [hf2] at h4
        refine ⟨1, X + E * 2, Y + N * 2, T2, 0, by omega, hT2, by omega, by omega, ?_, ?_, rfl, by go_num, by show _ = _; decide, by omega, by omega, by rw [hf1]; omega, by rw [hf2]; omega, h5, h6⟩
        · have e := or_add 2 X (E * 2) h1 (by omega) (by omega) (by omega)
          simpa using congrArg (Value.int .i64) e
        · have e := or_add 2 Y (N * 2) h2 (by omega) (by omega) (by omega)
          simpa using congrArg (Value.int .i64) e
      case measure => simp [intOf] <;> omega
    · obtain rfl : L = 2 := by have := HL.out; omega
      obtain ⟨q, hq⟩ : ∃ q, b / 16 % 4 = q := ⟨_, rfl⟩
      have hq4 : q < 4 := by omega
      have hand : bits .and .i64 ((b : Int) / 16) 3 = (q : Int) := by rw [show ((b : Int) / 16) = ((b / 16 : Nat) : Int) from by omega, and3 _ (by omega), hq]
      have hE1 := Hb.putE_le (t := T) (Hb.qe_le q) (Hb.qn_le q)
      have hN1 := Hb.putN_le (t := T) (Hb.qe_le q) (Hb.qn_le q)
      have hT2 := Hb.into_lt (t := T) (q := q) hT
      have hQ := quarterAt_any T q hT hq4
      have hfr : Hb.from_ 3 T b = (Hb.putE T (Hb.qe q) (Hb.qn q) * 4 + (Hb.from_ 2 (Hb.into T q) b).1, Hb.putN T (Hb.qe q) (Hb.qn q) * 4 + (Hb.from_ 2 (Hb.into T q) b).2) := by
        rw [← hq]
        rfl
      obtain ⟨E, hE⟩ : ∃ E, Hb.putE T (Hb.qe q) (Hb.qn q) = E := ⟨_, rfl⟩
      obtain ⟨N, hN⟩ : ∃ N, Hb.putN T (Hb.qe q) (Hb.qn q) = N := ⟨_, rfl⟩
      obtain ⟨T2, hTT⟩ : ∃ T2, Hb.into T q = T2 := ⟨_, rfl⟩
      rw [hE] at hE1 hQ hfr
      rw [hN] at hN1 hQ hfr
      rw [hTT] at hT2 hQ hfr
      have HQ := Lib.hid hQ
      have HFR := Lib.hid hfr
      clear hQ hfr hE hN hTT hq
      go_wp2_with (first
        | (go_at_call 133; refine (HQ.out _).mono ?_; rintro e w1 ⟨rfl, rfl⟩))
      go_round
      case rel =>
        obtain ⟨h1, h2, h3, h4, h5, h6⟩ := HR.out
        have hfr := HFR.out
        rw [hfr] at h3 h4
        simp only at h3 h4
        obtain ⟨f1, hf1⟩ : ∃ f1, (Hb.from_ 2 T2 b).1 = f1 := ⟨_, rfl⟩
        obtain ⟨f2, hf2⟩ : ∃ f2, (Hb.from_ 2 T2 b).2 = f2 := ⟨_, rfl⟩
        rw [hf1] at h3
        rw [hf2] at h4
        refine ⟨2, X + E * 4, Y + N * 4, T2, 1, by omega, hT2, by omega, by omega, ?_, ?_, rfl, by go_num, by show _ = _; decide, by omega, by omega, by rw [hf1]; omega, by rw [hf2]; omega, h5, h6⟩
        · have e := or_add 3 X (E * 4) h1 (by omega) (by omega) (by omega)
          simpa using congrArg (Value.int .i64) e
        · have e := or_add 3 Y (N * 4) h2 (by omega) (by omega) (by omega)
          simpa using congrArg (Value.int .i64) e
      case measure => simp [intOf] <;> omega
    · obtain rfl : L = 3 := by have := HL.out; omega
      obtain ⟨q, hq⟩ : ∃ q, b / 64 % 4 = q := ⟨_, rfl⟩
      have hq4 : q < 4 := by omega
      have hand : bits .and .i64 ((b : Int) / 64) 3 = (q : Int) := by rw [show ((b : Int) / 64) = ((b / 64 : Nat) : Int) from by omega, and3 _ (by omega), hq]
      have hE1 := Hb.putE_le (t := T) (Hb.qe_le q) (Hb.qn_le q)
      have hN1 := Hb.putN_le (t := T) (Hb.qe_le q) (Hb.qn_le q)
      have hT2 := Hb.into_lt (t := T) (q := q) hT
      have hQ := quarterAt_any T q hT hq4
      have hfr : Hb.from_ 4 T b = (Hb.putE T (Hb.qe q) (Hb.qn q) * 8 + (Hb.from_ 3 (Hb.into T q) b).1, Hb.putN T (Hb.qe q) (Hb.qn q) * 8 + (Hb.from_ 3 (Hb.into T q) b).2) := by
        rw [← hq]
        rfl
      obtain ⟨E, hE⟩ : ∃ E, Hb.putE T (Hb.qe q) (Hb.qn q) = E := ⟨_, rfl⟩
      obtain ⟨N, hN⟩ : ∃ N, Hb.putN T (Hb.qe q) (Hb.qn q) = N := ⟨_, rfl⟩
      obtain ⟨T2, hTT⟩ : ∃ T2, Hb.into T q = T2 := ⟨_, rfl⟩
      rw [hE] at hE1 hQ hfr
      rw [hN] at hN1 hQ hfr
      rw [hTT] at hT2 hQ hfr
      have HQ := Lib.hid hQ
      have HFR := Lib.hid hfr
      clear hQ hfr hE hN hTT hq
      go_wp2_with (first
        | (go_at_call 133; refine (HQ.out _).mono ?_; rintro e w1 ⟨rfl, rfl⟩))
      go_round
      case rel =>
        obtain ⟨h1, h2, h3, h4, h5, h6⟩ := HR.out
        have hfr := HFR.out
        rw [hfr] at h3 h4
        simp only at h3 h4
        obtain ⟨f1, hf1⟩ : ∃ f1, (Hb.from_ 3 T2 b).1 = f1 := ⟨_, rfl⟩
        obtain ⟨f2, hf2⟩ : ∃ f2, (Hb.from_ 3 T2 b).2 = f2 := ⟨_, rfl⟩
        rw [hf1] at h3
        rw [hf2] at h4
        refine ⟨3, X + E * 8, Y + N * 8, T2, 2, by omega, hT2, by omega, by omega, ?_, ?_, rfl, by go_num, by show _ = _; decide, by omega, by omega, by rw [hf1]; omega, by rw [hf2]; omega, h5, h6⟩
        · have e := or_add 4 X (E * 8) h1 (by omega) (by omega) (by omega)
          simpa using congrArg (Value.int .i64) e
        · have e := or_add 4 Y (N * 8) h2 (by omega) (by omega) (by omega)
          simpa using congrArg (Value.int .i64) e
      case measure => simp [intOf] <;> omega
    · obtain rfl : L = 4 := by have := HL.out; omega
      obtain ⟨q, hq⟩ : ∃ q, b / 256 % 4 = q := ⟨_, rfl⟩
      have hq4 : q < 4 := by omega
      have hand : bits .and .i64 ((b : Int) / 256) 3 = (q : Int) := by rw [show ((b : Int) / 256) = ((b / 256 : Nat) : Int) from by omega, and3 _ (by omega), hq]
      have hE1 := Hb.putE_le (t := T) (Hb.qe_le q) (Hb.qn_le q)
      have hN1 := Hb.putN_le (t := T) (Hb.qe_le q) (Hb.qn_le q)
      have hT2 := Hb.into_lt (t := T) (q := q) hT
      have hQ := quarterAt_any T q hT hq4
      have hfr : Hb.from_ 5 T b = (Hb.putE T (Hb.qe q) (Hb.qn q) * 16 + (Hb.from_ 4 (Hb.into T q) b).1, Hb.putN T (Hb.qe q) (Hb.qn q) * 16 + (Hb.from_ 4 (Hb.into T q) b).2) := by
        rw [← hq]
        rfl
      obtain ⟨E, hE⟩ : ∃ E, Hb.putE T (Hb.qe q) (Hb.qn q) = E := ⟨_, rfl⟩
      obtain ⟨N, hN⟩ : ∃ N, Hb.putN T (Hb.qe q) (Hb.qn q) = N := ⟨_, rfl⟩
      obtain ⟨T2, hTT⟩ : ∃ T2, Hb.into T q = T2 := ⟨_, rfl⟩
      rw [hE] at hE1 hQ hfr
      rw [hN] at hN1 hQ hfr
      rw [hTT] at hT2 hQ hfr
      have HQ := Lib.hid hQ
      have HFR := Lib.hid hfr
      clear hQ hfr hE hN hTT hq
      go_wp2_with (first
        | (go_at_call 133; refine (HQ.out _).mono ?_; rintro e w1 ⟨rfl, rfl⟩))
      go_round
      case rel =>
        obtain ⟨h1, h2, h3, h4, h5, h6⟩ := HR.out
        have hfr := HFR.out
        rw [hfr] at h3 h4
        simp only at h3 h4
        obtain ⟨f1, hf1⟩ : ∃ f1, (Hb.from_ 4 T2 b).1 = f1 := ⟨_, rfl⟩
        obtain ⟨f2, hf2⟩ : ∃ f2, (Hb.from_ 4 T2 b).2 = f2 := ⟨_, rfl⟩
        rw [hf1] at h3
        rw [hf2] at h4
        refine ⟨4, X + E * 16, Y + N * 16, T2, 3, by omega, hT2, by omega, by omega, ?_, ?_, rfl, by go_num, by show _ = _; decide, by omega, by omega, by rw [hf1]; omega, by rw [hf2]; omega, h5, h6⟩
        · have e := or_add 5 X (E * 16) h1 (by omega) (by omega) (by omega)
          simpa using congrArg (Value.int .i64) e
        · have e := or_add 5 Y (N * 16) h2 (by omega) (by omega) (by omega)
          simpa using congrArg (Value.int .i64) e
      case measure => simp [intOf] <;> omega

end Go.Proofs.YtccdfndnjjjgfaaGreatDoor
