/-
  Contracts of the program's NumberOf at a cell of a square (printed by gen_hilbi.py).
-/
import Derived.Test.YtccdfndnjjjgfaaGreatDoorHilbImpl
namespace Go.Proofs.YtccdfndnjjjgfaaGreatDoor
open Go.RowKit

set_option maxHeartbeats 1600000 in
theorem cellOk_0 (x y : Nat) (b : Bool) (hb : Hid (decide (x < 1 ∧ y < 1) = b)) (w : World) : Calls Tryz.prog 134 #[.int .i64 0, .int .i64 x, .int .i64 y] w fun E w' => E = .returned (.bool b) ∧ w = w' := by
  have HO := Lib.hid (halvesOk_any 0)
  by_cases hx : x < 1
  · have i1 : (x : Int) < 1 := by omega
    by_cases hy : y < 1
    · have i2 : (y : Int) < 1 := by omega
      obtain rfl : true = b := by rw [← hb.out, decide_eq_true ⟨hx, hy⟩]
      clear hx hy
      go_enter Tryz.func134, Tryz.ntmps134
      go_wp2_with (first
        | (go_at_call 132; refine (HO.out _).mono ?_; rintro e w1 ⟨rfl, rfl⟩))
      go_ret
      exact ⟨rfl, rfl⟩
    · have i2 : ¬ (y : Int) < 1 := by omega
      obtain rfl : false = b := by rw [← hb.out, decide_eq_false (fun h => hy h.2)]
      clear hx hy
      go_enter Tryz.func134, Tryz.ntmps134
      go_wp2_with (first
        | (go_at_call 132; refine (HO.out _).mono ?_; rintro e w1 ⟨rfl, rfl⟩))
      go_ret
      exact ⟨ret_boolD (by omega), rfl⟩
  · have i1 : ¬ (x : Int) < 1 := by omega
    obtain rfl : false = b := by rw [← hb.out, decide_eq_false (fun h => hx h.1)]
    clear hx
    go_enter Tryz.func134, Tryz.ntmps134
    go_wp2_with (first
      | (go_at_call 132; refine (HO.out _).mono ?_; rintro e w1 ⟨rfl, rfl⟩))
    go_ret
    exact ⟨rfl, rfl⟩
set_option maxRecDepth 100000 in
set_option maxHeartbeats 3200000 in
theorem numberOf_0 (x y : Nat) (hx : x < 1) (hy : y < 1) (w : World) : Calls Tryz.prog 101 #[.int .i64 0, .int .i64 x, .int .i64 y] w fun E w' => E = .returned (.int .i64 (Hb.num 0 x y : Nat)) ∧ Below w.heap.size w w' := by
  have HO := Lib.hid (cellOk_0 x y true (by show _ = _; rw [decide_eq_true ⟨hx, hy⟩]))
  have hf := Hb.numFrom_num 0 0 x y (by decide)
  have h0 : Hb.turned 0 (2 ^ 0) (x % 2 ^ 0, y % 2 ^ 0) = (x % 2 ^ 0, y % 2 ^ 0) := rfl
  rw [h0, show x % 2 ^ 0 = x from Nat.mod_eq_of_lt hx, show y % 2 ^ 0 = y from Nat.mod_eq_of_lt hy] at hf
  have hlt := Hb.num_lt 0 x y
  obtain ⟨R, hR⟩ : ∃ R, Hb.num 0 x y = R := ⟨_, rfl⟩
  rw [hR] at hf hlt ⊢
  have hR4 : R < 1 := hlt
  have HF : Hid (Hb.numFrom 0 0 x y = R) := hf
  clear hf hlt hR h0
  go_enter Tryz.func101, Tryz.ntmps101
  go_wp2_with (first
    | (go_at_call 134; refine (HO.out _).mono ?_; rintro e w1 ⟨rfl, rfl⟩))
  go_loopw [7, 8, 9] (fun n q l wr => ∃ (lv X T : Nat) (L : Int), lv ≤ 0 ∧ T < 4 ∧ X < 1 ∧ n = .int .i64 X ∧ q = .func (.func 135) #[.int .i64 T] #[] ∧ l = .int .i64 L ∧ Hid (L = (lv : Int) - 1) ∧ Hid (X * 4 ^ lv + Hb.numFrom lv T x y = R) ∧ Below w.heap.size w wr) (fun _ _ l _ => (intOf l + 1).toNat)
  case atStart => exact ⟨0, 0, 0, -1, by decide, by decide, by decide, rfl, rfl, rfl, by show _ = _; decide, by show _ = _; rw [HF.out]; simp, Below.refl _ _⟩
  case round =>
    obtain ⟨lv, X, T, L, hlv, hT, hX, rfl, rfl, rfl, HL, HR, hbr⟩ := hrel
    obtain rfl : lv = 0 := by omega
    · obtain rfl : L = -1 := by have := HL.out; omega
      go_wp2_with fail
      go_ret
      refine ⟨ret_intN ?_, hbr⟩
      have h := HR.out
      simp [Hb.numFrom] at h
      omega
set_option maxHeartbeats 1600000 in
theorem cellOk_1 (x y : Nat) (b : Bool) (hb : Hid (decide (x < 2 ∧ y < 2) = b)) (w : World) : Calls Tryz.prog 134 #[.int .i64 1, .int .i64 x, .int .i64 y] w fun E w' => E = .returned (.bool b) ∧ w = w' := by
  have HO := Lib.hid (halvesOk_any 1)
  by_cases hx : x < 2
  · have i1 : (x : Int) < 2 := by omega
    by_cases hy : y < 2
    · have i2 : (y : Int) < 2 := by omega
      obtain rfl : true = b := by rw [← hb.out, decide_eq_true ⟨hx, hy⟩]
      clear hx hy
      go_enter Tryz.func134, Tryz.ntmps134
      go_wp2_with (first
        | (go_at_call 132; refine (HO.out _).mono ?_; rintro e w1 ⟨rfl, rfl⟩))
      go_ret
      exact ⟨rfl, rfl⟩
    · have i2 : ¬ (y : Int) < 2 := by omega
      obtain rfl : false = b := by rw [← hb.out, decide_eq_false (fun h => hy h.2)]
      clear hx hy
      go_enter Tryz.func134, Tryz.ntmps134
      go_wp2_with (first
        | (go_at_call 132; refine (HO.out _).mono ?_; rintro e w1 ⟨rfl, rfl⟩))
      go_ret
      exact ⟨ret_boolD (by omega), rfl⟩
  · have i1 : ¬ (x : Int) < 2 := by omega
    obtain rfl : false = b := by rw [← hb.out, decide_eq_false (fun h => hx h.1)]
    clear hx
    go_enter Tryz.func134, Tryz.ntmps134
    go_wp2_with (first
      | (go_at_call 132; refine (HO.out _).mono ?_; rintro e w1 ⟨rfl, rfl⟩))
    go_ret
    exact ⟨rfl, rfl⟩
set_option maxRecDepth 100000 in
set_option maxHeartbeats 3200000 in
theorem numberOf_1 (x y : Nat) (hx : x < 2) (hy : y < 2) (w : World) : Calls Tryz.prog 101 #[.int .i64 1, .int .i64 x, .int .i64 y] w fun E w' => E = .returned (.int .i64 (Hb.num 1 x y : Nat)) ∧ Below w.heap.size w w' := by
  have HO := Lib.hid (cellOk_1 x y true (by show _ = _; rw [decide_eq_true ⟨hx, hy⟩]))
  have hf := Hb.numFrom_num 1 0 x y (by decide)
  have h0 : Hb.turned 0 (2 ^ 1) (x % 2 ^ 1, y % 2 ^ 1) = (x % 2 ^ 1, y % 2 ^ 1) := rfl
  rw [h0, show x % 2 ^ 1 = x from Nat.mod_eq_of_lt hx, show y % 2 ^ 1 = y from Nat.mod_eq_of_lt hy] at hf
  have hlt := Hb.num_lt 1 x y
  obtain ⟨R, hR⟩ : ∃ R, Hb.num 1 x y = R := ⟨_, rfl⟩
  rw [hR] at hf hlt ⊢
  have hR4 : R < 4 := hlt
  have HF : Hid (Hb.numFrom 1 0 x y = R) := hf
  clear hf hlt hR h0
  go_enter Tryz.func101, Tryz.ntmps101
  go_wp2_with (first
    | (go_at_call 134; refine (HO.out _).mono ?_; rintro e w1 ⟨rfl, rfl⟩))
  go_loopw [7, 8, 9] (fun n q l wr => ∃ (lv X T : Nat) (L : Int), lv ≤ 1 ∧ T < 4 ∧ X < 4 ∧ n = .int .i64 X ∧ q = .func (.func 135) #[.int .i64 T] #[] ∧ l = .int .i64 L ∧ Hid (L = (lv : Int) - 1) ∧ Hid (X * 4 ^ lv + Hb.numFrom lv T x y = R) ∧ Below w.heap.size w wr) (fun _ _ l _ => (intOf l + 1).toNat)
  case atStart => exact ⟨1, 0, 0, 0, by decide, by decide, by decide, rfl, rfl, rfl, by show _ = _; decide, by show _ = _; rw [HF.out]; simp, Below.refl _ _⟩
  case round =>
    obtain ⟨lv, X, T, L, hlv, hT, hX, rfl, rfl, rfl, HL, HR, hbr⟩ := hrel
    obtain rfl | rfl : lv = 0 ∨ lv = 1 := by omega
    · obtain rfl : L = -1 := by have := HL.out; omega
      go_wp2_with fail
      go_ret
      refine ⟨ret_intN ?_, hbr⟩
      have h := HR.out
      simp [Hb.numFrom] at h
      omega
    · obtain rfl : L = 0 := by have := HL.out; omega
      obtain ⟨p, hp⟩ : ∃ p, x / 1 % 2 = p := ⟨_, rfl⟩
      obtain ⟨r, hr⟩ : ∃ r, y / 1 % 2 = r := ⟨_, rfl⟩
      have hp1 : p ≤ 1 := by omega
      have hr1 : r ≤ 1 := by omega
      have hand : bits .and .i64 (x : Int) 1 = (p : Int) := by rw [show (x : Int) = ((x / 1 : Nat) : Int) from by omega, and1 _ (by omega), hp]
      have handy : bits .and .i64 (y : Int) 1 = (r : Int) := by rw [show (y : Int) = ((y / 1 : Nat) : Int) from by omega, and1 _ (by omega), hr]
      have hQ := digitAt_any T p r hT hp1 hr1
      have hq4 := Hb.quart_lt (e := Hb.putE T p r) (Hb.putN_le (t := T) hp1 hr1)
      have hfr : Hb.numFrom 1 T x y = Hb.quart (Hb.putE T p r) (Hb.putN T p r) * 1 + Hb.numFrom 0 (Hb.into T (Hb.quart (Hb.putE T p r) (Hb.putN T p r))) x y := by
        rw [← hp, ← hr]
        rfl
      have hT2 := Hb.into_lt (t := T) (q := Hb.quart (Hb.putE T p r) (Hb.putN T p r)) hT
      obtain ⟨q, hq⟩ : ∃ q, Hb.quart (Hb.putE T p r) (Hb.putN T p r) = q := ⟨_, rfl⟩
      rw [hq] at hq4 hQ hfr hT2
      obtain ⟨T2, hTT⟩ : ∃ T2, Hb.into T q = T2 := ⟨_, rfl⟩
      rw [hTT] at hT2 hQ hfr
      have HQ := Lib.hid hQ
      have HFR := Lib.hid hfr
      clear hQ hfr hq hTT hp hr
      go_wp2_with fail
      go_region_held3 (fun _ => True) (first | exact True.intro) (first | (go_at_call 135; refine (HQ.out _).mono ?_; rintro e w1 ⟨rfl, rfl⟩))
      go_wp2
      go_roundw
      case rel =>
        have h1 := HR.out
        rw [HFR.out] at h1
        obtain ⟨f1, hf1⟩ : ∃ f1, Hb.numFrom 0 T2 x y = f1 := ⟨_, rfl⟩
        rw [hf1] at h1
        refine ⟨0, X * 4 + q, T2, -1, by omega, hT2, by omega, ?_, rfl, by go_num, by show _ = _; decide, by show _ = _; rw [hf1]; omega, below_drewN' hbr _⟩
        have e := or_add 2 (X * 4) q (by omega) (by omega) (by omega) (by omega)
        simpa using congrArg (Value.int .i64) e
      case measure => simp [intOf] <;> omega
set_option maxHeartbeats 1600000 in
theorem cellOk_2 (x y : Nat) (b : Bool) (hb : Hid (decide (x < 4 ∧ y < 4) = b)) (w : World) : Calls Tryz.prog 134 #[.int .i64 2, .int .i64 x, .int .i64 y] w fun E w' => E = .returned (.bool b) ∧ w = w' := by
  have HO := Lib.hid (halvesOk_any 2)
  by_cases hx : x < 4
  · have i1 : (x : Int) < 4 := by omega
    by_cases hy : y < 4
    · have i2 : (y : Int) < 4 := by omega
      obtain rfl : true = b := by rw [← hb.out, decide_eq_true ⟨hx, hy⟩]
      clear hx hy
      go_enter Tryz.func134, Tryz.ntmps134
      go_wp2_with (first
        | (go_at_call 132; refine (HO.out _).mono ?_; rintro e w1 ⟨rfl, rfl⟩))
      go_ret
      exact ⟨rfl, rfl⟩
    · have i2 : ¬ (y : Int) < 4 := by omega
      obtain rfl : false = b := by rw [← hb.out, decide_eq_false (fun h => hy h.2)]
      clear hx hy
      go_enter Tryz.func134, Tryz.ntmps134
      go_wp2_with (first
        | (go_at_call 132; refine (HO.out _).mono ?_; rintro e w1 ⟨rfl, rfl⟩))
      go_ret
      exact ⟨ret_boolD (by omega), rfl⟩
  · have i1 : ¬ (x : Int) < 4 := by omega
    obtain rfl : false = b := by rw [← hb.out, decide_eq_false (fun h => hx h.1)]
    clear hx
    go_enter Tryz.func134, Tryz.ntmps134
    go_wp2_with (first
      | (go_at_call 132; refine (HO.out _).mono ?_; rintro e w1 ⟨rfl, rfl⟩))
    go_ret
    exact ⟨rfl, rfl⟩
set_option maxRecDepth 100000 in
set_option maxHeartbeats 3200000 in
theorem numberOf_2 (x y : Nat) (hx : x < 4) (hy : y < 4) (w : World) : Calls Tryz.prog 101 #[.int .i64 2, .int .i64 x, .int .i64 y] w fun E w' => E = .returned (.int .i64 (Hb.num 2 x y : Nat)) ∧ Below w.heap.size w w' := by
  have HO := Lib.hid (cellOk_2 x y true (by show _ = _; rw [decide_eq_true ⟨hx, hy⟩]))
  have hf := Hb.numFrom_num 2 0 x y (by decide)
  have h0 : Hb.turned 0 (2 ^ 2) (x % 2 ^ 2, y % 2 ^ 2) = (x % 2 ^ 2, y % 2 ^ 2) := rfl
  rw [h0, show x % 2 ^ 2 = x from Nat.mod_eq_of_lt hx, show y % 2 ^ 2 = y from Nat.mod_eq_of_lt hy] at hf
  have hlt := Hb.num_lt 2 x y
  obtain ⟨R, hR⟩ : ∃ R, Hb.num 2 x y = R := ⟨_, rfl⟩
  rw [hR] at hf hlt ⊢
  have hR4 : R < 16 := hlt
  have HF : Hid (Hb.numFrom 2 0 x y = R) := hf
  clear hf hlt hR h0
  go_enter Tryz.func101, Tryz.ntmps101
  go_wp2_with (first
    | (go_at_call 134; refine (HO.out _).mono ?_; rintro e w1 ⟨rfl, rfl⟩))
  go_loopw [7, 8, 9] (fun n q l wr => ∃ (lv X T : Nat) (L : Int), lv ≤ 2 ∧ T < 4 ∧ X < 16 ∧ n = .int .i64 X ∧ q = .func (.func 135) #[.int .i64 T] #[] ∧ l = .int .i64 L ∧ Hid (L = (lv : Int) - 1) ∧ Hid (X * 4 ^ lv + Hb.numFrom lv T x y = R) ∧ Below w.heap.size w wr) (fun _ _ l _ => (intOf l + 1).toNat)
  case atStart => exact ⟨2, 0, 0, 1, by decide, by decide, by decide, rfl, rfl, rfl, by show _ = _; decide, by show _ = _; rw [HF.out]; simp, Below.refl _ _⟩
  case round =>
    obtain ⟨lv, X, T, L, hlv, hT, hX, rfl, rfl, rfl, HL, HR, hbr⟩ := hrel
    obtain rfl | rfl | rfl : lv = 0 ∨ lv = 1 ∨ lv = 2 := by omega
    · obtain rfl : L = -1 := by have := HL.out; omega
      go_wp2_with fail
      go_ret
      refine ⟨ret_intN ?_, hbr⟩
      have h := HR.out
      simp [Hb.numFrom] at h
      omega
    · obtain rfl : L = 0 := by have := HL.out; omega
      obtain ⟨p, hp⟩ : ∃ p, x / 1 % 2 = p := ⟨_, rfl⟩
      obtain ⟨r, hr⟩ : ∃ r, y / 1 % 2 = r := ⟨_, rfl⟩
      have hp1 : p ≤ 1 := by omega
      have hr1 : r ≤ 1 := by omega
      have hand : bits .and .i64 (x : Int) 1 = (p : Int) := by rw [show (x : Int) = ((x / 1 : Nat) : Int) from by omega, and1 _ (by omega), hp]
      have handy : bits .and .i64 (y : Int) 1 = (r : Int) := by rw [show (y : Int) = ((y / 1 : Nat) : Int) from by omega, and1 _ (by omega), hr]
      have hQ := digitAt_any T p r hT hp1 hr1
      have hq4 := Hb.quart_lt (e := Hb.putE T p r) (Hb.putN_le (t := T) hp1 hr1)
      have hfr : Hb.numFrom 1 T x y = Hb.quart (Hb.putE T p r) (Hb.putN T p r) * 1 + Hb.numFrom 0 (Hb.into T (Hb.quart (Hb.putE T p r) (Hb.putN T p r))) x y := by
        rw [← hp, ← hr]
        rfl
      have hT2 := Hb.into_lt (t := T) (q := Hb.quart (Hb.putE T p r) (Hb.putN T p r)) hT
      obtain ⟨q, hq⟩ : ∃ q, Hb.quart (Hb.putE T p r) (Hb.putN T p r) = q := ⟨_, rfl⟩
      rw [hq] at hq4 hQ hfr hT2
      obtain ⟨T2, hTT⟩ : ∃ T2, Hb.into T q = T2 := ⟨_, rfl⟩
      rw [hTT] at hT2 hQ hfr
      have HQ := Lib.hid hQ
      have HFR := Lib.hid hfr
      clear hQ hfr hq hTT hp hr
      go_wp2_with fail
      go_region_held3 (fun _ => True) (first | exact True.intro) (first | (go_at_call 135; refine (HQ.out _).mono ?_; rintro e w1 ⟨rfl, rfl⟩))
      go_wp2
      go_roundw
      case rel =>
        have h1 := HR.out
        rw [HFR.out] at h1
        obtain ⟨f1, hf1⟩ : ∃ f1, Hb.numFrom 0 T2 x y = f1 := ⟨_, rfl⟩
        rw [hf1] at h1
        refine ⟨0, X * 4 + q, T2, -1, by omega, hT2, by omega, ?_, rfl, by go_num, by show _ = _; decide, by show _ = _; rw [hf1]; omega, below_drewN' hbr _⟩
        have e := or_add 2 (X * 4) q (by omega) (by omega) (by omega) (by omega)
        simpa using congrArg (Value.int .i64) e
      case measure => simp [intOf] <;> omega
    · obtain rfl : L = 1 := by have := HL.out; omega
      obtain ⟨p, hp⟩ : ∃ p, x / 2 % 2 = p := ⟨_, rfl⟩
      obtain ⟨r, hr⟩ : ∃ r, y / 2 % 2 = r := ⟨_, rfl⟩
      have hp1 : p ≤ 1 := by omega
      have hr1 : r ≤ 1 := by omega
      have hand : bits .and .i64 ((x : Int) / 2) 1 = (p : Int) := by rw [show ((x : Int) / 2) = ((x / 2 : Nat) : Int) from by omega, and1 _ (by omega), hp]
      have handy : bits .and .i64 ((y : Int) / 2) 1 = (r : Int) := by rw [show ((y : Int) / 2) = ((y / 2 : Nat) : Int) from by omega, and1 _ (by omega), hr]
      have hQ := digitAt_any T p r hT hp1 hr1
      have hq4 := Hb.quart_lt (e := Hb.putE T p r) (Hb.putN_le (t := T) hp1 hr1)
      have hfr : Hb.numFrom 2 T x y = Hb.quart (Hb.putE T p r) (Hb.putN T p r) * 4 + Hb.numFrom 1 (Hb.into T (Hb.quart (Hb.putE T p r) (Hb.putN T p r))) x y := by
        rw [← hp, ← hr]
        rfl
      have hT2 := Hb.into_lt (t := T) (q := Hb.quart (Hb.putE T p r) (Hb.putN T p r)) hT
      obtain ⟨q, hq⟩ : ∃ q, Hb.quart (Hb.putE T p r) (Hb.putN T p r) = q := ⟨_, rfl⟩
      rw [hq] at hq4 hQ hfr hT2
      obtain ⟨T2, hTT⟩ : ∃ T2, Hb.into T q = T2 := ⟨_, rfl⟩
      rw [hTT] at hT2 hQ hfr
      have HQ := Lib.hid hQ
      have HFR := Lib.hid hfr
      clear hQ hfr hq hTT hp hr
      go_wp2_with fail
      go_region_held3 (fun _ => True) (first | exact True.intro) (first | (go_at_call 135; refine (HQ.out _).mono ?_; rintro e w1 ⟨rfl, rfl⟩))
      go_wp2
      go_roundw
      case rel =>
        have h1 := HR.out
        rw [HFR.out] at h1
        obtain ⟨f1, hf1⟩ : ∃ f1, Hb.numFrom 1 T2 x y = f1 := ⟨_, rfl⟩
        rw [hf1] at h1
        refine ⟨1, X * 4 + q, T2, 0, by omega, hT2, by omega, ?_, rfl, by go_num, by show _ = _; decide, by show _ = _; rw [hf1]; omega, below_drewN' hbr _⟩
        have e := or_add 2 (X * 4) q (by omega) (by omega) (by omega) (by omega)
        simpa using congrArg (Value.int .i64) e
      case measure => simp [intOf] <;> omega
set_option maxHeartbeats 1600000 in
theorem cellOk_3 (x y : Nat) (b : Bool) (hb : Hid (decide (x < 8 ∧ y < 8) = b)) (w : World) : Calls Tryz.prog 134 #[.int .i64 3, .int .i64 x, .int .i64 y] w fun E w' => E = .returned (.bool b) ∧ w = w' := by
  have HO := Lib.hid (halvesOk_any 3)
  by_cases hx : x < 8
  · have i1 : (x : Int) < 8 := by omega
    by_cases hy : y < 8
    · have i2 : (y : Int) < 8 := by omega
      obtain rfl : true = b := by rw [← hb.out, decide_eq_true ⟨hx, hy⟩]
      clear hx hy
      go_enter Tryz.func134, Tryz.ntmps134
      go_wp2_with (first
        | (go_at_call 132; refine (HO.out _).mono ?_; rintro e w1 ⟨rfl, rfl⟩))
      go_ret
      exact ⟨rfl, rfl⟩
    · have i2 : ¬ (y : Int) < 8 := by omega
      obtain rfl : false = b := by rw [← hb.out, decide_eq_false (fun h => hy h.2)]
      clear hx hy
      go_enter Tryz.func134, Tryz.ntmps134
      go_wp2_with (first
        | (go_at_call 132; refine (HO.out _).mono ?_; rintro e w1 ⟨rfl, rfl⟩))
      go_ret
      exact ⟨ret_boolD (by omega), rfl⟩
  · have i1 : ¬ (x : Int) < 8 := by omega
    obtain rfl : false = b := by rw [← hb.out, decide_eq_false (fun h => hx h.1)]
    clear hx
    go_enter Tryz.func134, Tryz.ntmps134
    go_wp2_with (first
      | (go_at_call 132; refine (HO.out _).mono ?_; rintro e w1 ⟨rfl, rfl⟩))
    go_ret
    exact ⟨rfl, rfl⟩
set_option maxRecDepth 100000 in
set_option maxHeartbeats 3200000 in
theorem numberOf_3 (x y : Nat) (hx : x < 8) (hy : y < 8) (w : World) : Calls Tryz.prog 101 #[.int .i64 3, .int .i64 x, .int .i64 y] w fun E w' => E = .returned (.int .i64 (Hb.num 3 x y : Nat)) ∧ Below w.heap.size w w' := by
  have HO := Lib.hid (cellOk_3 x y true (by show _ = _; rw [decide_eq_true ⟨hx, hy⟩]))
  have hf := Hb.numFrom_num 3 0 x y (by decide)
  have h0 : Hb.turned 0 (2 ^ 3) (x % 2 ^ 3, y % 2 ^ 3) = (x % 2 ^ 3, y % 2 ^ 3) := rfl
  rw [h0, show x % 2 ^ 3 = x from Nat.mod_eq_of_lt hx, show y % 2 ^ 3 = y from Nat.mod_eq_of_lt hy] at hf
  have hlt := Hb.num_lt 3 x y
  obtain ⟨R, hR⟩ : ∃ R, Hb.num 3 x y = R := ⟨_, rfl⟩
  rw [hR] at hf hlt ⊢
  have hR4 : R < 64 := hlt
  have HF : Hid (Hb.numFrom 3 0 x y = R) := hf
  clear hf hlt hR h0
  go_enter Tryz.func101, Tryz.ntmps101
  go_wp2_with (first
    | (go_at_call 134; refine (HO.out _).mono ?_; rintro e w1 ⟨rfl, rfl⟩))
  go_loopw [7, 8, 9] (fun n q l wr => ∃ (lv X T : Nat) (L : Int), lv ≤ 3 ∧ T < 4 ∧ X < 64 ∧ n = .int .i64 X ∧ q = .func (.func 135) #[.int .i64 T] #[] ∧ l = .int .i64 L ∧ Hid (L = (lv : Int) - 1) ∧ Hid (X * 4 ^ lv + Hb.numFrom lv T x y = R) ∧ Below w.heap.size w wr) (fun _ _ l _ => (intOf l + 1).toNat)
  case atStart => exact ⟨3, 0, 0, 2, by decide, by decide, by decide, rfl, rfl, rfl, by show _ = _; decide, by show _ = _; rw [HF.out]; simp, Below.refl _ _⟩
  case round =>
    obtain ⟨lv, X, T, L, hlv, hT, hX, rfl, rfl, rfl, HL, HR, hbr⟩ := hrel
    obtain rfl | rfl | rfl | rfl : lv = 0 ∨ lv = 1 ∨ lv = 2 ∨ lv = 3 := by omega
    · obtain rfl : L = -1 := by have := HL.out; omega
      go_wp2_with fail
      go_ret
      refine ⟨ret_intN ?_, hbr⟩
      have h := HR.out
      simp [Hb.numFrom] at h
      omega
    · obtain rfl : L = 0 := by have := HL.out; omega
      obtain ⟨p, hp⟩ : ∃ p, x / 1 % 2 = p := ⟨_, rfl⟩
      obtain ⟨r, hr⟩ : ∃ r, y / 1 % 2 = r := ⟨_, rfl⟩
      have hp1 : p ≤ 1 := by omega
      have hr1 : r ≤ 1 := by omega
      have hand : bits .and .i64 (x : Int) 1 = (p : Int) := by rw [show (x : Int) = ((x / 1 : Nat) : Int) from by omega, and1 _ (by omega), hp]
      have handy : bits .and .i64 (y : Int) 1 = (r : Int) := by rw [show (y : Int) = ((y / 1 : Nat) : Int) from by omega, and1 _ (by omega), hr]
      have hQ := digitAt_any T p r hT hp1 hr1
      have hq4 := Hb.quart_lt (e := Hb.putE T p r) (Hb.putN_le (t := T) hp1 hr1)
      have hfr : Hb.numFrom 1 T x y = Hb.quart (Hb.putE T p r) (Hb.putN T p r) * 1 + Hb.numFrom 0 (Hb.into T (Hb.quart (Hb.putE T p r) (Hb.putN T p r))) x y := by
        rw [← hp, ← hr]
        rfl
      have hT2 := Hb.into_lt (t := T) (q := Hb.quart (Hb.putE T p r) (Hb.putN T p r)) hT
      obtain ⟨q, hq⟩ : ∃ q, Hb.quart (Hb.putE T p r) (Hb.putN T p r) = q := ⟨_, rfl⟩
      rw [hq] at hq4 hQ hfr hT2
      obtain ⟨T2, hTT⟩ : ∃ T2, Hb.into T q = T2 := ⟨_, rfl⟩
      rw [hTT] at hT2 hQ hfr
      have HQ := Lib.hid hQ
      have HFR := Lib.hid hfr
      clear hQ hfr hq hTT hp hr
      go_wp2_with fail
      go_region_held3 (fun _ => True) (first | exact True.intro) (first | (go_at_call 135; refine (HQ.out _).mono ?_; rintro e w1 ⟨rfl, rfl⟩))
      go_wp2
      go_roundw
      case rel =>
        have h1 := HR.out
        rw [HFR.out] at h1
        obtain ⟨f1, hf1⟩ : ∃ f1, Hb.numFrom 0 T2 x y = f1 := ⟨_, rfl⟩
        rw [hf1] at h1
        refine ⟨0, X * 4 + q, T2, -1, by omega, hT2, by omega, ?_, rfl, by go_num, by show _ = _; decide, by show _ = _; rw [hf1]; omega, below_drewN' hbr _⟩
        have e := or_add 2 (X * 4) q (by omega) (by omega) (by omega) (by omega)
        simpa using congrArg (Value.int .i64) e
      case measure => simp [intOf] <;> omega
    · obtain rfl : L = 1 := by have := HL.out; omega
      obtain ⟨p, hp⟩ : ∃ p, x / 2 % 2 = p := ⟨_, rfl⟩
      obtain ⟨r, hr⟩ : ∃ r, y / 2 % 2 = r := ⟨_, rfl⟩
      have hp1 : p ≤ 1 := by omega
      have hr1 : r ≤ 1 := by omega
      have hand : bits .and .i64 ((x : Int) / 2) 1 = (p : Int) := by rw [show ((x : Int) / 2) = ((x / 2 : Nat) : Int) from by omega, and1 _ (by omega), hp]
      have handy : bits .and .i64 ((y : Int) / 2) 1 = (r : Int) := by rw [show ((y : Int) / 2) = ((y / 2 : Nat) : Int) from by omega, and1 _ (by omega), hr]
      have hQ := digitAt_any T p r hT hp1 hr1
      have hq4 := Hb.quart_lt (e := Hb.putE T p r) (Hb.putN_le (t := T) hp1 hr1)
      have hfr : Hb.numFrom 2 T x y = Hb.quart (Hb.putE T p r) (Hb.putN T p r) * 4 + Hb.numFrom 1 (Hb.into T (Hb.quart (Hb.putE T p r) (Hb.putN T p r))) x y := by
        rw [← hp, ← hr]
        rfl
      have hT2 := Hb.into_lt (t := T) (q := Hb.quart (Hb.putE T p r) (Hb.putN T p r)) hT
      obtain ⟨q, hq⟩ : ∃ q, Hb.quart (Hb.putE T p r) (Hb.putN T p r) = q := ⟨_, rfl⟩
      rw [hq] at hq4 hQ hfr hT2
      obtain ⟨T2, hTT⟩ : ∃ T2, Hb.into T q = T2 := ⟨_, rfl⟩
      rw [hTT] at hT2 hQ hfr
      have HQ := Lib.hid hQ
      have HFR := Lib.hid hfr
      clear hQ hfr hq hTT hp hr
      go_wp2_with fail
      go_region_held3 (fun _ => True) (first | exact True.intro) (first | (go_at_call 135; refine (HQ.out _).mono ?_; rintro e w1 ⟨rfl, rfl⟩))
      go_wp2
      go_roundw
      case rel =>
        have h1 := HR.out
        rw [HFR.out] at h1
        obtain ⟨f1, hf1⟩ : ∃ f1, Hb.numFrom 1 T2 x y = f1 := ⟨_, rfl⟩
        rw [hf1] at h1
        refine ⟨1, X * 4 + q, T2, 0, by omega, hT2, by omega, ?_, rfl, by go_num, by show _ = _; decide, by show _ = _; rw [hf1]; omega, below_drewN' hbr _⟩
        have e := or_add 2 (X * 4) q (by omega) (by omega) (by omega) (by omega)
        simpa using congrArg (Value.int .i64) e
      case measure => simp [intOf] <;> omega
    · obtain rfl : L = 2 := by have := HL.out; omega
      obtain ⟨p, hp⟩ : ∃ p, x / 4 % 2 = p := ⟨_, rfl⟩
      obtain ⟨r, hr⟩ : ∃ r, y / 4 % 2 = r := ⟨_, rfl⟩
      have hp1 : p ≤ 1 := by omega
      have hr1 : r ≤ 1 := by omega
      have hand : bits .and .i64 ((x : Int) / 4) 1 = (p : Int) := by rw [show ((x : Int) / 4) = ((x / 4 : Nat) : Int) from by omega, and1 _ (by omega), hp]
      have handy : bits .and .i64 ((y : Int) / 4) 1 = (r : Int) := by rw [show ((y : Int) / 4) = ((y / 4 : Nat) : Int) from by omega, and1 _ (by omega), hr]
      have hQ := digitAt_any T p r hT hp1 hr1
      have hq4 := Hb.quart_lt (e := Hb.putE T p r) (Hb.putN_le (t := T) hp1 hr1)
      have hfr : Hb.numFrom 3 T x y = Hb.quart (Hb.putE T p r) (Hb.putN T p r) * 16 + Hb.numFrom 2 (Hb.into T (Hb.quart (Hb.putE T p r) (Hb.putN T p r))) x y := by
        rw [← hp, ← hr]
        rfl
      have hT2 := Hb.into_lt (t := T) (q := Hb.quart (Hb.putE T p r) (Hb.putN T p r)) hT
      obtain ⟨q, hq⟩ : ∃ q, Hb.quart (Hb.putE T p r) (Hb.putN T p r) = q := ⟨_, rfl⟩
      rw [hq] at hq4 hQ hfr hT2
      obtain ⟨T2, hTT⟩ : ∃ T2, Hb.into T q = T2 := ⟨_, rfl⟩
      rw [hTT] at hT2 hQ hfr
      have HQ := Lib.hid hQ
      have HFR := Lib.hid hfr
      clear hQ hfr hq hTT hp hr
      go_wp2_with fail
      go_region_held3 (fun _ => True) (first | exact True.intro) (first | (go_at_call 135; refine (HQ.out _).mono ?_; rintro e w1 ⟨rfl, rfl⟩))
      go_wp2
      go_roundw
      case rel =>
        have h1 := HR.out
        rw [HFR.out] at h1
        obtain ⟨f1, hf1⟩ : ∃ f1, Hb.numFrom 2 T2 x y = f1 := ⟨_, rfl⟩
        rw [hf1] at h1
        refine ⟨2, X * 4 + q, T2, 1, by omega, hT2, by omega, ?_, rfl, by go_num, by show _ = _; decide, by show _ = _; rw [hf1]; omega, below_drewN' hbr _⟩
        have e := or_add 2 (X * 4) q (by omega) (by omega) (by omega) (by omega)
        simpa using congrArg (Value.int .i64) e
      case measure => simp [intOf] <;> omega
set_option maxHeartbeats 1600000 in
theorem cellOk_4 (x y : Nat) (b : Bool) (hb : Hid (decide (x < 16 ∧ y < 16) = b)) (w : World) : Calls Tryz.prog 134 #[.int .i64 4, .int .i64 x, .int .i64 y] w fun E w' => E = .returned (.bool b) ∧ w = w' := by
  have HO := Lib.hid (halvesOk_any 4)
  by_cases hx : x < 16
  · have i1 : (x : Int) < 16 := by omega
    by_cases hy : y < 16
    · have i2 : (y : Int) < 16 := by omega
      obtain rfl : true = b := by rw [← hb.out, decide_eq_true ⟨hx, hy⟩]
      clear hx hy
      go_enter Tryz.func134, Tryz.ntmps134
      go_wp2_with (first
        | (go_at_call 132; refine (HO.out _).mono ?_; rintro e w1 ⟨rfl, rfl⟩))
      go_ret
      exact ⟨rfl, rfl⟩
    · have i2 : ¬ (y : Int) < 16 := by omega
      obtain rfl : false = b := by rw [← hb.out, decide_eq_false (fun h => hy h.2)]
      clear hx hy
      go_enter Tryz.func134, Tryz.ntmps134
      go_wp2_with (first
        | (go_at_call 132; refine (HO.out _).mono ?_; rintro e w1 ⟨rfl, rfl⟩))
      go_ret
      exact ⟨ret_boolD (by omega), rfl⟩
  · have i1 : ¬ (x : Int) < 16 := by omega
    obtain rfl : false = b := by rw [← hb.out, decide_eq_false (fun h => hx h.1)]
    clear hx
    go_enter Tryz.func134, Tryz.ntmps134
    go_wp2_with (first
      | (go_at_call 132; refine (HO.out _).mono ?_; rintro e w1 ⟨rfl, rfl⟩))
    go_ret
    exact ⟨rfl, rfl⟩
set_option maxRecDepth 100000 in
set_option maxHeartbeats 3200000 in
theorem numberOf_4 (x y : Nat) (hx : x < 16) (hy : y < 16) (w : World) : Calls Tryz.prog 101 #[.int .i64 4, .int .i64 x, .int .i64 y] w fun E w' => E = .returned (.int .i64 (Hb.num 4 x y : Nat)) ∧ Below w.heap.size w w' := by
  have HO := Lib.hid (cellOk_4 x y true (by show _ = _; rw [decide_eq_true ⟨hx, hy⟩]))
  have hf := Hb.numFrom_num 4 0 x y (by decide)
  have h0 : Hb.turned 0 (2 ^ 4) (x % 2 ^ 4, y % 2 ^ 4) = (x % 2 ^ 4, y % 2 ^ 4) := rfl
  rw [h0, show x % 2 ^ 4 = x from Nat.mod_eq_of_lt hx, show y % 2 ^ 4 = y from Nat.mod_eq_of_lt hy] at hf
  have hlt := Hb.num_lt 4 x y
  obtain ⟨R, hR⟩ : ∃ R, Hb.num 4 x y = R := ⟨_, rfl⟩
  rw [hR] at hf hlt ⊢
  have hR4 : R < 256 := hlt
  have HF : Hid (Hb.numFrom 4 0 x y = R) := hf
  clear hf hlt hR h0
  go_enter Tryz.func101, Tryz.ntmps101
  go_wp2_with (first
    | (go_at_call 134; refine (HO.out _).mono ?_; rintro e w1 ⟨rfl, rfl⟩))
  go_loopw [7, 8, 9] (fun n q l wr => ∃ (lv X T : Nat) (L : Int), lv ≤ 4 ∧ T < 4 ∧ X < 256 ∧ n = .int .i64 X ∧ q = .func (.func 135) #[.int .i64 T] #[] ∧ l = .int .i64 L ∧ Hid (L = (lv : Int) - 1) ∧ Hid (X * 4 ^ lv + Hb.numFrom lv T x y = R) ∧ Below w.heap.size w wr) (fun _ _ l _ => (intOf l + 1).toNat)
  case atStart => exact ⟨4, 0, 0, 3, by decide, by decide, by decide, rfl, rfl, rfl, by show _ = _; decide, by show _ = _; rw [HF.out]; simp, Below.refl _ _⟩
  case round =>
    obtain ⟨lv, X, T, L, hlv, hT, hX, rfl, rfl, rfl, HL, HR, hbr⟩ := hrel
    obtain rfl | rfl | rfl | rfl | rfl : lv = 0 ∨ lv = 1 ∨ lv = 2 ∨ lv = 3 ∨ lv = 4 := by omega
    · obtain rfl : L = -1 := by have := HL.out; omega
      go_wp2_with fail
      go_ret
      refine ⟨ret_intN ?_, hbr⟩
      have h := HR.out
      simp [Hb.numFrom] at h
      omega
    · obtain rfl : L = 0 := by have := HL.out; omega
      obtain ⟨p, hp⟩ : ∃ p, x / 1 % 2 = p := ⟨_, rfl⟩
      obtain ⟨r, hr⟩ : ∃ r, y / 1 % 2 = r := ⟨_, rfl⟩
      have hp1 : p ≤ 1 := by omega
      have hr1 : r ≤ 1 := by omega
      have hand : bits .and .i64 (x : Int) 1 = (p : Int) := by rw [show (x : Int) = ((x / 1 : Nat) : Int) from by omega, and1 _ (by omega), hp]
      have handy : bits .and .i64 (y : Int) 1 = (r : Int) := by rw [show (y : Int) = ((y / 1 : Nat) : Int) from by omega, and1 _ (by omega), hr]
      have hQ := digitAt_any T p r hT hp1 hr1
      have hq4 := Hb.quart_lt (e := Hb.putE T p r) (Hb.putN_le (t := T) hp1 hr1)
      have hfr : Hb.numFrom 1 T x y = Hb.quart (Hb.putE T p r) (Hb.putN T p r) * 1 + Hb.numFrom 0 (Hb.into T (Hb.quart (Hb.putE T p r) (Hb.putN T p r))) x y := by
        rw [← hp, ← hr]
        rfl
      have hT2 := Hb.into_lt (t := T) (q := Hb.quart (Hb.putE T p r) (Hb.putN T p r)) hT
      obtain ⟨q, hq⟩ : ∃ q, Hb.quart (Hb.putE T p r) (Hb.putN T p r) = q := ⟨_, rfl⟩
      rw [hq] at hq4 hQ hfr hT2
      obtain ⟨T2, hTT⟩ : ∃ T2, Hb.into T q = T2 := ⟨_, rfl⟩
      rw [hTT] at hT2 hQ hfr
      have HQ := Lib.hid hQ
      have HFR := Lib.hid hfr
      clear hQ hfr hq hTT hp hr
      go_wp2_with fail
      go_region_held3 (fun _ => True) (first | exact True.intro) (first | (go_at_call 135; refine (HQ.out _).mono ?_; rintro e w1 ⟨rfl, rfl⟩))
      go_wp2
      go_roundw
      case rel =>
        have h1 := HR.out
        rw [HFR.out] at h1
        obtain ⟨f1, hf1⟩ : ∃ f1, Hb.numFrom 0 T2 x y = f1 := ⟨_, rfl⟩
        rw [hf1] at h1
        refine ⟨0, X * 4 + q, T2, -1, by omega, hT2, by omega, ?_, rfl, by go_num, by show _ = _; decide, by show _ = _; rw [hf1]; omega, below_drewN' hbr _⟩
        have e := or_add 2 (X * 4) q (by omega) (by omega) (by omega) (by omega)
        simpa using congrArg (Value.int .i64) e
      case measure => simp [intOf] <;> omega
    · obtain rfl : L = 1 := by have := HL.out; omega
      obtain ⟨p, hp⟩ : ∃ p, x / 2 % 2 = p := ⟨_, rfl⟩
      obtain ⟨r, hr⟩ : ∃ r, y / 2 % 2 = r := ⟨_, rfl⟩
      have hp1 : p ≤ 1 := by omega
      have hr1 : r ≤ 1 := by omega
      have hand : bits .and .i64 ((x : Int) / 2) 1 = (p : Int) := by rw [show ((x : Int) / 2) = ((x / 2 : Nat) : Int) from by omega, and1 _ (by omega), hp]
      have handy : bits .and .i64 ((y : Int) / 2) 1 = (r : Int) := by rw [show ((y : Int) / 2) = ((y / 2 : Nat) : Int) from by omega, and1 _ (by omega), hr]
      have hQ := digitAt_any T p r hT hp1 hr1
      have hq4 := Hb.quart_lt (e := Hb.putE T p r) (Hb.putN_le (t := T) hp1 hr1)
      have hfr : Hb.numFrom 2 T x y = Hb.quart (Hb.putE T p r) (Hb.putN T p r) * 4 + Hb.numFrom 1 (Hb.into T (Hb.quart (Hb.putE T p r) (Hb.putN T p r))) x y := by
        rw [← hp, ← hr]
        rfl
      have hT2 := Hb.into_lt (t := T) (q := Hb.quart (Hb.putE T p r) (Hb.putN T p r)) hT
      obtain ⟨q, hq⟩ : ∃ q, Hb.quart (Hb.putE T p r) (Hb.putN T p r) = q := ⟨_, rfl⟩
      rw [hq] at hq4 hQ hfr hT2
      obtain ⟨T2, hTT⟩ : ∃ T2, Hb.into T q = T2 := ⟨_, rfl⟩
      rw [hTT] at hT2 hQ hfr
      have HQ := Lib.hid hQ
      have HFR := Lib.hid hfr
      clear hQ hfr hq hTT hp hr
      go_wp2_with fail
      go_region_held3 (fun _ => True) (first | exact True.intro) (first | (go_at_call 135; refine (HQ.out _).mono ?_; rintro e w1 ⟨rfl, rfl⟩))
      go_wp2
      go_roundw
      case rel =>
        have h1 := HR.out
        rw [HFR.out] at h1
        obtain ⟨f1, hf1⟩ : ∃ f1, Hb.numFrom 1 T2 x y = f1 := ⟨_, rfl⟩
        rw [hf1] at h1
        refine ⟨1, X * 4 + q, T2, 0, by omega, hT2, by omega, ?_, rfl, by go_num, by show _ = _; decide, by show _ = _; rw [hf1]; omega, below_drewN' hbr _⟩
        have e := or_add 2 (X * 4) q (by omega) (by omega) (by omega) (by omega)
        simpa using congrArg (Value.int .i64) e
      case measure => simp [intOf] <;> omega
    · obtain rfl : L = 2 := by have := HL.out; omega
      obtain ⟨p, hp⟩ : ∃ p, x / 4 % 2 = p := ⟨_, rfl⟩
      obtain ⟨r, hr⟩ : ∃ r, y / 4 % 2 = r := ⟨_, rfl⟩
      have hp1 : p ≤ 1 := by omega
      have hr1 : r ≤ 1 := by omega
      have hand : bits .and .i64 ((x : Int) / 4) 1 = (p : Int) := by rw [show ((x : Int) / 4) = ((x / 4 : Nat) : Int) from by omega, and1 _ (by omega), hp]
      have handy : bits .and .i64 ((y : Int) / 4) 1 = (r : Int) := by rw [show ((y : Int) / 4) = ((y / 4 : Nat) : Int) from by omega, and1 _ (by omega), hr]
      have hQ := digitAt_any T p r hT hp1 hr1
      have hq4 := Hb.quart_lt (e := Hb.putE T p r) (Hb.putN_le (t := T) hp1 hr1)
      have hfr : Hb.numFrom 3 T x y = Hb.quart (Hb.putE T p r) (Hb.putN T p r) * 16 + Hb.numFrom 2 (Hb.into T (Hb.quart (Hb.putE T p r) (Hb.putN T p r))) x y := by
        rw [← hp, ← hr]
        rfl
      have hT2 := Hb.into_lt (t := T) (q := Hb.quart (Hb.putE T p r) (Hb.putN T p r)) hT
      obtain ⟨q, hq⟩ : ∃ q, Hb.quart (Hb.putE T p r) (Hb.putN T p r) = q := ⟨_, rfl⟩
      rw [hq] at hq4 hQ hfr hT2
      obtain ⟨T2, hTT⟩ : ∃ T2, Hb.into T q = T2 := ⟨_, rfl⟩
      rw [hTT] at hT2 hQ hfr
      have HQ := Lib.hid hQ
      have HFR := Lib.hid hfr
      clear hQ hfr hq hTT hp hr
      go_wp2_with fail
      go_region_held3 (fun _ => True) (first | exact True.intro) (first | (go_at_call 135; refine (HQ.out _).mono ?_; rintro e w1 ⟨rfl, rfl⟩))
      go_wp2
      go_roundw
      case rel =>
        have h1 := HR.out
        rw [HFR.out] at h1
        obtain ⟨f1, hf1⟩ : ∃ f1, Hb.numFrom 2 T2 x y = f1 := ⟨_, rfl⟩
        rw [hf1] at h1
        refine ⟨2, X * 4 + q, T2, 1, by omega, hT2, by omega, ?_, rfl, by go_num, by show _ = _; decide, by show _ = _; rw [hf1]; omega, below_drewN' hbr _⟩
        have e := or_add 2 (X * 4) q (by omega) (by omega) (by omega) (by omega)
        simpa using congrArg (Value.int .i64) e
      case measure => simp [intOf] <;> omega
    · obtain rfl : L = 3 := by have := HL.out; omega
      obtain ⟨p, hp⟩ : ∃ p, x / 8 % 2 = p := ⟨_, rfl⟩
      obtain ⟨r, hr⟩ : ∃ r, y / 8 % 2 = r := ⟨_, rfl⟩
      have hp1 : p ≤ 1 := by omega
      have hr1 : r ≤ 1 := by omega
      have hand : bits .and .i64 ((x : Int) / 8) 1 = (p : Int) := by rw [show ((x : Int) / 8) = ((x / 8 : Nat) : Int) from by omega, and1 _ (by omega), hp]
      have handy : bits .and .i64 ((y : Int) / 8) 1 = (r : Int) := by rw [show ((y : Int) / 8) = ((y / 8 : Nat) : Int) from by omega, and1 _ (by omega), hr]
      have hQ := digitAt_any T p r hT hp1 hr1
      have hq4 := Hb.quart_lt (e := Hb.putE T p r) (Hb.putN_le (t := T) hp1 hr1)
      have hfr : Hb.numFrom 4 T x y = Hb.quart (Hb.putE T p r) (Hb.putN T p r) * 64 + Hb.numFrom 3 (Hb.into T (Hb.quart (Hb.putE T p r) (Hb.putN T p r))) x y := by
        rw [← hp, ← hr]
        rfl
      have hT2 := Hb.into_lt (t := T) (q := Hb.quart (Hb.putE T p r) (Hb.putN T p r)) hT
      obtain ⟨q, hq⟩ : ∃ q, Hb.quart (Hb.putE T p r) (Hb.putN T p r) = q := ⟨_, rfl⟩
      rw [hq] at hq4 hQ hfr hT2
      obtain ⟨T2, hTT⟩ : ∃ T2, Hb.into T q = T2 := ⟨_, rfl⟩
      rw [hTT] at hT2 hQ hfr
      have HQ := Lib.hid hQ
      have HFR := Lib.hid hfr
      clear hQ hfr hq hTT hp hr
      go_wp2_with fail
      go_region_held3 (fun _ => True) (first | exact True.intro) (first | (go_at_call 135; refine (HQ.out _).mono ?_; rintro e w1 ⟨rfl, rfl⟩))
      go_wp2
      go_roundw
      case rel =>
        have h1 := HR.out
        rw [HFR.out] at h1
        obtain ⟨f1, hf1⟩ : ∃ f1, Hb.numFrom 3 T2 x y = f1 := ⟨_, rfl⟩
        rw [hf1] at h1
        refine ⟨3, X * 4 + q, T2, 2, by omega, hT2, by omega, ?_, rfl, by go_num, by show _ = _; decide, by show _ = _; rw [hf1]; omega, below_drewN' hbr _⟩
        have e := or_add 2 (X * 4) q (by omega) (by omega) (by omega) (by omega)
        simpa using congrArg (Value.int .i64) e
      case measure => simp [intOf] <;> omega
set_option maxHeartbeats 1600000 in
theorem cellOk_5 (x y : Nat) (b : Bool) (hb : Hid (decide (x < 32 ∧ y < 32) = b)) (w : World) : Calls Tryz.prog 134 #[.int .i64 5, .int .i64 x, .int .i64 y] w fun E w' => E = .returned (.bool b) ∧ w = w' := by
  have HO := Lib.hid (halvesOk_any 5)
  by_cases hx : x < 32
  · have i1 : (x : Int) < 32 := by omega
    by_cases hy : y < 32
    · have i2 : (y : Int) < 32 := by omega
      obtain rfl : true = b := by rw [← hb.out, decide_eq_true ⟨hx, hy⟩]
      clear hx hy
      go_enter Tryz.func134, Tryz.ntmps134
      go_wp2_with (first
        | (go_at_call 132; refine (HO.out _).mono ?_; rintro e w1 ⟨rfl, rfl⟩))
      go_ret
      exact ⟨rfl, rfl⟩
    · have i2 : ¬ (y : Int) < 32 := by omega
      obtain rfl : false = b := by rw [← hb.out, decide_eq_false (fun h => hy h.2)]
      clear hx hy
      go_enter Tryz.func134, Tryz.ntmps134
      go_wp2_with (first
        | (go_at_call 132; refine (HO.out _).mono ?_; rintro e w1 ⟨rfl, rfl⟩))
      go_ret
      exact ⟨ret_boolD (by omega), rfl⟩
  · have i1 : ¬ (x : Int) < 32 := by omega
    obtain rfl : false = b := by rw [← hb.out, decide_eq_false (fun h => hx h.1)]
    clear hx
    go_enter Tryz.func134, Tryz.ntmps134
    go_wp2_with (first
      | (go_at_call 132; refine (HO.out _).mono ?_; rintro e w1 ⟨rfl, rfl⟩))
    go_ret
    exact ⟨rfl, rfl⟩
set_option maxRecDepth 100000 in
set_option maxHeartbeats 3200000 in
theorem numberOf_5 (x y : Nat) (hx : x < 32) (hy : y < 32) (w : World) : Calls Tryz.prog 101 #[.int .i64 5, .int .i64 x, .int .i64 y] w fun E w' => E = .returned (.int .i64 (Hb.num 5 x y : Nat)) ∧ Below w.heap.size w w' := by
  have HO := Lib.hid (cellOk_5 x y true (by show _ = _; rw [decide_eq_true ⟨hx, hy⟩]))
  have hf := Hb.numFrom_num 5 0 x y (by decide)
  have h0 : Hb.turned 0 (2 ^ 5) (x % 2 ^ 5, y % 2 ^ 5) = (x % 2 ^ 5, y % 2 ^ 5) := rfl
  rw [h0, show x % 2 ^ 5 = x from Nat.mod_eq_of_lt hx, show y % 2 ^ 5 = y from Nat.mod_eq_of_lt hy] at hf
  have hlt := Hb.num_lt 5 x y
  obtain ⟨R, hR⟩ : ∃ R, Hb.num 5 x y = R := ⟨_, rfl⟩
  rw [hR] at hf hlt ⊢
  have hR4 : R < 1024 := hlt
  have HF : Hid (Hb.numFrom 5 0 x y = R) := hf
  clear hf hlt hR h0
  go_enter Tryz.func101, Tryz.ntmps101
  go_wp2_with (first
    | (go_at_call 134; refine (HO.out _).mono ?_; rintro e w1 ⟨rfl, rfl⟩))
  go_loopw [7, 8, 9] (fun n q l wr => ∃ (lv X T : Nat) (L : Int), lv ≤ 5 ∧ T < 4 ∧ X < 1024 ∧ n = .int .i64 X ∧ q = .func (.func 135) #[.int .i64 T] #[] ∧ l = .int .i64 L ∧ Hid (L = (lv : Int) - 1) ∧ Hid (X * 4 ^ lv + Hb.numFrom lv T x y = R) ∧ Below w.heap.size w wr) (fun _ _ l _ => (intOf l + 1).toNat)
  case atStart => exact ⟨5, 0, 0, 4, by decide, by decide, by decide, rfl, rfl, rfl, by show _ = _; decide, by show _ = _; rw [HF.out]; simp, Below.refl _ _⟩
  case round =>
    obtain ⟨lv, X, T, L, hlv, hT, hX, rfl, rfl, rfl, HL, HR, hbr⟩ := hrel
    obtain rfl | rfl | rfl | rfl | rfl | rfl : lv = 0 ∨ lv = 1 ∨ lv = 2 ∨ lv = 3 ∨ lv = 4 ∨ lv = 5 := by omega
    · obtain rfl : L = -1 := by have := HL.out; omega
      go_wp2_with fail
      go_ret
      refine ⟨ret_intN ?_, hbr⟩
      have h := HR.out
      simp [Hb.numFrom] at h
      omega
    · obtain rfl : L = 0 := by have := HL.out; omega
      obtain ⟨p, hp⟩ : ∃ p, x / 1 % 2 = p := ⟨_, rfl⟩
      obtain ⟨r, hr⟩ : ∃ r, y / 1 % 2 = r := ⟨_, rfl⟩
      have hp1 : p ≤ 1 := by omega
      have hr1 : r ≤ 1 := by omega
      have hand : bits .and .i64 (x : Int) 1 = (p : Int) := by rw [show (x : Int) = ((x / 1 : Nat) : Int) from by omega, and1 _ (by omega), hp]
      have handy : bits .and .i64 (y : Int) 1 = (r : Int) := by rw [show (y : Int) = ((y / 1 : Nat) : Int) from by omega, and1 _ (by omega), hr]
      have hQ := digitAt_any T p r hT hp1 hr1
      have hq4 := Hb.quart_lt (e := Hb.putE T p r) (Hb.putN_le (t := T) hp1 hr1)
      have hfr : Hb.numFrom 1 T x y = Hb.quart (Hb.putE T p r) (Hb.putN T p r) * 1 + Hb.numFrom 0 (Hb.into T (Hb.quart (Hb.putE T p r) (Hb.putN T p r))) x y := by
        rw [← hp, ← hr]
        rfl
      have hT2 := Hb.into_lt (t := T) (q := Hb.quart (Hb.putE T p r) (Hb.putN T p r)) hT
      obtain ⟨q, hq⟩ : ∃ q, Hb.quart (Hb.putE T p r) (Hb.putN T p r) = q := ⟨_, rfl⟩
      rw [hq] at hq4 hQ hfr hT2
      obtain ⟨T2, hTT⟩ : ∃ T2, Hb.into T q = T2 := ⟨_, rfl⟩
      rw [hTT] at hT2 hQ hfr
      have HQ := Lib.hid hQ
      have HFR := Lib.hid hfr
      clear hQ hfr hq hTT hp hr
      go_wp2_with fail
      go_region_held3 (fun _ => True) (first | exact True.intro) (first | (go_at_call 135; refine (HQ.out _).mono ?_; rintro e w1 ⟨rfl, rfl⟩))
      go_wp2
      go_roundw
      case rel =>
        have h1 := HR.out
        rw [HFR.out] at h1
        obtain ⟨f1, hf1⟩ : ∃ f1, Hb.numFrom 0 T2 x y = f1 := ⟨_, rfl⟩
        rw [hf1] at h1
        refine ⟨0, X * 4 + q, T2, -1, by omega, hT2, by omega, ?_, rfl, by go_num, by show _ = _; decide, by show _ = _; rw [hf1]; omega, below_drewN' hbr _⟩
        have e := or_add 2 (X * 4) q (by omega) (by omega) (by omega) (by omega)
        simpa using congrArg (Value.int .i64) e
      case measure => simp [intOf] <;> omega
    · obtain rfl : L = 1 := by have := HL.out; omega
      obtain ⟨p, hp⟩ : ∃ p, x / 2 % 2 = p := ⟨_, rfl⟩
      obtain ⟨r, hr⟩ : ∃ r, y / 2 % 2 = r := ⟨_, rfl⟩
      have hp1 : p ≤ 1 := by omega
      have hr1 : r ≤ 1 := by omega
      have hand : bits .and .i64 ((x : Int) / 2) 1 = (p : Int) := by rw [show ((x : Int) / 2) = ((x / 2 : Nat) : Int) from by omega, and1 _ (by omega), hp]
      have handy : bits .and .i64 ((y : Int) / 2) 1 = (r : Int) := by rw [show ((y : Int) / 2) = ((y / 2 : Nat) : Int) from by omega, and1 _ (by omega), hr]
      have hQ := digitAt_any T p r hT hp1 hr1
      have hq4 := Hb.quart_lt (e := Hb.putE T p r) (Hb.putN_le (t := T) hp1 hr1)
      have hfr : Hb.numFrom 2 T x y = Hb.quart (Hb.putE T p r) (Hb.putN T p r) * 4 + Hb.numFrom 1 (Hb.into T (Hb.quart (Hb.putE T p r) (Hb.putN T p r))) x y := by
        rw [← hp, ← hr]
        rfl
      have hT2 := Hb.into_lt (t := T) (q := Hb.quart (Hb.putE T p r) (Hb.putN T p r)) hT
      obtain ⟨q, hq⟩ : ∃ q, Hb.quart (Hb.putE T p r) (Hb.putN T p r) = q := ⟨_, rfl⟩
      rw [hq] at hq4 hQ hfr hT2
      obtain ⟨T2, hTT⟩ : ∃ T2, Hb.into T q = T2 := ⟨_, rfl⟩
      rw [hTT] at hT2 hQ hfr
      have HQ := Lib.hid hQ
      have HFR := Lib.hid hfr
      clear hQ hfr hq hTT hp hr
      go_wp2_with fail
      go_region_held3 (fun _ => True) (first | exact True.intro) (first | (go_at_call 135; refine (HQ.out _).mono ?_; rintro e w1 ⟨rfl, rfl⟩))
      go_wp2
      go_roundw
      case rel =>
        have h1 := HR.out
        rw [HFR.out] at h1
        obtain ⟨f1, hf1⟩ : ∃ f1, Hb.numFrom 1 T2 x y = f1 := ⟨_, rfl⟩
        rw [hf1] at h1
        refine ⟨1, X * 4 + q, T2, 0, by omega, hT2, by omega, ?_, rfl, by go_num, by show _ = _; decide, by show _ = _; rw [hf1]; omega, below_drewN' hbr _⟩
        have e := or_add 2 (X * 4) q (by omega) (by omega) (by omega) (by omega)
        simpa using congrArg (Value.int .i64) e
      case measure => simp [intOf] <;> omega
    · obtain rfl : L = 2 := by have := HL.out; omega
      obtain ⟨p, hp⟩ : ∃ p, x / 4 % 2 = p := ⟨_, rfl⟩
      obtain ⟨r, hr⟩ : ∃ r, y / 4 % 2 = r := ⟨_, rfl⟩
      have hp1 : p ≤ 1 := by omega
      have hr1 : r ≤ 1 := by omega
      have hand : bits .and .i64 ((x : Int) / 4) 1 = (p : Int) := by rw [show ((x : Int) / 4) = ((x / 4 : Nat) : Int) from by omega, and1 _ (by omega), hp]
      have handy : bits .and .i64 ((y : Int) / 4) 1 = (r : Int) := by rw [show ((y : Int) / 4) = ((y / 4 : Nat) : Int) from by omega, and1 _ (by omega), hr]
      have hQ := digitAt_any T p r hT hp1 hr1
      have hq4 := Hb.quart_lt (e := Hb.putE T p r) (Hb.putN_le (t := T) hp1 hr1)
      have hfr : Hb.numFrom 3 T x y = Hb.quart (Hb.putE T p r) (Hb.putN T p r) * 16 + Hb.numFrom 2 (Hb.into T (Hb.quart (Hb.putE T p r) (Hb.putN T p r))) x y := by
        rw [← hp, ← hr]
        rfl
      have hT2 := Hb.into_lt (t := T) (q := Hb.quart (Hb.putE T p r) (Hb.putN T p r)) hT
      obtain ⟨q, hq⟩ : ∃ q, Hb.quart (Hb.putE T p r) (Hb.putN T p r) = q := ⟨_, rfl⟩
      rw [hq] at hq4 hQ hfr hT2
      obtain ⟨T2, hTT⟩ : ∃ T2, Hb.into T q = T2 := ⟨_, rfl⟩
      rw [hTT] at hT2 hQ hfr
      have HQ := Lib.hid hQ
      have HFR := Lib.hid hfr
      clear hQ hfr hq hTT hp hr
      go_wp2_with fail
      go_region_held3 (fun _ => True) (first | exact True.intro) (first | (go_at_call 135; refine (HQ.out _).mono ?_; rintro e w1 ⟨rfl, rfl⟩))
      go_wp2
      go_roundw
      case rel =>
        have h1 := HR.out
        rw [HFR.out] at h1
        obtain ⟨f1, hf1⟩ : ∃ f1, Hb.numFrom 2 T2 x y = f1 := ⟨_, rfl⟩
        rw [hf1] at h1
        refine ⟨2, X * 4 + q, T2, 1, by omega, hT2, by omega, ?_, rfl, by go_num, by show _ = _; decide, by show _ = _; rw [hf1]; omega, below_drewN' hbr _⟩
        have e := or_add 2 (X * 4) q (by omega) (by omega) (by omega) (by omega)
        simpa using congrArg (Value.int .i64) e
      case measure => simp [intOf] <;> omega
    · obtain rfl : L = 3 := by have := HL.out; omega
      obtain ⟨p, hp⟩ : ∃ p, x / 8 % 2 = p := ⟨_, rfl⟩
      obtain ⟨r, hr⟩ : ∃ r, y / 8 % 2 = r := ⟨_, rfl⟩
      have hp1 : p ≤ 1 := by omega
      have hr1 : r ≤ 1 := by omega
      have hand : bits .and .i64 ((x : Int) / 8) 1 = (p : Int) := by rw [show ((x : Int) / 8) = ((x / 8 : Nat) : Int) from by omega, and1 _ (by omega), hp]
      have handy : bits .and .i64 ((y : Int) / 8) 1 = (r : Int) := by rw [show ((y : Int) / 8) = ((y / 8 : Nat) : Int) from by omega, and1 _ (by omega), hr]
      have hQ := digitAt_any T p r hT hp1 hr1
      have hq4 := Hb.quart_lt (e := Hb.putE T p r) (Hb.putN_le (t := T) hp1 hr1)
      have hfr : Hb.numFrom 4 T x y = Hb.quart (Hb.putE T p r) (Hb.putN T p r) * 64 + Hb.numFrom 3 (Hb.into T (Hb.quart (Hb.putE T p r) (Hb.putN T p r))) x y := by
        rw [← hp, ← hr]
        rfl
      have hT2 := Hb.into_lt (t := T) (q := Hb.quart (Hb.putE T p r) (Hb.putN T p r)) hT
      obtain ⟨q, hq⟩ : ∃ q, Hb.quart (Hb.putE T p r) (Hb.putN T p r) = q := ⟨_, rfl⟩
      rw [hq] at hq4 hQ hfr hT2
      obtain ⟨T2, hTT⟩ : ∃ T2, Hb.into T q = T2 := ⟨_, rfl⟩
      rw [hTT] at hT2 hQ hfr
      have HQ := Lib.hid hQ
      have HFR := Lib.hid hfr
      clear hQ hfr hq hTT hp hr
      go_wp2_with fail
      go_region_held3 (fun _ => True) (first | exact True.intro) (first | (go_at_call 135; refine (HQ.out _).mono ?_; rintro e w1 ⟨rfl, rfl⟩))
      go_wp2
      go_roundw
      case rel =>
        have h1 := HR.out
        rw [HFR.out] at h1
        obtain ⟨f1, hf1⟩ : ∃ f1, Hb.numFrom 3 T2 x y = f1 := ⟨_, rfl⟩
        rw [hf1] at h1
        refine ⟨3, X * 4 + q, T2, 2, by omega, hT2, by omega, ?_, rfl, by go_num, by show _ = _; decide, by show _ = _; rw [hf1]; omega, below_drewN' hbr _⟩
        have e := or_add 2 (X * 4) q (by omega) (by omega) (by omega) (by omega)
        simpa using congrArg (Value.int .i64) e
      case measure => simp [intOf] <;> omega
    · obtain rfl : L = 4 := by have := HL.out; omega
      obtain ⟨p, hp⟩ : ∃ p, x / 16 % 2 = p := ⟨_, rfl⟩
      obtain ⟨r, hr⟩ : ∃ r, y / 16 % 2 = r := ⟨_, rfl⟩
      have hp1 : p ≤ 1 := by omega
      have hr1 : r ≤ 1 := by omega
      have hand : bits .and .i64 ((x : Int) / 16) 1 = (p : Int) := by rw [show ((x : Int) / 16) = ((x / 16 : Nat) : Int) from by omega, and1 _ (by omega), hp]
      have handy : bits .and .i64 ((y : Int) / 16) 1 = (r : Int) := by rw [show ((y : Int) / 16) = ((y / 16 : Nat) : Int) from by omega, and1 _ (by omega), hr]
      have hQ := digitAt_any T p r hT hp1 hr1
      have hq4 := Hb.quart_lt (e := Hb.putE T p r) (Hb.putN_le (t := T) hp1 hr1)
      have hfr : Hb.numFrom 5 T x y = Hb.quart (Hb.putE T p r) (Hb.putN T p r) * 256 + Hb.numFrom 4 (Hb.into T (Hb.quart (Hb.putE T p r) (Hb.putN T p r))) x y := by
        rw [← hp, ← hr]
        rfl
      have hT2 := Hb.into_lt (t := T) (q := Hb.quart (Hb.putE T p r) (Hb.putN T p r)) hT
      obtain ⟨q, hq⟩ : ∃ q, Hb.quart (Hb.putE T p r) (Hb.putN T p r) = q := ⟨_, rfl⟩
      rw [hq] at hq4 hQ hfr hT2
      obtain ⟨T2, hTT⟩ : ∃ T2, Hb.into T q = T2 := ⟨_, rfl⟩
      rw [hTT] at hT2 hQ hfr
      have HQ := Lib.hid hQ
      have HFR := Lib.hid hfr
      clear hQ hfr hq hTT hp hr
      go_wp2_with fail
      go_region_held3 (fun _ => True) (first | exact True.intro) (first | (go_at_call 135; refine (HQ.out _).mono ?_; rintro e w1 ⟨rfl, rfl⟩))
      go_wp2
      go_roundw
      case rel =>
        have h1 := HR.out
        rw [HFR.out] at h1
        obtain ⟨f1, hf1⟩ : ∃ f1, Hb.numFrom 4 T2 x y = f1 := ⟨_, rfl⟩
        rw [hf1] at h1
        refine ⟨4, X * 4 + q, T2, 3, by omega, hT2, by omega, ?_, rfl, by go_num, by show _ = _; decide, by show _ = _; rw [hf1]; omega, below_drewN' hbr _⟩
        have e := or_add 2 (X * 4) q (by omega) (by omega) (by omega) (by omega)
        simpa using congrArg (Value.int .i64) e
      case measure => simp [intOf] <;> omega

end Go.Proofs.YtccdfndnjjjgfaaGreatDoor
