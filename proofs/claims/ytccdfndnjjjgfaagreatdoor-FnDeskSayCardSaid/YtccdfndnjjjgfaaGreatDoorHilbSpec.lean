/-
  Contracts of the reference's l8Cell, l8Number, CellOf and NumberOf at numbers of four digits (printed by gen_hilb.py).
-/
import Derived.Test.YtccdfndnjjjgfaaGreatDoorBase
import Derived.Test.YtccdfndnjjjgfaaGreatDoorHilbPure
namespace Go.Proofs.YtccdfndnjjjgfaaGreatDoor
open Go.RowKit

theorem ret_two {a b c d : Int} (h : a = c) (k : b = d) : Ending.returned (.tuple #[.int .i64 a, .int .i64 b]) = .returned (.tuple #[.int .i64 c, .int .i64 d]) := by rw [h, k]
theorem ret_twoT {a b c d : Int} {t : Bool} (h : a = c) (k : b = d) : Ending.returned (.tuple #[.int .i64 a, .int .i64 b, .bool t]) = .returned (.tuple #[.int .i64 c, .int .i64 d, .bool t]) := by rw [h, k]
/-- What CellOf returns, and NumberOf. -/
def cellRes (a b : Nat) : (Nat × Nat) × Bool := if a ≤ 5 ∧ b < 4 ^ a then (Hb.cell a b, true) else ((0, 0), false)
def numbRes (a x y : Nat) : Int := if a ≤ 5 ∧ x < 2 ^ a ∧ y < 2 ^ a then (Hb.num a x y : Int) else -1
def CellOut (a b : Nat) (w : World) (e : Ending) (w' : World) : Prop := e = .returned (.tuple #[.int .i64 ((cellRes a b).1.1 : Nat), .int .i64 ((cellRes a b).1.2 : Nat), .bool (cellRes a b).2]) ∧ w = w'

set_option maxHeartbeats 800000 in
theorem l8Cell_0 (n : Nat) (w : World) :
    Calls Tryz.prog 111 #[.int .i64 0, .int .i64 n] w fun e w' => e = .returned (.tuple #[.int .i64 ((Hb.cell 0 n).1 : Nat), .int .i64 ((Hb.cell 0 n).2 : Nat)]) ∧ w = w' := by
  go_enter Tryz.func111, Tryz.ntmps111
  go_wp2
  go_ret2
  exact ⟨rfl, rfl⟩
set_option maxHeartbeats 800000 in
theorem l8Number_0 (x y : Nat) (w : World) :
    Calls Tryz.prog 112 #[.int .i64 0, .int .i64 x, .int .i64 y] w fun e w' => e = .returned (.int .i64 (Hb.num 0 x y : Nat)) ∧ w = w' := by
  go_enter Tryz.func112, Tryz.ntmps112
  go_wp2
  go_ret
  exact ⟨rfl, rfl⟩

set_option maxRecDepth 100000 in
set_option maxHeartbeats 1600000 in
theorem l8Cell_1 (n : Nat) (hn : n < 4) (w : World) :
    Calls Tryz.prog 111 #[.int .i64 1, .int .i64 n] w fun e w' => e = .returned (.tuple #[.int .i64 ((Hb.cell 1 n).1 : Nat), .int .i64 ((Hb.cell 1 n).2 : Nat)]) ∧ w = w' := by
  obtain ⟨q, hq⟩ : ∃ q, n / 1 = q := ⟨_, rfl⟩
  obtain ⟨r, hr⟩ : ∃ r, n % 1 = r := ⟨_, rfl⟩
  have hr1 : r < 1 := by omega
  have hq4 : q < 4 := by omega
  have ih := l8Cell_0 r 
  have hb := Hb.cell_lt 0 r
  obtain ⟨⟨x, y⟩, hc⟩ : ∃ c, Hb.cell 0 r = c := ⟨_, rfl⟩
  rw [hc] at ih hb
  have hx : x < 1 := hb.1
  have hy : y < 1 := hb.2
  have eq1 : (n : Int).tdiv 1 = (q : Int) := by rw [Int.tdiv_eq_ediv_of_nonneg (by omega)]; omega
  have eq2 : (n : Int).tmod 1 = (r : Int) := by rw [Int.tmod_eq_emod_of_nonneg (by omega)]; omega
  have eq3 : (n : Int) / 1 = (q : Int) := by omega
  have eq4 : (n : Int) % 1 = (r : Int) := by omega
  have HC : Hid (Hb.cell 1 n = (if q = 0 then (y, x) else if q = 1 then (x, y + 1) else if q = 2 then (x + 1, y + 1) else (2 * 1 - 1 - y, 1 - 1 - x))) := Hb.cell_step 0 n q r x y 1 hq hr hc rfl
  have IH := Lib.hid ih
  have hxs : (x : Int) < 1 := by omega
  have hys : (y : Int) < 1 := by omega
  clear ih hb hc hq hr hn
  obtain rfl | rfl | rfl | rfl : q = 0 ∨ q = 1 ∨ q = 2 ∨ q = 3 := by omega
  all_goals
    go_enter Tryz.func111, Tryz.ntmps111
    go_wp2_with (first
      | (go_at_call 111; refine (IH.out _).mono ?_; rintro e w1 ⟨rfl, rfl⟩))
    go_ret2
    refine ⟨?_, rfl⟩
    rw [HC.out]
    refine ret_two ?_ ?_ <;> simp <;> omega

set_option maxHeartbeats 1600000 in
theorem l8Number_1 (x y : Nat) (hx : x < 2) (hy : y < 2) (w : World) :
    Calls Tryz.prog 112 #[.int .i64 1, .int .i64 x, .int .i64 y] w fun e w' => e = .returned (.int .i64 (Hb.num 1 x y : Nat)) ∧ w = w' := by
  have IH : Hid (∀ W, Calls Tryz.prog 112 #[.int .i64 0, .int .i64 0, .int .i64 0] W fun e w' => e = .returned (.int .i64 0) ∧ W = w') := l8Number_0 0 0
  obtain rfl | rfl : x = 0 ∨ x = 1 := by omega
  all_goals
    obtain rfl | rfl : y = 0 ∨ y = 1 := by omega
    all_goals
      go_enter Tryz.func112, Tryz.ntmps112
      go_wp2_with (first
        | (go_at_call 112; refine (IH.out _).mono ?_; rintro e w1 ⟨rfl, rfl⟩))
      go_ret
      exact ⟨rfl, rfl⟩

set_option maxRecDepth 100000 in
set_option maxHeartbeats 1600000 in
theorem l8Cell_2 (n : Nat) (hn : n < 16) (w : World) :
    Calls Tryz.prog 111 #[.int .i64 2, .int .i64 n] w fun e w' => e = .returned (.tuple #[.int .i64 ((Hb.cell 2 n).1 : Nat), .int .i64 ((Hb.cell 2 n).2 : Nat)]) ∧ w = w' := by
  obtain ⟨q, hq⟩ : ∃ q, n / 4 = q := ⟨_, rfl⟩
  obtain ⟨r, hr⟩ : ∃ r, n % 4 = r := ⟨_, rfl⟩
  have hr1 : r < 4 := by omega
  have hq4 : q < 4 := by omega
  have ih := l8Cell_1 r hr1
  have hb := Hb.cell_lt 1 r
  obtain ⟨⟨x, y⟩, hc⟩ : ∃ c, Hb.cell 1 r = c := ⟨_, rfl⟩
  rw [hc] at ih hb
  have hx : x < 2 := hb.1
  have hy : y < 2 := hb.2
  have eq1 : (n : Int).tdiv 4 = (q : Int) := by rw [Int.tdiv_eq_ediv_of_nonneg (by omega)]; omega
  have eq2 : (n : Int).tmod 4 = (r : Int) := by rw [Int.tmod_eq_emod_of_nonneg (by omega)]; omega
  have eq3 : (n : Int) / 4 = (q : Int) := by omega
  have eq4 : (n : Int) % 4 = (r : Int) := by omega
  have HC : Hid (Hb.cell 2 n = (if q = 0 then (y, x) else if q = 1 then (x, y + 2) else if q = 2 then (x + 2, y + 2) else (2 * 2 - 1 - y, 2 - 1 - x))) := Hb.cell_step 1 n q r x y 2 hq hr hc rfl
  have IH := Lib.hid ih
  have hxs : (x : Int) < 2 := by omega
  have hys : (y : Int) < 2 := by omega
  clear ih hb hc hq hr hn
  obtain rfl | rfl | rfl | rfl : q = 0 ∨ q = 1 ∨ q = 2 ∨ q = 3 := by omega
  all_goals
    go_enter Tryz.func111, Tryz.ntmps111
    go_wp2_with (first
      | (go_at_call 111; refine (IH.out _).mono ?_; rintro e w1 ⟨rfl, rfl⟩))
    go_ret2
    refine ⟨?_, rfl⟩
    rw [HC.out]
    refine ret_two ?_ ?_ <;> simp <;> omega

set_option maxRecDepth 100000 in
set_option maxHeartbeats 1600000 in
theorem l8Number_2 (x y : Nat) (hx : x < 4) (hy : y < 4) (w : World) :
    Calls Tryz.prog 112 #[.int .i64 2, .int .i64 x, .int .i64 y] w fun e w' => e = .returned (.int .i64 (Hb.num 2 x y : Nat)) ∧ w = w' := by
  have HN : Hid (Hb.num 2 x y = if x < 2 then (if y < 2 then Hb.num 1 y x else 4 + Hb.num 1 x (y - 2)) else if 2 ≤ y then 2 * 4 + Hb.num 1 (x - 2) (y - 2) else 3 * 4 + Hb.num 1 (2 - 1 - y) (2 * 2 - 1 - x)) := rfl
  by_cases hxs : x < 2
  · by_cases hys : y < 2
    · have IH := Lib.hid (l8Number_1 y x hys hxs)
      have i1 : (x : Int) < 2 := by omega
      have i2 : (y : Int) < 2 := by omega
      clear hx hy
      go_enter Tryz.func112, Tryz.ntmps112
      go_wp2_with (first
        | (go_at_call 112; refine (IH.out _).mono ?_; rintro e w1 ⟨rfl, rfl⟩))
      go_ret
      refine ⟨?_, rfl⟩
      rw [HN.out, if_pos hxs, if_pos hys]
      rfl
    · obtain ⟨b, hb⟩ : ∃ b, y - 2 = b := ⟨_, rfl⟩
      have hlt := Hb.num_lt 1 x b
      have hlt2 : Hb.num 1 x b < 4 := hlt
      have ih := l8Number_1 x b hxs (by omega)
      have HE : Hid (Hb.num 2 x y = 4 + Hb.num 1 x b) := by show _ = _; rw [HN.out, if_pos hxs, if_neg hys, hb]
      obtain ⟨m, hm⟩ : ∃ m, Hb.num 1 x b = m := ⟨_, rfl⟩
      rw [hm] at ih hlt2
      have HM := Lib.hid hm
      have i3 : (b : Int) = (y : Int) - 2 := by omega
      rw [i3] at ih
      have IH := Lib.hid ih
      have i1 : (x : Int) < 2 := by omega
      have i2 : ¬ (y : Int) < 2 := by omega
      have i8 : (y : Int) < 4 := by omega
      clear i3
      clear ih hlt hm hx hy
      go_enter Tryz.func112, Tryz.ntmps112
      go_wp2_with (first
        | (go_at_call 112; refine (IH.out _).mono ?_; rintro e w1 ⟨rfl, rfl⟩))
      go_ret
      refine ⟨?_, rfl⟩
      rw [HE.out, HM.out]
      refine ret_int ?_
      omega
  · by_cases hys : 2 ≤ y
    · obtain ⟨a, ha⟩ : ∃ a, x - 2 = a := ⟨_, rfl⟩
      obtain ⟨b, hb⟩ : ∃ b, y - 2 = b := ⟨_, rfl⟩
      have hlt := Hb.num_lt 1 a b
      have hlt2 : Hb.num 1 a b < 4 := hlt
      have ih := l8Number_1 a b (by omega) (by omega)
      have HE : Hid (Hb.num 2 x y = 2 * 4 + Hb.num 1 a b) := by show _ = _; rw [HN.out, if_neg hxs, if_pos hys, ha, hb]
      obtain ⟨m, hm⟩ : ∃ m, Hb.num 1 a b = m := ⟨_, rfl⟩
      rw [hm] at ih hlt2
      have HM := Lib.hid hm
      have i3 : (b : Int) = (y : Int) - 2 := by omega
      have i5 : (a : Int) = (x : Int) - 2 := by omega
      rw [i3, i5] at ih
      have IH := Lib.hid ih
      have i1 : ¬ (x : Int) < 2 := by omega
      have i2 : (2 : Int) ≤ y := by omega
      have i8 : (y : Int) < 4 := by omega
      have i9 : (x : Int) < 4 := by omega
      clear i3 i5
      clear ih hlt hm hx hy
      go_enter Tryz.func112, Tryz.ntmps112
      go_wp2_with (first
        | (go_at_call 112; refine (IH.out _).mono ?_; rintro e w1 ⟨rfl, rfl⟩))
      go_ret
      refine ⟨?_, rfl⟩
      rw [HE.out, HM.out]
      refine ret_int ?_
      omega
    · obtain ⟨a, ha⟩ : ∃ a, 2 - 1 - y = a := ⟨_, rfl⟩
      obtain ⟨b, hb⟩ : ∃ b, 2 * 2 - 1 - x = b := ⟨_, rfl⟩
      have hlt := Hb.num_lt 1 a b
      have hlt2 : Hb.num 1 a b < 4 := hlt
      have ih := l8Number_1 a b (by omega) (by omega)
      have HE : Hid (Hb.num 2 x y = 3 * 4 + Hb.num 1 a b) := by show _ = _; rw [HN.out, if_neg hxs, if_neg hys, ha, hb]
      obtain ⟨m, hm⟩ : ∃ m, Hb.num 1 a b = m := ⟨_, rfl⟩
      rw [hm] at ih hlt2
      have HM := Lib.hid hm
      have i3 : (b : Int) = (3 : Int) - (x : Int) := by omega
      have i5 : (a : Int) = (1 : Int) - (y : Int) := by omega
      rw [i3, i5] at ih
      have IH := Lib.hid ih
      have i1 : ¬ (x : Int) < 2 := by omega
      have i2 : ¬ (2 : Int) ≤ y := by omega
      have i9 : (x : Int) < 4 := by omega
      clear i3 i5
      clear ih hlt hm hx hy
      go_enter Tryz.func112, Tryz.ntmps112
      go_wp2_with (first
        | (go_at_call 112; refine (IH.out _).mono ?_; rintro e w1 ⟨rfl, rfl⟩))
      go_ret
      refine ⟨?_, rfl⟩
      rw [HE.out, HM.out]
      refine ret_int ?_
      omega

set_option maxRecDepth 100000 in
set_option maxHeartbeats 1600000 in
theorem l8Cell_3 (n : Nat) (hn : n < 64) (w : World) :
    Calls Tryz.prog 111 #[.int .i64 3, .int .i64 n] w fun e w' => e = .returned (.tuple #[.int .i64 ((Hb.cell 3 n).1 : Nat), .int .i64 ((Hb.cell 3 n).2 : Nat)]) ∧ w = w' := by
  obtain ⟨q, hq⟩ : ∃ q, n / 16 = q := ⟨_, rfl⟩
  obtain ⟨r, hr⟩ : ∃ r, n % 16 = r := ⟨_, rfl⟩
  have hr1 : r < 16 := by omega
  have hq4 : q < 4 := by omega
  have ih := l8Cell_2 r hr1
  have hb := Hb.cell_lt 2 r
  obtain ⟨⟨x, y⟩, hc⟩ : ∃ c, Hb.cell 2 r = c := ⟨_, rfl⟩
  rw [hc] at ih hb
  have hx : x < 4 := hb.1
  have hy : y < 4 := hb.2
  have eq1 : (n : Int).tdiv 16 = (q : Int) := by rw [Int.tdiv_eq_ediv_of_nonneg (by omega)]; omega
  have eq2 : (n : Int).tmod 16 = (r : Int) := by rw [Int.tmod_eq_emod_of_nonneg (by omega)]; omega
  have eq3 : (n : Int) / 16 = (q : Int) := by omega
  have eq4 : (n : Int) % 16 = (r : Int) := by omega
  have HC : Hid (Hb.cell 3 n = (if q = 0 then (y, x) else if q = 1 then (x, y + 4) else if q = 2 then (x + 4, y + 4) else (2 * 4 - 1 - y, 4 - 1 - x))) := Hb.cell_step 2 n q r x y 4 hq hr hc rfl
  have IH := Lib.hid ih
  have hxs : (x : Int) < 4 := by omega
  have hys : (y : Int) < 4 := by omega
  clear ih hb hc hq hr hn
  obtain rfl | rfl | rfl | rfl : q = 0 ∨ q = 1 ∨ q = 2 ∨ q = 3 := by omega
  all_goals
    go_enter Tryz.func111, Tryz.ntmps111
    go_wp2_with (first
      | (go_at_call 111; refine (IH.out _).mono ?_; rintro e w1 ⟨rfl, rfl⟩))
    go_ret2
    refine ⟨?_, rfl⟩
    rw [HC.out]
    refine ret_two ?_ ?_ <;> simp <;> omega

set_option maxRecDepth 100000 in
set_option maxHeartbeats 1600000 in
theorem l8Number_3 (x y : Nat) (hx : x < 8) (hy : y < 8) (w : World) :
    Calls Tryz.prog 112 #[.int .i64 3, .int .i64 x, .int .i64 y] w fun e w' => e = .returned (.int .i64 (Hb.num 3 x y : Nat)) ∧ w = w' := by
  have HN : Hid (Hb.num 3 x y = if x < 4 then (if y < 4 then Hb.num 2 y x else 16 + Hb.num 2 x (y - 4)) else if 4 ≤ y then 2 * 16 + Hb.num 2 (x - 4) (y - 4) else 3 * 16 + Hb.num 2 (4 - 1 - y) (2 * 4 - 1 - x)) := rfl
  by_cases hxs : x < 4
  · by_cases hys : y < 4
    · have IH := Lib.hid (l8Number_2 y x hys hxs)
      have i1 : (x : Int) < 4 := by omega
      have i2 : (y : Int) < 4 := by omega
      clear hx hy
      go_enter Tryz.func112, Tryz.ntmps112
      go_wp2_with (first
        | (go_at_call 112; refine (IH.out _).mono ?_; rintro e w1 ⟨rfl, rfl⟩))
      go_ret
      refine ⟨?_, rfl⟩
      rw [HN.out, if_pos hxs, if_pos hys]
      rfl
    · obtain ⟨b, hb⟩ : ∃ b, y - 4 = b := ⟨_, rfl⟩
      have hlt := Hb.num_lt 2 x b
      have hlt2 : Hb.num 2 x b < 16 := hlt
      have ih := l8Number_2 x b hxs (by omega)
      have HE : Hid (Hb.num 3 x y = 16 + Hb.num 2 x b) := by show _ = _; rw [HN.out, if_pos hxs, if_neg hys, hb]
      obtain ⟨m, hm⟩ : ∃ m, Hb.num 2 x b = m := ⟨_, rfl⟩
      rw [hm] at ih hlt2
      have HM := Lib.hid hm
      have i3 : (b : Int) = (y : Int) - 4 := by omega
      rw [i3] at ih
      have IH := Lib.hid ih
      have i1 : (x : Int) < 4 := by omega
      have i2 : ¬ (y : Int) < 4 := by omega
      have i8 : (y : Int) < 8 := by omega
      clear i3
      clear ih hlt hm hx hy
      go_enter Tryz.func112, Tryz.ntmps112
      go_wp2_with (first
        | (go_at_call 112; refine (IH.out _).mono ?_; rintro e w1 ⟨rfl, rfl⟩))
      go_ret
      refine ⟨?_, rfl⟩
      rw [HE.out, HM.out]
      refine ret_int ?_
      omega
  · by_cases hys : 4 ≤ y
    · obtain ⟨a, ha⟩ : ∃ a, x - 4 = a := ⟨_, rfl⟩
      obtain ⟨b, hb⟩ : ∃ b, y - 4 = b := ⟨_, rfl⟩
      have hlt := Hb.num_lt 2 a b
      have hlt2 : Hb.num 2 a b < 16 := hlt
      have ih := l8Number_2 a b (by omega) (by omega)
      have HE : Hid (Hb.num 3 x y = 2 * 16 + Hb.num 2 a b) := by show _ = _; rw [HN.out, if_neg hxs, if_pos hys, ha, hb]
      obtain ⟨m, hm⟩ : ∃ m, Hb.num 2 a b = m := ⟨_, rfl⟩
      rw [hm] at ih hlt2
      have HM := Lib.hid hm
      have i3 : (b : Int) = (y : Int) - 4 := by omega
      have i5 : (a : Int) = (x : Int) - 4 := by omega
      rw [i3, i5] at ih
      have IH := Lib.hid ih
      have i1 : ¬ (x : Int) < 4 := by omega
      have i2 : (4 : Int) ≤ y := by omega
      have i8 : (y : Int) < 8 := by omega
      have i9 : (x : Int) < 8 := by omega
      clear i3 i5
      clear ih hlt hm hx hy
      go_enter Tryz.func112, Tryz.ntmps112
      go_wp2_with (first
        | (go_at_call 112; refine (IH.out _).mono ?_; rintro e w1 ⟨rfl, rfl⟩))
      go_ret
      refine ⟨?_, rfl⟩
      rw [HE.out, HM.out]
      refine ret_int ?_
      omega
    · obtain ⟨a, ha⟩ : ∃ a, 4 - 1 - y = a := ⟨_, rfl⟩
      obtain ⟨b, hb⟩ : ∃ b, 2 * 4 - 1 - x = b := ⟨_, rfl⟩
      have hlt := Hb.num_lt 2 a b
      have hlt2 : Hb.num 2 a b < 16 := hlt
      have ih := l8Number_2 a b (by omega) (by omega)
      have HE : Hid (Hb.num 3 x y = 3 * 16 + Hb.num 2 a b) := by show _ = _; rw [HN.out, if_neg hxs, if_neg hys, ha, hb]
      obtain ⟨m, hm⟩ : ∃ m, Hb.num 2 a b = m := ⟨_, rfl⟩
      rw [hm] at ih hlt2
      have HM := Lib.hid hm
      have i3 : (b : Int) = (7 : Int) - (x : Int) := by omega
      have i5 : (a : Int) = (3 : Int) - (y : Int) := by omega
      rw [i3, i5] at ih
      have IH := Lib.hid ih
      have i1 : ¬ (x : Int) < 4 := by omega
      have i2 : ¬ (4 : Int) ≤ y := by omega
      have i9 : (x : Int) < 8 := by omega
      clear i3 i5
      clear ih hlt hm hx hy
      go_enter Tryz.func112, Tryz.ntmps112
      go_wp2_with (first
        | (go_at_call 112; refine (IH.out _).mono ?_; rintro e w1 ⟨rfl, rfl⟩))
      go_ret
      refine ⟨?_, rfl⟩
      rw [HE.out, HM.out]
      refine ret_int ?_
      omega

set_option maxRecDepth 100000 in
set_option maxHeartbeats 1600000 in
theorem l8Cell_4 (n : Nat) (hn : n < 256) (w : World) :
    Calls Tryz.prog 111 #[.int .i64 4, .int .i64 n] w fun e w' => e = .returned (.tuple #[.int .i64 ((Hb.cell 4 n).1 : Nat), .int .i64 ((Hb.cell 4 n).2 : Nat)]) ∧ w = w' := by
  obtain ⟨q, hq⟩ : ∃ q, n / 64 = q := ⟨_, rfl⟩
  obtain ⟨r, hr⟩ : ∃ r, n % 64 = r := ⟨_, rfl⟩
  have hr1 : r < 64 := by omega
  have hq4 : q < 4 := by omega
  have ih := l8Cell_3 r hr1
  have hb := Hb.cell_lt 3 r
  obtain ⟨⟨x, y⟩, hc⟩ : ∃ c, Hb.cell 3 r = c := ⟨_, rfl⟩
  rw [hc] at ih hb
  have hx : x < 8 := hb.1
  have hy : y < 8 := hb.2
  have eq1 : (n : Int).tdiv 64 = (q : Int) := by rw [Int.tdiv_eq_ediv_of_nonneg (by omega)]; omega
  have eq2 : (n : Int).tmod 64 = (r : Int) := by rw [Int.tmod_eq_emod_of_nonneg (by omega)]; omega
  have eq3 : (n : Int) / 64 = (q : Int) := by omega
  have eq4 : (n : Int) % 64 = (r : Int) := by omega
  have HC : Hid (Hb.cell 4 n = (if q = 0 then (y, x) else if q = 1 then (x, y + 8) else if q = 2 then (x + 8, y + 8) else (2 * 8 - 1 - y, 8 - 1 - x))) := Hb.cell_step 3 n q r x y 8 hq hr hc rfl
  have IH := Lib.hid ih
  have hxs : (x : Int) < 8 := by omega
  have hys : (y : Int) < 8 := by omega
  clear ih hb hc hq hr hn
  obtain rfl | rfl | rfl | rfl : q = 0 ∨ q = 1 ∨ q = 2 ∨ q = 3 := by omega
  all_goals
    go_enter Tryz.func111, Tryz.ntmps111
    go_wp2_with (first
      | (go_at_call 111; refine (IH.out _).mono ?_; rintro e w1 ⟨rfl, rfl⟩))
    go_ret2
    refine ⟨?_, rfl⟩
    rw [HC.out]
    refine ret_two ?_ ?_ <;> simp <;> omega

set_option maxRecDepth 100000 in
set_option maxHeartbeats 1600000 in
theorem l8Number_4 (x y : Nat) (hx : x < 16) (hy : y < 16) (w : World) :
    Calls Tryz.prog 112 #[.int .i64 4, .int .i64 x, .int .i64 y] w fun e w' => e = .returned (.int .i64 (Hb.num 4 x y : Nat)) ∧ w = w' := by
  have HN : Hid (Hb.num 4 x y = if x < 8 then (if y < 8 then Hb.num 3 y x else 64 + Hb.num 3 x (y - 8)) else if 8 ≤ y then 2 * 64 + Hb.num 3 (x - 8) (y - 8) else 3 * 64 + Hb.num 3 (8 - 1 - y) (2 * 8 - 1 - x)) := rfl
  by_cases hxs : x < 8
  · by_cases hys : y < 8
    · have IH := Lib.hid (l8Number_3 y x hys hxs)
      have i1 : (x : Int) < 8 := by omega
      have i2 : (y : Int) < 8 := by omega
      clear hx hy
      go_enter Tryz.func112, Tryz.ntmps112
      go_wp2_with (first
        | (go_at_call 112; refine (IH.out _).mono ?_; rintro e w1 ⟨rfl, rfl⟩))
      go_ret
      refine ⟨?_, rfl⟩
      rw [HN.out, if_pos hxs, if_pos hys]
      rfl
    · obtain ⟨b, hb⟩ : ∃ b, y - 8 = b := ⟨_, rfl⟩
      have hlt := Hb.num_lt 3 x b
      have hlt2 : Hb.num 3 x b < 64 := hlt
      have ih := l8Number_3 x b hxs (by omega)
      have HE : Hid (Hb.num 4 x y = 64 + Hb.num 3 x b) := by show _ = _; rw [HN.out, if_pos hxs, if_neg hys, hb]
      obtain ⟨m, hm⟩ : ∃ m, Hb.num 3 x b = m := ⟨_, rfl⟩
      rw [hm] at ih hlt2
      have HM := Lib.hid hm
      have i3 : (b : Int) = (y : Int) - 8 := by omega
      rw [i3] at ih
      have IH := Lib.hid ih
      have i1 : (x : Int) < 8 := by omega
      have i2 : ¬ (y : Int) < 8 := by omega
      have i8 : (y : Int) < 16 := by omega
      clear i3
      clear ih hlt hm hx hy
      go_enter Tryz.func112, Tryz.ntmps112
      go_wp2_with (first
        | (go_at_call 112; refine (IH.out _).mono ?_; rintro e w1 ⟨rfl, rfl⟩))
      go_ret
      refine ⟨?_, rfl⟩
      rw [HE.out, HM.out]
      refine ret_int ?_
      omega
  · by_cases hys : 8 ≤ y
    · obtain ⟨a, ha⟩ : ∃ a, x - 8 = a := ⟨_, rfl⟩
      obtain ⟨b, hb⟩ : ∃ b, y - 8 = b := ⟨_, rfl⟩
      have hlt := Hb.num_lt 3 a b
      have hlt2 : Hb.num 3 a b < 64 := hlt
      have ih := l8Number_3 a b (by omega) (by omega)
      have HE : Hid (Hb.num 4 x y = 2 * 64 + Hb.num 3 a b) := by show _ = _; rw [HN.out, if_neg hxs, if_pos hys, ha, hb]
      obtain ⟨m, hm⟩ : ∃ m, Hb.num 3 a b = m := ⟨_, rfl⟩
      rw [hm] at ih hlt2
      have HM := Lib.hid hm
      have i3 : (b : Int) = (y : Int) - 8 := by omega
      have i5 : (a : Int) = (x : Int) - 8 := by omega
      rw [i3, i5] at ih
      have IH := Lib.hid ih
      have i1 : ¬ (x : Int) < 8 := by omega
      have i2 : (8 : Int) ≤ y := by omega
      have i8 : (y : Int) < 16 := by omega
      have i9 : (x : Int) < 16 := by omega
      clear i3 i5
      clear ih hlt hm hx hy
      go_enter Tryz.func112, Tryz.ntmps112
      go_wp2_with (first
        | (go_at_call 112; refine (IH.out _).mono ?_; rintro e w1 ⟨rfl, rfl⟩))
      go_ret
      refine ⟨?_, rfl⟩
      rw [HE.out, HM.out]
      refine ret_int ?_
      omega
    · obtain ⟨a, ha⟩ : ∃ a, 8 - 1 - y = a := ⟨_, rfl⟩
      obtain ⟨b, hb⟩ : ∃ b, 2 * 8 - 1 - x = b := ⟨_, rfl⟩
      have hlt := Hb.num_lt 3 a b
      have hlt2 : Hb.num 3 a b < 64 := hlt
      have ih := l8Number_3 a b (by omega) (by omega)
      have HE : Hid (Hb.num 4 x y = 3 * 64 + Hb.num 3 a b) := by show _ = _; rw [HN.out, if_neg hxs, if_neg hys, ha, hb]
      obtain ⟨m, hm⟩ : ∃ m, Hb.num 3 a b = m := ⟨_, rfl⟩
      rw [hm] at ih hlt2
      have HM := Lib.hid hm
      have i3 : (b : Int) = (15 : Int) - (x : Int) := by omega
      have i5 : (a : Int) = (7 : Int) - (y : Int) := by omega
      rw [i3, i5] at ih
      have IH := Lib.hid ih
      have i1 : ¬ (x : Int) < 8 := by omega
      have i2 : ¬ (8 : Int) ≤ y := by omega
      have i9 : (x : Int) < 16 := by omega
      clear i3 i5
      clear ih hlt hm hx hy
      go_enter Tryz.func112, Tryz.ntmps112
      go_wp2_with (first
        | (go_at_call 112; refine (IH.out _).mono ?_; rintro e w1 ⟨rfl, rfl⟩))
      go_ret
      refine ⟨?_, rfl⟩
      rw [HE.out, HM.out]
      refine ret_int ?_
      omega

set_option maxRecDepth 100000 in
set_option maxHeartbeats 1600000 in
theorem l8Cell_5 (n : Nat) (hn : n < 1024) (w : World) :
    Calls Tryz.prog 111 #[.int .i64 5, .int .i64 n] w fun e w' => e = .returned (.tuple #[.int .i64 ((Hb.cell 5 n).1 : Nat), .int .i64 ((Hb.cell 5 n).2 : Nat)]) ∧ w = w' := by
  obtain ⟨q, hq⟩ : ∃ q, n / 256 = q := ⟨_, rfl⟩
  obtain ⟨r, hr⟩ : ∃ r, n % 256 = r := ⟨_, rfl⟩
  have hr1 : r < 256 := by omega
  have hq4 : q < 4 := by omega
  have ih := l8Cell_4 r hr1
  have hb := Hb.cell_lt 4 r
  obtain ⟨⟨x, y⟩, hc⟩ : ∃ c, Hb.cell 4 r = c := ⟨_, rfl⟩
  rw [hc] at ih hb
  have hx : x < 16 := hb.1
  have hy : y < 16 := hb.2
  have eq1 : (n : Int).tdiv 256 = (q : Int) := by rw [Int.tdiv_eq_ediv_of_nonneg (by omega)]; omega
  have eq2 : (n : Int).tmod 256 = (r : Int) := by rw [Int.tmod_eq_emod_of_nonneg (by omega)]; omega
  have eq3 : (n : Int) / 256 = (q : Int) := by omega
  have eq4 : (n : Int) % 256 = (r : Int) := by omega
  have HC : Hid (Hb.cell 5 n = (if q = 0 then (y, x) else if q = 1 then (x, y + 16) else if q = 2 then (x + 16, y + 16) else (2 * 16 - 1 - y, 16 - 1 - x))) := Hb.cell_step 4 n q r x y 16 hq hr hc rfl
  have IH := Lib.hid ih
  have hxs : (x : Int) < 16 := by omega
  have hys : (y : Int) < 16 := by omega
  clear ih hb hc hq hr hn
  obtain rfl | rfl | rfl | rfl : q = 0 ∨ q = 1 ∨ q = 2 ∨ q = 3 := by omega
  all_goals
    go_enter Tryz.func111, Tryz.ntmps111
    go_wp2_with (first
      | (go_at_call 111; refine (IH.out _).mono ?_; rintro e w1 ⟨rfl, rfl⟩))
    go_ret2
    refine ⟨?_, rfl⟩
    rw [HC.out]
    refine ret_two ?_ ?_ <;> simp <;> omega

set_option maxRecDepth 100000 in
set_option maxHeartbeats 1600000 in
theorem l8Number_5 (x y : Nat) (hx : x < 32) (hy : y < 32) (w : World) :
    Calls Tryz.prog 112 #[.int .i64 5, .int .i64 x, .int .i64 y] w fun e w' => e = .returned (.int .i64 (Hb.num 5 x y : Nat)) ∧ w = w' := by
  have HN : Hid (Hb.num 5 x y = if x < 16 then (if y < 16 then Hb.num 4 y x else 256 + Hb.num 4 x (y - 16)) else if 16 ≤ y then 2 * 256 + Hb.num 4 (x - 16) (y - 16) else 3 * 256 + Hb.num 4 (16 - 1 - y) (2 * 16 - 1 - x)) := rfl
  by_cases hxs : x < 16
  · by_cases hys : y < 16
    · have IH := Lib.hid (l8Number_4 y x hys hxs)
      have i1 : (x : Int) < 16 := by omega
      have i2 : (y : Int) < 16 := by omega
      clear hx hy
      go_enter Tryz.func112, Tryz.ntmps112
      go_wp2_with (first
        | (go_at_call 112; refine (IH.out _).mono ?_; rintro e w1 ⟨rfl, rfl⟩))
      go_ret
      refine ⟨?_, rfl⟩
      rw [HN.out, if_pos hxs, if_pos hys]
      rfl
    · obtain ⟨b, hb⟩ : ∃ b, y - 16 = b := ⟨_, rfl⟩
      have hlt := Hb.num_lt 4 x b
      have hlt2 : Hb.num 4 x b < 256 := hlt
      have ih := l8Number_4 x b hxs (by omega)
      have HE : Hid (Hb.num 5 x y = 256 + Hb.num 4 x b) := by show _ = _; rw [HN.out, if_pos hxs, if_neg hys, hb]
      obtain ⟨m, hm⟩ : ∃ m, Hb.num 4 x b = m := ⟨_, rfl⟩
      rw [hm] at ih hlt2
      have HM := Lib.hid hm
      have i3 : (b : Int) = (y : Int) - 16 := by omega
      rw [i3] at ih
      have IH := Lib.hid ih
      have i1 : (x : Int) < 16 := by omega
      have i2 : ¬ (y : Int) < 16 := by omega
      have i8 : (y : Int) < 32 := by omega
      clear i3
      clear ih hlt hm hx hy
      go_enter Tryz.func112, Tryz.ntmps112
      go_wp2_with (first
        | (go_at_call 112; refine (IH.out _).mono ?_; rintro e w1 ⟨rfl, rfl⟩))
      go_ret
      refine ⟨?_, rfl⟩
      rw [HE.out, HM.out]
      refine ret_int ?_
      omega
  · by_cases hys : 16 ≤ y
    · obtain ⟨a, ha⟩ : ∃ a, x - 16 = a := ⟨_, rfl⟩
      obtain ⟨b, hb⟩ : ∃ b, y - 16 = b := ⟨_, rfl⟩
      have hlt := Hb.num_lt 4 a b
      have hlt2 : Hb.num 4 a b < 256 := hlt
      have ih := l8Number_4 a b (by omega) (by omega)
      have HE : Hid (Hb.num 5 x y = 2 * 256 + Hb.num 4 a b) := by show _ = _; rw [HN.out, if_neg hxs, if_pos hys, ha, hb]
      obtain ⟨m, hm⟩ : ∃ m, Hb.num 4 a b = m := ⟨_, rfl⟩
      rw [hm] at ih hlt2
      have HM := Lib.hid hm
      have i3 : (b : Int) = (y : Int) - 16 := by omega
      have i5 : (a : Int) = (x : Int) - 16 := by omega
      rw [i3, i5] at ih
      have IH := Lib.hid ih
      have i1 : ¬ (x : Int) < 16 := by omega
      have i2 : (16 : Int) ≤ y := by omega
      have i8 : (y : Int) < 32 := by omega
      have i9 : (x : Int) < 32 := by omega
      clear i3 i5
      clear ih hlt hm hx hy
      go_enter Tryz.func112, Tryz.ntmps112
      go_wp2_with (first
        | (go_at_call 112; refine (IH.out _).mono ?_; rintro e w1 ⟨rfl, rfl⟩))
      go_ret
      refine ⟨?_, rfl⟩
      rw [HE.out, HM.out]
      refine ret_int ?_
      omega
    · obtain ⟨a, ha⟩ : ∃ a, 16 - 1 - y = a := ⟨_, rfl⟩
      obtain ⟨b, hb⟩ : ∃ b, 2 * 16 - 1 - x = b := ⟨_, rfl⟩
      have hlt := Hb.num_lt 4 a b
      have hlt2 : Hb.num 4 a b < 256 := hlt
      have ih := l8Number_4 a b (by omega) (by omega)
      have HE : Hid (Hb.num 5 x y = 3 * 256 + Hb.num 4 a b) := by show _ = _; rw [HN.out, if_neg hxs, if_neg hys, ha, hb]
      obtain ⟨m, hm⟩ : ∃ m, Hb.num 4 a b = m := ⟨_, rfl⟩
      rw [hm] at ih hlt2
      have HM := Lib.hid hm
      have i3 : (b : Int) = (31 : Int) - (x : Int) := by omega
      have i5 : (a : Int) = (15 : Int) - (y : Int) := by omega
      rw [i3, i5] at ih
      have IH := Lib.hid ih
      have i1 : ¬ (x : Int) < 16 := by omega
      have i2 : ¬ (16 : Int) ≤ y := by omega
      have i9 : (x : Int) < 32 := by omega
      clear i3 i5
      clear ih hlt hm hx hy
      go_enter Tryz.func112, Tryz.ntmps112
      go_wp2_with (first
        | (go_at_call 112; refine (IH.out _).mono ?_; rintro e w1 ⟨rfl, rfl⟩))
      go_ret
      refine ⟨?_, rfl⟩
      rw [HE.out, HM.out]
      refine ret_int ?_
      omega

end Go.Proofs.YtccdfndnjjjgfaaGreatDoor
