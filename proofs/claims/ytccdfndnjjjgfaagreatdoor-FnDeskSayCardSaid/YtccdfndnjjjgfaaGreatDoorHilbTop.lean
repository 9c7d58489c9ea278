/-
  Contracts of CellOf and NumberOf (both) at numbers of four digits (printed by gen_hilbt.py).
-/
import Derived.Test.YtccdfndnjjjgfaaGreatDoorHilbSpec
import Derived.Test.YtccdfndnjjjgfaaGreatDoorHilbNumb
namespace Go.Proofs.YtccdfndnjjjgfaaGreatDoor
open Go.RowKit

theorem cell_in {a b : Nat} (h : a ≤ 5) (k : b < 4 ^ a) : cellRes a b = (Hb.cell a b, true) := if_pos ⟨h, k⟩
theorem cell_out {a b : Nat} (h : ¬ (a ≤ 5 ∧ b < 4 ^ a)) : cellRes a b = ((0, 0), false) := if_neg h
theorem numb_in {a x y : Nat} (h : a ≤ 5) (k : x < 2 ^ a) (l : y < 2 ^ a) : numbRes a x y = (Hb.num a x y : Int) := if_pos ⟨h, k, l⟩
theorem numb_out {a x y : Nat} (h : ¬ (a ≤ 5 ∧ x < 2 ^ a ∧ y < 2 ^ a)) : numbRes a x y = -1 := if_neg h
theorem ret_cell3 {a b : Nat} {c : Nat × Nat} {t : Bool} (h : cellRes a b = (c, t)) {w : World} : CellOut a b w (.returned (.tuple #[.int .i64 (c.1 : Nat), .int .i64 (c.2 : Nat), .bool t])) w := by
  unfold CellOut
  rw [h]
  exact ⟨rfl, rfl⟩
def NumbOut (a x y : Nat) (w : World) (e : Ending) (w' : World) : Prop := e = .returned (.int .i64 (numbRes a x y)) ∧ Below w.heap.size w w'
theorem drew_same {w : World} : Below w.heap.size w w := Below.refl _ _

set_option maxRecDepth 100000 in
set_option maxHeartbeats 1600000 in
theorem specCell_0 (b : Nat) (w : World) : Calls Tryz.prog 63 #[.int .i64 0, .int .i64 b] w (CellOut 0 b w) := by
  by_cases hb : b < 1
  · obtain rfl : b = 0 := by omega
    have HC : Hid (∀ W, Calls Tryz.prog 111 #[.int .i64 0, .int .i64 0] W fun e w' => e = .returned (.tuple #[.int .i64 0, .int .i64 0]) ∧ W = w') := l8Cell_0 0
    have HR : Hid (cellRes 0 0 = ((0, 0), true)) := rfl
    go_enter Tryz.func63, Tryz.ntmps63
    go_wp2_with (first
      | (go_at_call 110; refine (in_any _ _ _ _).mono ?_; rintro e w1 ⟨rfl, rfl⟩)
      | (go_at_call 111; refine (HC.out _).mono ?_; rintro e w1 ⟨rfl, rfl⟩))
    refine bodyPost_ret (v := .tuple #[.int .i64 0, .int .i64 0, .bool true]) (by simp [results, Tryz.results63, go_sem]) rfl ?_
    exact ret_cell3 (c := (0, 0)) HR.out
  · have HR := Lib.hid (cell_out (a := 0) (b := b) (fun h => hb h.2))
    have HN := Lib.hid (in_no (b : Int) 0 0)
    go_enter Tryz.func63, Tryz.ntmps63
    go_wp2_with (first
      | (go_at_call_of 110 (Value.int .i64 5); refine (in_any _ _ _ _).mono ?_; rintro e w1 ⟨rfl, rfl⟩)
      | (go_at_call 110; refine (HN.out _ (by omega)).mono ?_; rintro e w1 ⟨rfl, rfl⟩))
    refine bodyPost_ret (v := .tuple #[.int .i64 0, .int .i64 0, .bool false]) (by simp [results, Tryz.results63, go_sem]) rfl ?_
    exact ret_cell3 (c := (0, 0)) HR.out
set_option maxRecDepth 100000 in
set_option maxHeartbeats 1600000 in
theorem implCell_0 (b : Nat) (w : World) : Calls Tryz.prog 99 #[.int .i64 0, .int .i64 b] w (CellOut 0 b w) := by
  by_cases hb : b < 1
  · refine (cellOf_0 b hb w).mono ?_
    rintro e w' ⟨rfl, rfl⟩
    exact ret_cell3 (cell_in (a := 0) (b := b) (by decide) hb)
  · have HR := Lib.hid (cell_out (a := 0) (b := b) (fun h => hb h.2))
    have HO := Lib.hid (halvesOk_any 0)
    have i1 : (1 : Int) ≤ b := by omega
    clear hb
    go_enter Tryz.func99, Tryz.ntmps99
    go_wp2_with (first
      | (go_at_call 132; refine (HO.out _).mono ?_; rintro e w1 ⟨rfl, rfl⟩))
    refine bodyPost_ret (v := .tuple #[.int .i64 0, .int .i64 0, .bool false]) (by simp [results, Tryz.results99, go_sem]) rfl ?_
    exact ret_cell3 (c := (0, 0)) HR.out
set_option maxRecDepth 100000 in
set_option maxHeartbeats 1600000 in
theorem specNumb_0 (x y : Nat) (w : World) : Calls Tryz.prog 64 #[.int .i64 0, .int .i64 x, .int .i64 y] w (NumbOut 0 x y w) := by
  by_cases hx : x < 1
  · obtain rfl : x = 0 := by omega
    by_cases hy : y < 1
    · obtain rfl : y = 0 := by omega
      have HN : Hid (∀ W, Calls Tryz.prog 112 #[.int .i64 0, .int .i64 0, .int .i64 0] W fun e w' => e = .returned (.int .i64 0) ∧ W = w') := l8Number_0 0 0
      have HR : Hid (numbRes 0 0 0 = 0) := rfl
      go_enter Tryz.func64, Tryz.ntmps64
      go_wp2_with (first
        | (go_at_call 110; refine (in_any _ _ _ _).mono ?_; rintro e w1 ⟨rfl, rfl⟩)
        | (go_at_call 112; refine (HN.out _).mono ?_; rintro e w1 ⟨rfl, rfl⟩))
      go_ret
      exact ⟨by rw [HR.out]; rfl, Below.refl _ _⟩
    · have HR := Lib.hid (numb_out (a := 0) (x := 0) (y := y) (fun h => hy h.2.2))
      have HN := Lib.hid (in_no (y : Int) 0 0)
      go_enter Tryz.func64, Tryz.ntmps64
      go_wp2_with (first
        | (go_at_call_of 110 (Value.int .i64 5); refine (in_any _ _ _ _).mono ?_; rintro e w1 ⟨rfl, rfl⟩)
        | (go_at_call_of 110 (Value.int .i64 (y : Int)); refine (HN.out _ (by omega)).mono ?_; rintro e w1 ⟨rfl, rfl⟩)
        | (go_at_call 110; refine (in_any _ _ _ _).mono ?_; rintro e w1 ⟨rfl, rfl⟩))
      go_ret
      exact ⟨by rw [HR.out]; rfl, Below.refl _ _⟩
  · have HR := Lib.hid (numb_out (a := 0) (x := x) (y := y) (fun h => hx h.2.1))
    have HN := Lib.hid (in_no (x : Int) 0 0)
    go_enter Tryz.func64, Tryz.ntmps64
    go_wp2_with (first
      | (go_at_call_of 110 (Value.int .i64 5); refine (in_any _ _ _ _).mono ?_; rintro e w1 ⟨rfl, rfl⟩)
      | (go_at_call 110; refine (HN.out _ (by omega)).mono ?_; rintro e w1 ⟨rfl, rfl⟩))
    go_ret
    exact ⟨by rw [HR.out]; rfl, Below.refl _ _⟩
set_option maxRecDepth 100000 in
set_option maxHeartbeats 1600000 in
theorem implNumb_0 (x y : Nat) (w : World) : Calls Tryz.prog 101 #[.int .i64 0, .int .i64 x, .int .i64 y] w (NumbOut 0 x y w) := by
  by_cases h : x < 1 ∧ y < 1
  · refine (numberOf_0 x y h.1 h.2 w).mono ?_
    rintro e w' ⟨rfl, hb⟩
    exact ⟨by rw [numb_in (a := 0) (by decide) h.1 h.2], hb⟩
  · have HR := Lib.hid (numb_out (a := 0) (x := x) (y := y) (fun k => h k.2))
    have HO := Lib.hid (cellOk_0 x y false (by show _ = _; rw [decide_eq_false h]))
    clear h
    go_enter Tryz.func101, Tryz.ntmps101
    go_wp2_with (first
      | (go_at_call 134; refine (HO.out _).mono ?_; rintro e w1 ⟨rfl, rfl⟩))
    go_ret
    exact ⟨by rw [HR.out]; rfl, Below.refl _ _⟩

set_option maxRecDepth 100000 in
set_option maxHeartbeats 1600000 in
theorem specCell_1 (b : Nat) (w : World) : Calls Tryz.prog 63 #[.int .i64 1, .int .i64 b] w (CellOut 1 b w) := by
  by_cases hb : b < 4
  · have HC := Lib.hid (l8Cell_1 b hb)
    have HR := Lib.hid (cell_in (a := 1) (b := b) (by decide) hb)
    have i0 : (0 : Int) ≤ (b : Int) := by omega
    have i1 : (b : Int) ≤ 3 := by omega
    go_enter Tryz.func63, Tryz.ntmps63
    go_wp2_with (first
      | (go_at_call 110; refine (in_any _ _ _ _).mono ?_; rintro e w1 ⟨rfl, rfl⟩)
      | (go_at_call 111; refine (HC.out _).mono ?_; rintro e w1 ⟨rfl, rfl⟩))
    refine bodyPost_ret (v := .tuple #[.int .i64 ((Hb.cell 1 b).1 : Nat), .int .i64 ((Hb.cell 1 b).2 : Nat), .bool true]) (by simp [results, Tryz.results63, go_sem]) rfl ?_
    exact ret_cell3 HR.out
  · have HR := Lib.hid (cell_out (a := 1) (b := b) (fun h => hb h.2))
    have i0 : (0 : Int) ≤ (b : Int) := by omega
    have d1 : decide ((b : Int) ≤ 3) = false := decide_eq_false (by omega)
    go_enter Tryz.func63, Tryz.ntmps63
    go_wp2_with (first
      | (go_at_call 110; refine (in_any _ _ _ _).mono ?_; rintro e w1 ⟨rfl, rfl⟩))
    refine bodyPost_ret (v := .tuple #[.int .i64 0, .int .i64 0, .bool false]) (by simp [results, Tryz.results63, go_sem]) rfl ?_
    exact ret_cell3 (c := (0, 0)) HR.out
set_option maxRecDepth 100000 in
set_option maxHeartbeats 1600000 in
theorem implCell_1 (b : Nat) (w : World) : Calls Tryz.prog 99 #[.int .i64 1, .int .i64 b] w (CellOut 1 b w) := by
  by_cases hb : b < 4
  · refine (cellOf_1 b hb w).mono ?_
    rintro e w' ⟨rfl, rfl⟩
    exact ret_cell3 (cell_in (a := 1) (b := b) (by decide) hb)
  · have HR := Lib.hid (cell_out (a := 1) (b := b) (fun h => hb h.2))
    have HO := Lib.hid (halvesOk_any 1)
    have i1 : (4 : Int) ≤ b := by omega
    clear hb
    go_enter Tryz.func99, Tryz.ntmps99
    go_wp2_with (first
      | (go_at_call 132; refine (HO.out _).mono ?_; rintro e w1 ⟨rfl, rfl⟩))
    refine bodyPost_ret (v := .tuple #[.int .i64 0, .int .i64 0, .bool false]) (by simp [results, Tryz.results99, go_sem]) rfl ?_
    exact ret_cell3 (c := (0, 0)) HR.out
set_option maxRecDepth 100000 in
set_option maxHeartbeats 1600000 in
theorem specNumb_1 (x y : Nat) (w : World) : Calls Tryz.prog 64 #[.int .i64 1, .int .i64 x, .int .i64 y] w (NumbOut 1 x y w) := by
  by_cases hx : x < 2
  · by_cases hy : y < 2
    · have HN := Lib.hid (l8Number_1 x y hx hy)
      have HR := Lib.hid (numb_in (a := 1) (x := x) (y := y) (by decide) hx hy)
      have i0 : (0 : Int) ≤ (x : Int) := by omega
      have i1 : (x : Int) ≤ 1 := by omega
      have i2 : (0 : Int) ≤ (y : Int) := by omega
      have i3 : (y : Int) ≤ 1 := by omega
      go_enter Tryz.func64, Tryz.ntmps64
      go_wp2_with (first
        | (go_at_call 110; refine (in_any _ _ _ _).mono ?_; rintro e w1 ⟨rfl, rfl⟩)
        | (go_at_call 112; refine (HN.out _).mono ?_; rintro e w1 ⟨rfl, rfl⟩))
      go_ret
      exact ⟨by rw [HR.out]; rfl, Below.refl _ _⟩
    · have HR := Lib.hid (numb_out (a := 1) (x := x) (y := y) (fun h => hy h.2.2))
      have i0 : (0 : Int) ≤ (x : Int) := by omega
      have i1 : (x : Int) ≤ 1 := by omega
      have i2 : (0 : Int) ≤ (y : Int) := by omega
      have d1 : decide ((y : Int) ≤ 1) = false := decide_eq_false (by omega)
      go_enter Tryz.func64, Tryz.ntmps64
      go_wp2_with (first
        | (go_at_call 110; refine (in_any _ _ _ _).mono ?_; rintro e w1 ⟨rfl, rfl⟩))
      go_ret
      exact ⟨by rw [HR.out]; rfl, Below.refl _ _⟩
  · have HR := Lib.hid (numb_out (a := 1) (x := x) (y := y) (fun h => hx h.2.1))
    have i0 : (0 : Int) ≤ (x : Int) := by omega
    have d1 : decide ((x : Int) ≤ 1) = false := decide_eq_false (by omega)
    go_enter Tryz.func64, Tryz.ntmps64
    go_wp2_with (first
      | (go_at_call 110; refine (in_any _ _ _ _).mono ?_; rintro e w1 ⟨rfl, rfl⟩))
    go_ret
    exact ⟨by rw [HR.out]; rfl, Below.refl _ _⟩
set_option maxRecDepth 100000 in
set_option maxHeartbeats 1600000 in
theorem implNumb_1 (x y : Nat) (w : World) : Calls Tryz.prog 101 #[.int .i64 1, .int .i64 x, .int .i64 y] w (NumbOut 1 x y w) := by
  by_cases h : x < 2 ∧ y < 2
  · refine (numberOf_1 x y h.1 h.2 w).mono ?_
    rintro e w' ⟨rfl, hb⟩
    exact ⟨by rw [numb_in (a := 1) (by decide) h.1 h.2], hb⟩
  · have HR := Lib.hid (numb_out (a := 1) (x := x) (y := y) (fun k => h k.2))
    have HO := Lib.hid (cellOk_1 x y false (by show _ = _; rw [decide_eq_false h]))
    clear h
    go_enter Tryz.func101, Tryz.ntmps101
    go_wp2_with (first
      | (go_at_call 134; refine (HO.out _).mono ?_; rintro e w1 ⟨rfl, rfl⟩))
    go_ret
    exact ⟨by rw [HR.out]; rfl, Below.refl _ _⟩

set_option maxRecDepth 100000 in
set_option maxHeartbeats 1600000 in
theorem specCell_2 (b : Nat) (w : World) : Calls Tryz.prog 63 #[.int .i64 2, .int .i64 b] w (CellOut 2 b w) := by
  by_cases hb : b < 16
  · have HC := Lib.hid (l8Cell_2 b hb)
    have HR := Lib.hid (cell_in (a := 2) (b := b) (by decide) hb)
    have i0 : (0 : Int) ≤ (b : Int) := by omega
    have i1 : (b : Int) ≤ 15 := by omega
    go_enter Tryz.func63, Tryz.ntmps63
    go_wp2_with (first
      | (go_at_call 110; refine (in_any _ _ _ _).mono ?_; rintro e w1 ⟨rfl, rfl⟩)
      | (go_at_call 111; refine (HC.out _).mono ?_; rintro e w1 ⟨rfl, rfl⟩))
    refine bodyPost_ret (v := .tuple #[.int .i64 ((Hb.cell 2 b).1 : Nat), .int .i64 ((Hb.cell 2 b).2 : Nat), .bool true]) (by simp [results, Tryz.results63, go_sem]) rfl ?_
    exact ret_cell3 HR.out
  · have HR := Lib.hid (cell_out (a := 2) (b := b) (fun h => hb h.2))
    have i0 : (0 : Int) ≤ (b : Int) := by omega
    have d1 : decide ((b : Int) ≤ 15) = false := decide_eq_false (by omega)
    go_enter Tryz.func63, Tryz.ntmps63
    go_wp2_with (first
      | (go_at_call 110; refine (in_any _ _ _ _).mono ?_; rintro e w1 ⟨rfl, rfl⟩))
    refine bodyPost_ret (v := .tuple #[.int .i64 0, .int .i64 0, .bool false]) (by simp [results, Tryz.results63, go_sem]) rfl ?_
    exact ret_cell3 (c := (0, 0)) HR.out
set_option maxRecDepth 100000 in
set_option maxHeartbeats 1600000 in
theorem implCell_2 (b : Nat) (w : World) : Calls Tryz.prog 99 #[.int .i64 2, .int .i64 b] w (CellOut 2 b w) := by
  by_cases hb : b < 16
  · refine (cellOf_2 b hb w).mono ?_
    rintro e w' ⟨rfl, rfl⟩
    exact ret_cell3 (cell_in (a := 2) (b := b) (by decide) hb)
  · have HR := Lib.hid (cell_out (a := 2) (b := b) (fun h => hb h.2))
    have HO := Lib.hid (halvesOk_any 2)
    have i1 : (16 : Int) ≤ b := by omega
    clear hb
    go_enter Tryz.func99, Tryz.ntmps99
    go_wp2_with (first
      | (go_at_call 132; refine (HO.out _).mono ?_; rintro e w1 ⟨rfl, rfl⟩))
    refine bodyPost_ret (v := .tuple #[.int .i64 0, .int .i64 0, .bool false]) (by simp [results, Tryz.results99, go_sem]) rfl ?_
    exact ret_cell3 (c := (0, 0)) HR.out
set_option maxRecDepth 100000 in
set_option maxHeartbeats 1600000 in
theorem specNumb_2 (x y : Nat) (w : World) : Calls Tryz.prog 64 #[.int .i64 2, .int .i64 x, .int .i64 y] w (NumbOut 2 x y w) := by
  by_cases hx : x < 4
  · by_cases hy : y < 4
    · have HN := Lib.hid (l8Number_2 x y hx hy)
      have HR := Lib.hid (numb_in (a := 2) (x := x) (y := y) (by decide) hx hy)
      have i0 : (0 : Int) ≤ (x : Int) := by omega
      have i1 : (x : Int) ≤ 3 := by omega
      have i2 : (0 : Int) ≤ (y : Int) := by omega
      have i3 : (y : Int) ≤ 3 := by omega
      go_enter Tryz.func64, Tryz.ntmps64
      go_wp2_with (first
        | (go_at_call 110; refine (in_any _ _ _ _).mono ?_; rintro e w1 ⟨rfl, rfl⟩)
        | (go_at_call 112; refine (HN.out _).mono ?_; rintro e w1 ⟨rfl, rfl⟩))
      go_ret
      exact ⟨by rw [HR.out]; rfl, Below.refl _ _⟩
    · have HR := Lib.hid (numb_out (a := 2) (x := x) (y := y) (fun h => hy h.2.2))
      have i0 : (0 : Int) ≤ (x : Int) := by omega
      have i1 : (x : Int) ≤ 3 := by omega
      have i2 : (0 : Int) ≤ (y : Int) := by omega
      have d1 : decide ((y : Int) ≤ 3) = false := decide_eq_false (by omega)
      go_enter Tryz.func64, Tryz.ntmps64
      go_wp2_with (first
        | (go_at_call 110; refine (in_any _ _ _ _).mono ?_; rintro e w1 ⟨rfl, rfl⟩))
      go_ret
      exact ⟨by rw [HR.out]; rfl, Below.refl _ _⟩
  · have HR := Lib.hid (numb_out (a := 2) (x := x) (y := y) (fun h => hx h.2.1))
    have i0 : (0 : Int) ≤ (x : Int) := by omega
    have d1 : decide ((x : Int) ≤ 3) = false := decide_eq_false (by omega)
    go_enter Tryz.func64, Tryz.ntmps64
    go_wp2_with (first
      | (go_at_call 110; refine (in_any _ _ _ _).mono ?_; rintro e w1 ⟨rfl, rfl⟩))
    go_ret
    exact ⟨by rw [HR.out]; rfl, Below.refl _ _⟩
set_option maxRecDepth 100000 in
set_option maxHeartbeats 1600000 in
theorem implNumb_2 (x y : Nat) (w : World) : Calls Tryz.prog 101 #[.int .i64 2, .int .i64 x, .int .i64 y] w (NumbOut 2 x y w) := by
  by_cases h : x < 4 ∧ y < 4
  · refine (numberOf_2 x y h.1 h.2 w).mono ?_
    rintro e w' ⟨rfl, hb⟩
    exact ⟨by rw [numb_in (a := 2) (by decide) h.1 h.2], hb⟩
  · have HR := Lib.hid (numb_out (a := 2) (x := x) (y := y) (fun k => h k.2))
    have HO := Lib.hid (cellOk_2 x y false (by show _ = _; rw [decide_eq_false h]))
    clear h
    go_enter Tryz.func101, Tryz.ntmps101
    go_wp2_with (first
      | (go_at_call 134; refine (HO.out _).mono ?_; rintro e w1 ⟨rfl, rfl⟩))
    go_ret
    exact ⟨by rw [HR.out]; rfl, Below.refl _ _⟩

set_option maxRecDepth 100000 in
set_option maxHeartbeats 1600000 in
theorem specCell_3 (b : Nat) (w : World) : Calls Tryz.prog 63 #[.int .i64 3, .int .i64 b] w (CellOut 3 b w) := by
  by_cases hb : b < 64
  · have HC := Lib.hid (l8Cell_3 b hb)
    have HR := Lib.hid (cell_in (a := 3) (b := b) (by decide) hb)
    have i0 : (0 : Int) ≤ (b : Int) := by omega
    have i1 : (b : Int) ≤ 63 := by omega
    go_enter Tryz.func63, Tryz.ntmps63
    go_wp2_with (first
      | (go_at_call 110; refine (in_any _ _ _ _).mono ?_; rintro e w1 ⟨rfl, rfl⟩)
      | (go_at_call 111; refine (HC.out _).mono ?_; rintro e w1 ⟨rfl, rfl⟩))
    refine bodyPost_ret (v := .tuple #[.int .i64 ((Hb.cell 3 b).1 : Nat), .int .i64 ((Hb.cell 3 b).2 : Nat), .bool true]) (by simp [results, Tryz.results63, go_sem]) rfl ?_
    exact ret_cell3 HR.out
  · have HR := Lib.hid (cell_out (a := 3) (b := b) (fun h => hb h.2))
    have i0 : (0 : Int) ≤ (b : Int) := by omega
    have d1 : decide ((b : Int) ≤ 63) = false := decide_eq_false (by omega)
    go_enter Tryz.func63, Tryz.ntmps63
    go_wp2_with (first
      | (go_at_call 110; refine (in_any _ _ _ _).mono ?_; rintro e w1 ⟨rfl, rfl⟩))
    refine bodyPost_ret (v := .tuple #[.int .i64 0, .int .i64 0, .bool false]) (by simp [results, Tryz.results63, go_sem]) rfl ?_
    exact ret_cell3 (c := (0, 0)) HR.out
set_option maxRecDepth 100000 in
set_option maxHeartbeats 1600000 in
theorem implCell_3 (b : Nat) (w : World) : Calls Tryz.prog 99 #[.int .i64 3, .int .i64 b] w (CellOut 3 b w) := by
  by_cases hb : b < 64
  · refine (cellOf_3 b hb w).mono ?_
    rintro e w' ⟨rfl, rfl⟩
    exact ret_cell3 (cell_in (a := 3) (b := b) (by decide) hb)
  · have HR := Lib.hid (cell_out (a := 3) (b := b) (fun h => hb h.2))
    have HO := Lib.hid (halvesOk_any 3)
    have i1 : (64 : Int) ≤ b := by omega
    clear hb
    go_enter Tryz.func99, Tryz.ntmps99
    go_wp2_with (first
      | (go_at_call 132; refine (HO.out _).mono ?_; rintro e w1 ⟨rfl, rfl⟩))
    refine bodyPost_ret (v := .tuple #[.int .i64 0, .int .i64 0, .bool false]) (by simp [results, Tryz.results99, go_sem]) rfl ?_
    exact ret_cell3 (c := (0, 0)) HR.out
set_option maxRecDepth 100000 in
set_option maxHeartbeats 1600000 in
theorem specNumb_3 (x y : Nat) (w : World) : Calls Tryz.prog 64 #[.int .i64 3, .int .i64 x, .int .i64 y] w (NumbOut 3 x y w) := by
  by_cases hx : x < 8
  · by_cases hy : y < 8
    · have HN := Lib.hid (l8Number_3 x y hx hy)
      have HR := Lib.hid (numb_in (a := 3) (x := x) (y := y) (by decide) hx hy)
      have i0 : (0 : Int) ≤ (x : Int) := by omega
      have i1 : (x : Int) ≤ 7 := by omega
      have i2 : (0 : Int) ≤ (y : Int) := by omega
      have i3 : (y : Int) ≤ 7 := by omega
      go_enter Tryz.func64, Tryz.ntmps64
      go_wp2_with (first
        | (go_at_call 110; refine (in_any _ _ _ _).mono ?_; rintro e w1 ⟨rfl, rfl⟩)
        | (go_at_call 112; refine (HN.out _).mono ?_; rintro e w1 ⟨rfl, rfl⟩))
      go_ret
      exact ⟨by rw [HR.out]; rfl, Below.refl _ _⟩
    · have HR := Lib.hid (numb_out (a := 3) (x := x) (y := y) (fun h => hy h.2.2))
      have i0 : (0 : Int) ≤ (x : Int) := by omega
      have i1 : (x : Int) ≤ 7 := by omega
      have i2 : (0 : Int) ≤ (y : Int) := by omega
      have d1 : decide ((y : Int) ≤ 7) = false := decide_eq_false (by omega)
      go_enter Tryz.func64, Tryz.ntmps64
      go_wp2_with (first
        | (go_at_call 110; refine (in_any _ _ _ _).mono ?_; rintro e w1 ⟨rfl, rfl⟩))
      go_ret
      exact ⟨by rw [HR.out]; rfl, Below.refl _ _⟩
  · have HR := Lib.hid (numb_out (a := 3) (x := x) (y := y) (fun h => hx h.2.1))
    have i0 : (0 : Int) ≤ (x : Int) := by omega
    have d1 : decide ((x : Int) ≤ 7) = false := decide_eq_false (by omega)
    go_enter Tryz.func64, Tryz.ntmps64
    go_wp2_with (first
      | (go_at_call 110; refine (in_any _ _ _ _).mono ?_; rintro e w1 ⟨rfl, rfl⟩))
    go_ret
    exact ⟨by rw [HR.out]; rfl, Below.refl _ _⟩
set_option maxRecDepth 100000 in
set_option maxHeartbeats 1600000 in
theorem implNumb_3 (x y : Nat) (w : World) : Calls Tryz.prog 101 #[.int .i64 3, .int .i64 x, .int .i64 y] w (NumbOut 3 x y w) := by
  by_cases h : x < 8 ∧ y < 8
  · refine (numberOf_3 x y h.1 h.2 w).mono ?_
    rintro e w' ⟨rfl, hb⟩
    exact ⟨by rw [numb_in (a := 3) (by decide) h.1 h.2], hb⟩
  · have HR := Lib.hid (numb_out (a := 3) (x := x) (y := y) (fun k => h k.2))
    have HO := Lib.hid (cellOk_3 x y false (by show _ = _; rw [decide_eq_false h]))
    clear h
    go_enter Tryz.func101, Tryz.ntmps101
    go_wp2_with (first
      | (go_at_call 134; refine (HO.out _).mono ?_; rintro e w1 ⟨rfl, rfl⟩))
    go_ret
    exact ⟨by rw [HR.out]; rfl, Below.refl _ _⟩

set_option maxRecDepth 100000 in
set_option maxHeartbeats 1600000 in
theorem specCell_4 (b : Nat) (w : World) : Calls Tryz.prog 63 #[.int .i64 4, .int .i64 b] w (CellOut 4 b w) := by
  by_cases hb : b < 256
  · have HC := Lib.hid (l8Cell_4 b hb)
    have HR := Lib.hid (cell_in (a := 4) (b := b) (by decide) hb)
    have i0 : (0 : Int) ≤ (b : Int) := by omega
    have i1 : (b : Int) ≤ 255 := by omega
    go_enter Tryz.func63, Tryz.ntmps63
    go_wp2_with (first
      | (go_at_call 110; refine (in_any _ _ _ _).mono ?_; rintro e w1 ⟨rfl, rfl⟩)
      | (go_at_call 111; refine (HC.out _).mono ?_; rintro e w1 ⟨rfl, rfl⟩))
    refine bodyPost_ret (v := .tuple #[.int .i64 ((Hb.cell 4 b).1 : Nat), .int .i64 ((Hb.cell 4 b).2 : Nat), .bool true]) (by simp [results, Tryz.results63, go_sem]) rfl ?_
    exact ret_cell3 HR.out
  · have HR := Lib.hid (cell_out (a := 4) (b := b) (fun h => hb h.2))
    have i0 : (0 : Int) ≤ (b : Int) := by omega
    have d1 : decide ((b : Int) ≤ 255) = false := decide_eq_false (by omega)
    go_enter Tryz.func63, Tryz.ntmps63
    go_wp2_with (first
      | (go_at_call 110; refine (in_any _ _ _ _).mono ?_; rintro e w1 ⟨rfl, rfl⟩))
    refine bodyPost_ret (v := .tuple #[.int .i64 0, .int .i64 0, .bool false]) (by simp [results, Tryz.results63, go_sem]) rfl ?_
    exact ret_cell3 (c := (0, 0)) HR.out
set_option maxRecDepth 100000 in
set_option maxHeartbeats 1600000 in
theorem implCell_4 (b : Nat) (w : World) : Calls Tryz.prog 99 #[.int .i64 4, .int .i64 b] w (CellOut 4 b w) := by
  by_cases hb : b < 256
  · refine (cellOf_4 b hb w).mono ?_
    rintro e w' ⟨rfl, rfl⟩
    exact ret_cell3 (cell_in (a := 4) (b := b) (by decide) hb)
  · have HR := Lib.hid (cell_out (a := 4) (b := b) (fun h => hb h.2))
    have HO := Lib.hid (halvesOk_any 4)
    have i1 : (256 : Int) ≤ b := by omega
    clear hb
    go_enter Tryz.func99, Tryz.ntmps99
    go_wp2_with (first
      | (go_at_call 132; refine (HO.out _).mono ?_; rintro e w1 ⟨rfl, rfl⟩))
    refine bodyPost_ret (v := .tuple #[.int .i64 0, .int .i64 0, .bool false]) (by simp [results, Tryz.results99, go_sem]) rfl ?_
    exact ret_cell3 (c := (0, 0)) HR.out
set_option maxRecDepth 100000 in
set_option maxHeartbeats 1600000 in
theorem specNumb_4 (x y : Nat) (w : World) : Calls Tryz.prog 64 #[.int .i64 4, .int .i64 x, .int .i64 y] w (NumbOut 4 x y w) := by
  by_cases hx : x < 16
  · by_cases hy : y < 16
    · have HN := Lib.hid (l8Number_4 x y hx hy)
      have HR := Lib.hid (numb_in (a := 4) (x := x) (y := y) (by decide) hx hy)
      have i0 : (0 : Int) ≤ (x : Int) := by omega
      have i1 : (x : Int) ≤ 15 := by omega
      have i2 : (0 : Int) ≤ (y : Int) := by omega
      have i3 : (y : Int) ≤ 15 := by omega
      go_enter Tryz.func64, Tryz.ntmps64
      go_wp2_with (first
        | (go_at_call 110; refine (in_any _ _ _ _).mono ?_; rintro e w1 ⟨rfl, rfl⟩)
        | (go_at_call 112; refine (HN.out _).mono ?_; rintro e w1 ⟨rfl, rfl⟩))
      go_ret
      exact ⟨by rw [HR.out]; rfl, Below.refl _ _⟩
    · have HR := Lib.hid (numb_out (a := 4) (x := x) (y := y) (fun h => hy h.2.2))
      have i0 : (0 : Int) ≤ (x : Int) := by omega
      have i1 : (x : Int) ≤ 15 := by omega
      have i2 : (0 : Int) ≤ (y : Int) := by omega
      have d1 : decide ((y : Int) ≤ 15) = false := decide_eq_false (by omega)
      go_enter Tryz.func64, Tryz.ntmps64
      go_wp2_with (first
        | (go_at_call 110; refine (in_any _ _ _ _).mono ?_; rintro e w1 ⟨rfl, rfl⟩))
      go_ret
      exact ⟨by rw [HR.out]; rfl, Below.refl _ _⟩
  · have HR := Lib.hid (numb_out (a := 4) (x := x) (y := y) (fun h => hx h.2.1))
    have i0 : (0 : Int) ≤ (x : Int) := by omega
    have d1 : decide ((x : Int) ≤ 15) = false := decide_eq_false (by omega)
    go_enter Tryz.func64, Tryz.ntmps64
    go_wp2_with (first
      | (go_at_call 110; refine (in_any _ _ _ _).mono ?_; rintro e w1 ⟨rfl, rfl⟩))
    go_ret
    exact ⟨by rw [HR.out]; rfl, Below.refl _ _⟩
set_option maxRecDepth 100000 in
set_option maxHeartbeats 1600000 in
theorem implNumb_4 (x y : Nat) (w : World) : Calls Tryz.prog 101 #[.int .i64 4, .int .i64 x, .int .i64 y] w (NumbOut 4 x y w) := by
  by_cases h : x < 16 ∧ y < 16
  · refine (numberOf_4 x y h.1 h.2 w).mono ?_
    rintro e w' ⟨rfl, hb⟩
    exact ⟨by rw [numb_in (a := 4) (by decide) h.1 h.2], hb⟩
  · have HR := Lib.hid (numb_out (a := 4) (x := x) (y := y) (fun k => h k.2))
    have HO := Lib.hid (cellOk_4 x y false (by show _ = _; rw [decide_eq_false h]))
    clear h
    go_enter Tryz.func101, Tryz.ntmps101
    go_wp2_with (first
      | (go_at_call 134; refine (HO.out _).mono ?_; rintro e w1 ⟨rfl, rfl⟩))
    go_ret
    exact ⟨by rw [HR.out]; rfl, Below.refl _ _⟩

set_option maxRecDepth 100000 in
set_option maxHeartbeats 1600000 in
theorem specCell_5 (b : Nat) (w : World) : Calls Tryz.prog 63 #[.int .i64 5, .int .i64 b] w (CellOut 5 b w) := by
  by_cases hb : b < 1024
  · have HC := Lib.hid (l8Cell_5 b hb)
    have HR := Lib.hid (cell_in (a := 5) (b := b) (by decide) hb)
    have i0 : (0 : Int) ≤ (b : Int) := by omega
    have i1 : (b : Int) ≤ 1023 := by omega
    go_enter Tryz.func63, Tryz.ntmps63
    go_wp2_with (first
      | (go_at_call 110; refine (in_any _ _ _ _).mono ?_; rintro e w1 ⟨rfl, rfl⟩)
      | (go_at_call 111; refine (HC.out _).mono ?_; rintro e w1 ⟨rfl, rfl⟩))
    refine bodyPost_ret (v := .tuple #[.int .i64 ((Hb.cell 5 b).1 : Nat), .int .i64 ((Hb.cell 5 b).2 : Nat), .bool true]) (by simp [results, Tryz.results63, go_sem]) rfl ?_
    exact ret_cell3 HR.out
  · have HR := Lib.hid (cell_out (a := 5) (b := b) (fun h => hb h.2))
    have i0 : (0 : Int) ≤ (b : Int) := by omega
    have d1 : decide ((b : Int) ≤ 1023) = false := decide_eq_false (by omega)
    go_enter Tryz.func63, Tryz.ntmps63
    go_wp2_with (first
      | (go_at_call 110; refine (in_any _ _ _ _).mono ?_; rintro e w1 ⟨rfl, rfl⟩))
    refine bodyPost_ret (v := .tuple #[.int .i64 0, .int .i64 0, .bool false]) (by simp [results, Tryz.results63, go_sem]) rfl ?_
    exact ret_cell3 (c := (0, 0)) HR.out
set_option maxRecDepth 100000 in
set_option maxHeartbeats 1600000 in
theorem implCell_5 (b : Nat) (w : World) : Calls Tryz.prog 99 #[.int .i64 5, .int .i64 b] w (CellOut 5 b w) := by
  by_cases hb : b < 1024
  · refine (cellOf_5 b hb w).mono ?_
    rintro e w' ⟨rfl, rfl⟩
    exact ret_cell3 (cell_in (a := 5) (b := b) (by decide) hb)
  · have HR := Lib.hid (cell_out (a := 5) (b := b) (fun h => hb h.2))
    have HO := Lib.hid (halvesOk_any 5)
    have i1 : (1024 : Int) ≤ b := by omega
    clear hb
    go_enter Tryz.func99, Tryz.ntmps99
    go_wp2_with (first
      | (go_at_call 132; refine (HO.out _).mono ?_; rintro e w1 ⟨rfl, rfl⟩))
    refine bodyPost_ret (v := .tuple #[.int .i64 0, .int .i64 0, .bool false]) (by simp [results, Tryz.results99, go_sem]) rfl ?_
    exact ret_cell3 (c := (0, 0)) HR.out
set_option maxRecDepth 100000 in
set_option maxHeartbeats 1600000 in
theorem specNumb_5 (x y : Nat) (w : World) : Calls Tryz.prog 64 #[.int .i64 5, .int .i64 x, .int .i64 y] w (NumbOut 5 x y w) := by
  by_cases hx : x < 32
  · by_cases hy : y < 32
    · have HN := Lib.hid (l8Number_5 x y hx hy)
      have HR := Lib.hid (numb_in (a := 5) (x := x) (y := y) (by decide) hx hy)
      have i0 : (0 : Int) ≤ (x : Int) := by omega
      have i1 : (x : Int) ≤ 31 := by omega
      have i2 : (0 : Int) ≤ (y : Int) := by omega
      have i3 : (y : Int) ≤ 31 := by omega
      go_enter Tryz.func64, Tryz.ntmps64
      go_wp2_with (first
        | (go_at_call 110; refine (in_any _ _ _ _).mono ?_; rintro e w1 ⟨rfl, rfl⟩)
        | (go_at_call 112; refine (HN.out _).mono ?_; rintro e w1 ⟨rfl, rfl⟩))
      go_ret
      exact ⟨by rw [HR.out]; rfl, Below.refl _ _⟩
    · have HR := Lib.hid (numb_out (a := 5) (x := x) (y := y) (fun h => hy h.2.2))
      have i0 : (0 : Int) ≤ (x : Int) := by omega
      have i1 : (x : Int) ≤ 31 := by omega
      have i2 : (0 : Int) ≤ (y : Int) := by omega
      have d1 : decide ((y : Int) ≤ 31) = false := decide_eq_false (by omega)
      go_enter Tryz.func64, Tryz.ntmps64
      go_wp2_with (first
        | (go_at_call 110; refine (in_any _ _ _ _).mono ?_; rintro e w1 ⟨rfl, rfl⟩))
      go_ret
      exact ⟨by rw [HR.out]; rfl, Below.refl _ _⟩
  · have HR := Lib.hid (numb_out (a := 5) (x := x) (y := y) (fun h => hx h.2.1))
    have i0 : (0 : Int) ≤ (x : Int) := by omega
    have d1 : decide ((x : Int) ≤ 31) = false := decide_eq_false (by omega)
    go_enter Tryz.func64, Tryz.ntmps64
    go_wp2_with (first
      | (go_at_call 110; refine (in_any _ _ _ _).mono ?_; rintro e w1 ⟨rfl, rfl⟩))
    go_ret
    exact ⟨by rw [HR.out]; rfl, Below.refl _ _⟩
set_option maxRecDepth 100000 in
set_option maxHeartbeats 1600000 in
theorem implNumb_5 (x y : Nat) (w : World) : Calls Tryz.prog 101 #[.int .i64 5, .int .i64 x, .int .i64 y] w (NumbOut 5 x y w) := by
  by_cases h : x < 32 ∧ y < 32
  · refine (numberOf_5 x y h.1 h.2 w).mono ?_
    rintro e w' ⟨rfl, hb⟩
    exact ⟨by rw [numb_in (a := 5) (by decide) h.1 h.2], hb⟩
  · have HR := Lib.hid (numb_out (a := 5) (x := x) (y := y) (fun k => h k.2))
    have HO := Lib.hid (cellOk_5 x y false (by show _ = _; rw [decide_eq_false h]))
    clear h
    go_enter Tryz.func101, Tryz.ntmps101
    go_wp2_with (first
      | (go_at_call 134; refine (HO.out _).mono ?_; rintro e w1 ⟨rfl, rfl⟩))
    go_ret
    exact ⟨by rw [HR.out]; rfl, Below.refl _ _⟩

set_option maxRecDepth 100000 in
set_option maxHeartbeats 1600000 in
theorem specCellOf (a b : Nat) (ha : a ≤ 9999) (w : World) : Calls Tryz.prog 63 #[.int .i64 a, .int .i64 b] w (CellOut a b w) := by
  by_cases h5 : a ≤ 5
  · obtain rfl | rfl | rfl | rfl | rfl | rfl : a = 0 ∨ a = 1 ∨ a = 2 ∨ a = 3 ∨ a = 4 ∨ a = 5 := by omega
    · exact specCell_0 b w
    · exact specCell_1 b w
    · exact specCell_2 b w
    · exact specCell_3 b w
    · exact specCell_4 b w
    · exact specCell_5 b w
  · have HR := Lib.hid (cell_out (a := a) (b := b) (fun h => h5 h.1))
    have i0 : (0 : Int) ≤ (a : Int) := by omega
    have d1 : decide ((a : Int) ≤ 5) = false := decide_eq_false (by omega)
    go_enter Tryz.func63, Tryz.ntmps63
    go_wp2_with (first
      | (go_at_call 110; refine (in_any _ _ _ _).mono ?_; rintro e w1 ⟨rfl, rfl⟩))
    refine bodyPost_ret (v := .tuple #[.int .i64 0, .int .i64 0, .bool false]) (by simp [results, Tryz.results63, go_sem]) rfl ?_
    exact ret_cell3 (c := (0, 0)) HR.out
set_option maxRecDepth 100000 in
set_option maxHeartbeats 1600000 in
theorem implCellOf (a b : Nat) (ha : a ≤ 9999) (w : World) : Calls Tryz.prog 99 #[.int .i64 a, .int .i64 b] w (CellOut a b w) := by
  by_cases h5 : a ≤ 5
  · obtain rfl | rfl | rfl | rfl | rfl | rfl : a = 0 ∨ a = 1 ∨ a = 2 ∨ a = 3 ∨ a = 4 ∨ a = 5 := by omega
    · exact implCell_0 b w
    · exact implCell_1 b w
    · exact implCell_2 b w
    · exact implCell_3 b w
    · exact implCell_4 b w
    · exact implCell_5 b w
  · have HR := Lib.hid (cell_out (a := a) (b := b) (fun h => h5 h.1))
    have ho := halvesOk_any a
    rw [decide_eq_false h5] at ho
    have HO := Lib.hid ho
    clear ho
    go_enter Tryz.func99, Tryz.ntmps99
    go_wp2_with (first
      | (go_at_call 132; refine (HO.out _).mono ?_; rintro e w1 ⟨rfl, rfl⟩))
    refine bodyPost_ret (v := .tuple #[.int .i64 0, .int .i64 0, .bool false]) (by simp [results, Tryz.results99, go_sem]) rfl ?_
    exact ret_cell3 (c := (0, 0)) HR.out
set_option maxHeartbeats 1600000 in
theorem cellOk_far (a x y : Nat) (h5 : ¬ a ≤ 5) (w : World) : Calls Tryz.prog 134 #[.int .i64 a, .int .i64 x, .int .i64 y] w fun E w' => E = .returned (.bool false) ∧ w = w' := by
  have ho := halvesOk_any a
  rw [decide_eq_false h5] at ho
  have HO := Lib.hid ho
  clear ho
  go_enter Tryz.func134, Tryz.ntmps134
  go_wp2_with (first
    | (go_at_call 132; refine (HO.out _).mono ?_; rintro e w1 ⟨rfl, rfl⟩))
  go_ret
  exact ⟨rfl, rfl⟩
set_option maxRecDepth 100000 in
set_option maxHeartbeats 1600000 in
theorem specNumberOf (a x y : Nat) (ha : a ≤ 9999) (w : World) : Calls Tryz.prog 64 #[.int .i64 a, .int .i64 x, .int .i64 y] w (NumbOut a x y w) := by
  by_cases h5 : a ≤ 5
  · obtain rfl | rfl | rfl | rfl | rfl | rfl : a = 0 ∨ a = 1 ∨ a = 2 ∨ a = 3 ∨ a = 4 ∨ a = 5 := by omega
    · exact specNumb_0 x y w
    · exact specNumb_1 x y w
    · exact specNumb_2 x y w
    · exact specNumb_3 x y w
    · exact specNumb_4 x y w
    · exact specNumb_5 x y w
  · have HR := Lib.hid (numb_out (a := a) (x := x) (y := y) (fun h => h5 h.1))
    have i0 : (0 : Int) ≤ (a : Int) := by omega
    have d1 : decide ((a : Int) ≤ 5) = false := decide_eq_false (by omega)
    go_enter Tryz.func64, Tryz.ntmps64
    go_wp2_with (first
      | (go_at_call 110; refine (in_any _ _ _ _).mono ?_; rintro e w1 ⟨rfl, rfl⟩))
    go_ret
    exact ⟨by rw [HR.out]; rfl, Below.refl _ _⟩
set_option maxRecDepth 100000 in
set_option maxHeartbeats 1600000 in
theorem implNumberOf (a x y : Nat) (ha : a ≤ 9999) (w : World) : Calls Tryz.prog 101 #[.int .i64 a, .int .i64 x, .int .i64 y] w (NumbOut a x y w) := by
  by_cases h5 : a ≤ 5
  · obtain rfl | rfl | rfl | rfl | rfl | rfl : a = 0 ∨ a = 1 ∨ a = 2 ∨ a = 3 ∨ a = 4 ∨ a = 5 := by omega
    · exact implNumb_0 x y w
    · exact implNumb_1 x y w
    · exact implNumb_2 x y w
    · exact implNumb_3 x y w
    · exact implNumb_4 x y w
    · exact implNumb_5 x y w
  · have HR := Lib.hid (numb_out (a := a) (x := x) (y := y) (fun h => h5 h.1))
    have HO := Lib.hid (cellOk_far a x y h5)
    go_enter Tryz.func101, Tryz.ntmps101
    go_wp2_with (first
      | (go_at_call 134; refine (HO.out _).mono ?_; rintro e w1 ⟨rfl, rfl⟩))
    go_ret
    exact ⟨by rw [HR.out]; rfl, Below.refl _ _⟩

end Go.Proofs.YtccdfndnjjjgfaaGreatDoor
