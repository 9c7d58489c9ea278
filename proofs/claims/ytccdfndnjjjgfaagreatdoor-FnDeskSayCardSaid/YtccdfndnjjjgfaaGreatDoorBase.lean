/-
  Contracts of the letters' functions: directionOf, l4Look, WalkOk (both), l1In.
-/
import Derived.Test.YtccdfndnjjjgfaaGreatDoorProg
import Derived.Test.YtccdfndnjjjgfaaGreatDoorPure
import Derived.Test.YtccdfndnjjjgfaaGreatDoorShelf
import Derived.WalkKit
import Derived.WalkSpells
import Derived.WalkLawsBesides
import Derived.Outline
import Derived.Lib.Hide
import Derived.KernelRfl
namespace Go.Proofs.YtccdfndnjjjgfaaGreatDoor
open Go.RowKit

theorem ret_int {k : IntKind} {a b : Int} (h : a = b) : Ending.returned (.int k a) = .returned (.int k b) := by rw [h]
theorem ret_bool {a b : Bool} (h : a = b) : Ending.returned (.bool a) = .returned (.bool b) := by rw [h]

theorem ret_str {a b : ByteArray} (h : a = b) : Ending.returned (.string a) = .returned (.string b) := by rw [h]

theorem eq_of_nat {b : UInt8} {n : Nat} (h : ((b.toNat : Int) == (n : Int)) = true) : b = UInt8.ofNat n := by
  have h1 : b.toNat = n := by
    have := beq_iff_eq.1 h
    omega
  rw [← h1, UInt8.ofNat_toNat]
theorem ne_of_nat {b : UInt8} {n : Nat} (hn : n < 256) (h : ((b.toNat : Int) == (n : Int)) = false) : b ≠ UInt8.ofNat n := by
  rintro rfl
  simp [Nat.mod_eq_of_lt hn] at h
theorem dir_other {b : UInt8} (h1 : b ≠ 101) (h2 : b ≠ 110) (h3 : b ≠ 119) (h4 : b ≠ 115) : Tw.dir b = -1 := by
  unfold Tw.dir
  rw [if_neg h1, if_neg h2, if_neg h3, if_neg h4]

theorem look_any (b : UInt8) (w : World) :
    Calls Tryz.prog 104 #[.int .u8 b.toNat] w fun e w' => e = .returned (.int .i64 (Tw.dir b)) ∧ w = w' := by
  go_enter Tryz.func104, Tryz.ntmps104
  go_wp2
  all_goals go_ret
  · have h := eq_of_nat (b := b) (n := 101) (by assumption)
    exact ⟨ret_int (by rw [h]; rfl), rfl⟩
  · have h := eq_of_nat (b := b) (n := 110) (by assumption)
    exact ⟨ret_int (by rw [h]; rfl), rfl⟩
  · have h := eq_of_nat (b := b) (n := 119) (by assumption)
    exact ⟨ret_int (by rw [h]; rfl), rfl⟩
  · have h := eq_of_nat (b := b) (n := 115) (by assumption)
    exact ⟨ret_int (by rw [h]; rfl), rfl⟩
  · have h1 := ne_of_nat (b := b) (n := 101) (by omega) (by assumption)
    have h2 := ne_of_nat (b := b) (n := 110) (by omega) (by assumption)
    have h3 := ne_of_nat (b := b) (n := 119) (by omega) (by assumption)
    have h4 := ne_of_nat (b := b) (n := 115) (by omega) (by assumption)
    exact ⟨ret_int (dir_other h1 h2 h3 h4).symm, rfl⟩

theorem index_dir (b : UInt8) : Lib.indexByte [101, 110, 119, 115] b = Tw.dir b := by
  unfold Tw.dir
  by_cases h1 : b = 101
  · subst h1; rfl
  by_cases h2 : b = 110
  · subst h2; rfl
  by_cases h3 : b = 119
  · subst h3; rfl
  by_cases h4 : b = 115
  · subst h4; rfl
  simp only [if_neg h1, if_neg h2, if_neg h3, if_neg h4]
  simp [Lib.indexByte, Ne.symm h1, Ne.symm h2, Ne.symm h3, Ne.symm h4]

theorem dirOf_any (b : UInt8) (w : World) :
    Calls Tryz.prog 113 #[.int .u8 b.toNat] w fun e w' => e = .returned (.int .i64 (Tw.dir b)) ∧ w = w' := by
  go_enter Tryz.func113, Tryz.ntmps113
  go_wp2_with (go_at_call 139; refine (Tryz.strings_IndexByte _ _ _).mono ?_; rintro e w' ⟨rfl, rfl⟩)
  go_ret
  refine ⟨ret_int ?_, rfl⟩
  exact (show Lib.indexByte _ b = _ from index_dir b)

theorem in_any (n lo hi : Int) (w : World) :
    Calls Tryz.prog 110 #[.int .i64 n, .int .i64 lo, .int .i64 hi] w fun e w' => e = .returned (.bool (decide (lo ≤ n) && decide (n ≤ hi))) ∧ w = w' := by
  go_enter Tryz.func110, Tryz.ntmps110
  go_wp2
  all_goals go_ret
  · have h : lo ≤ n := by assumption
    exact ⟨ret_bool (by simp [h]), rfl⟩
  · have h : n < lo := by assumption
    exact ⟨ret_bool (by simp [show ¬ lo ≤ n from by omega]), rfl⟩

theorem in_yes (n lo hi : Int) (w : World) (h0 : lo ≤ n) (h1 : n ≤ hi) :
    Calls Tryz.prog 110 #[.int .i64 n, .int .i64 lo, .int .i64 hi] w fun e w' => e = .returned (.bool true) ∧ w = w' :=
  (in_any n lo hi w).mono fun _ _ ⟨he, hw⟩ => ⟨by rw [he, decide_eq_true h0, decide_eq_true h1]; rfl, hw⟩
theorem in_no (n lo hi : Int) (w : World) (h : ¬ (lo ≤ n ∧ n ≤ hi)) :
    Calls Tryz.prog 110 #[.int .i64 n, .int .i64 lo, .int .i64 hi] w fun e w' => e = .returned (.bool false) ∧ w = w' :=
  (in_any n lo hi w).mono fun _ _ ⟨he, hw⟩ => ⟨by rw [he, ← Bool.decide_and, decide_eq_false h], hw⟩

theorem letters_false {l : List UInt8} {k : Nat} (hk : k < l.length) (h : Tw.dir l[k] < 0) : Tw.letters l = false := by
  rw [Bool.eq_false_iff]
  intro hl
  have := List.all_eq_true.1 hl l[k] (List.getElem_mem hk)
  simp at this
  omega
theorem letters_snoc {l : List UInt8} {k : Nat} (hk : k < l.length) (h : 0 ≤ Tw.dir l[k]) (hl : Tw.letters (l.take k) = true) : Tw.letters (l.take (k + 1)) = true := by
  rw [Tw.take_snoc l k hk]
  unfold Tw.letters at *
  rw [List.all_append, hl]
  simpa using h
theorem getElem_data (s : ByteArray) (k : Nat) (h : k < s.size) : s.data.toList[k]'(by simpa using h) = s[k] := rfl
theorem size_data (s : ByteArray) : s.data.toList.length = s.size := by simp

set_option maxHeartbeats 400000 in
theorem specWalkOk (s : ByteArray) (w : World) (hs : s.size ≤ 1048576) :
    Calls Tryz.prog 65 #[.string s] w fun e w' => e = .returned (.bool (Tw.walkOk s.data.toList)) ∧ w = w' := by
  go_enter Tryz.func65, Tryz.ntmps65
  go_wp2
  go_loop [3] (fun i => ∃ k : Nat, k ≤ s.size ∧ i = .int .i64 k ∧ Tw.letters (s.data.toList.take k) = true) (fun i => s.size - (intOf i).toNat)
  case atStart => exact ⟨0, Nat.zero_le _, rfl, rfl⟩
  case round =>
    obtain ⟨k, hk, rfl, hl⟩ := hrel
    have HL := Lib.hid hl
    clear hl
    by_cases hlt : k < s.size
    · by_cases hd : 0 ≤ Tw.dir s[k]
      · go_wp2_with (go_at_call 104; refine (look_any _ _).mono ?_; rintro e w' ⟨rfl, rfl⟩)
        go_round
        case rel => exact ⟨k + 1, by omega, by go_num, letters_snoc (by simpa using hlt) hd HL.out⟩
        case measure => simp [intOf]; omega
      · have hd' : Tw.dir s[k] < 0 := by omega
        go_wp2_with (go_at_call 104; refine (look_any _ _).mono ?_; rintro e w' ⟨rfl, rfl⟩)
        go_ret
        exact ⟨ret_bool (by rw [Tw.walkOk, letters_false (k := k) (by simpa using hlt) hd', Bool.and_false]), rfl⟩
    · go_wp2
      go_ret
      have e : s.data.toList.take k = s.data.toList := List.take_of_length_le (by rw [size_data]; omega)
      have hf := HL.out
      rw [e] at hf
      exact ⟨ret_bool (by rw [Tw.walkOk, hf, Bool.and_true, size_data]; exact decide_eq_decide.2 (by omega)), rfl⟩

set_option maxHeartbeats 400000 in
theorem implWalkOk (s : ByteArray) (w : World) (hs : s.size ≤ 1048576) :
    Calls Tryz.prog 67 #[.string s] w fun e w' => e = .returned (.bool (Tw.walkOk s.data.toList)) ∧ w = w' := by
  by_cases h40 : s.size ≤ 40
  · go_enter Tryz.func67, Tryz.ntmps67
    go_wp2
    go_loop [3] (fun i => ∃ k : Nat, k ≤ s.size ∧ i = .int .i64 k ∧ Tw.letters (s.data.toList.take k) = true) (fun i => s.size - (intOf i).toNat)
    case atStart => exact ⟨0, Nat.zero_le _, rfl, rfl⟩
    case round =>
      obtain ⟨k, hk, rfl, hl⟩ := hrel
      have HL := Lib.hid hl
      clear hl
      by_cases hlt : k < s.size
      · by_cases hd : 0 ≤ Tw.dir s[k]
        · go_wp2_with (go_at_call 113; refine (dirOf_any _ _).mono ?_; rintro e w' ⟨rfl, rfl⟩)
          go_round
          case rel => exact ⟨k + 1, by omega, by go_num, letters_snoc (by simpa using hlt) hd HL.out⟩
          case measure => simp [intOf]; omega
        · have hd' : Tw.dir s[k] < 0 := by omega
          go_wp2_with (go_at_call 113; refine (dirOf_any _ _).mono ?_; rintro e w' ⟨rfl, rfl⟩)
          go_ret
          exact ⟨ret_bool (by rw [Tw.walkOk, letters_false (k := k) (by simpa using hlt) hd', Bool.and_false]), rfl⟩
      · go_wp2
        go_ret
        have e : s.data.toList.take k = s.data.toList := List.take_of_length_le (by rw [size_data]; omega)
        have hf := HL.out
        rw [e] at hf
        exact ⟨ret_bool (by rw [Tw.walkOk, hf, Bool.and_true, size_data]; simp [h40]), rfl⟩
  · have h41 : 40 < s.size := by omega
    go_enter Tryz.func67, Tryz.ntmps67
    go_wp2
    go_ret
    exact ⟨ret_bool (by rw [Tw.walkOk, size_data, decide_eq_false h40, Bool.false_and]), rfl⟩

theorem specWalkOk_is (s : ByteArray) (w : World) (hs : s.size ≤ 1048576) (b : Bool) (h : Tw.walkOk s.data.toList = b) :
    Calls Tryz.prog 65 #[.string s] w fun e w' => e = .returned (.bool b) ∧ w = w' :=
  (specWalkOk s w hs).mono fun _ _ ⟨he, hw⟩ => ⟨by rw [he, h], hw⟩
theorem implWalkOk_is (s : ByteArray) (w : World) (hs : s.size ≤ 1048576) (b : Bool) (h : Tw.walkOk s.data.toList = b) :
    Calls Tryz.prog 67 #[.string s] w fun e w' => e = .returned (.bool b) ∧ w = w' :=
  (implWalkOk s w hs).mono fun _ _ ⟨he, hw⟩ => ⟨by rw [he, h], hw⟩

end Go.Proofs.YtccdfndnjjjgfaaGreatDoor
