/-
  Contracts of the letters' functions: directionOf, l4Look, WalkOk (both), l1In.
-/
import Derived.Test.YtjcagkpolfacpaaProg
import Derived.Test.YtjcagkpolfacpaaPure
import Derived.Test.YtjcagkpolfacpaaShelf
import Derived.WalkKit
import Derived.WalkSpells
import Derived.WalkLawsBesides
import Derived.Outline
import Derived.Lib.Hide
import Derived.KernelRfl
namespace Go.Proofs.Ytjcagkpolfacpaa
open Go.RowKit

theorem ret_int {k : IntKind} {a b : Int} (h : a = b) : Ending.returned (.int k a) = .returned (.int k b) := by rw [h]
theorem ret_bool {a b : Bool} (h : a = b) : Ending.returned (.bool a) = .returned (.bool b) := by rw [h]

theorem ret_str {a b : ByteArray} (h : a = b) : Ending.returned (.string a) = .returned (.string b) := by rw [h]

theorem eq_of_nat {b : UInt8} {n : Nat} (h : ((b.toNat : Int) == (n : Int)) = true) : b = UInt8.ofNat n := by
  have h1 : b.toNat = n := by
    have := beq_iff_eq.1 h
    omega
  rw [← h1, UInt8.ofNat_toNat]
theorem ne_of_nat {b : UInt8} {n : Nat} (hn : n < 256) (h : ((b.toNat : Int) == (n : Int)) = false) : b ≠ UInt8.ofNat n := by
  rintro rfl
  simp [Nat.mod_eq_of_lt hn] at h
theorem dir_other {b : UInt8} (h1 : b ≠ 101) (h2 : b ≠ 110) (h3 : b ≠ 119) (h4 : b ≠ 115) : Tw.dir b = -1 := by
  unfold Tw.dir
  rw [if_neg h1, if_neg h2, if_neg h3, if_neg h4]



theorem in_any (n lo hi : Int) (w : World) :
    Calls Try.prog 9 #[.int .i64 n, .int .i64 lo, .int .i64 hi] w fun e w' => e = .returned (.bool (decide (lo ≤ n) && decide (n ≤ hi))) ∧ w = w' := by
  go_enter Try.func9, Try.ntmps9
  go_wp2
  all_goals go_ret
  · have h : lo ≤ n := by assumption
    exact ⟨ret_bool (by simp [h]), rfl⟩
  · have h : n < lo := by assumption
    exact ⟨ret_bool (by simp [show ¬ lo ≤ n from by omega]), rfl⟩

theorem in_yes (n lo hi : Int) (w : World) (h0 : lo ≤ n) (h1 : n ≤ hi) :
    Calls Try.prog 9 #[.int .i64 n, .int .i64 lo, .int .i64 hi] w fun e w' => e = .returned (.bool true) ∧ w = w' :=
  (in_any n lo hi w).mono fun _ _ ⟨he, hw⟩ => ⟨by rw [he, decide_eq_true h0, decide_eq_true h1]; rfl, hw⟩
theorem in_no (n lo hi : Int) (w : World) (h : ¬ (lo ≤ n ∧ n ≤ hi)) :
    Calls Try.prog 9 #[.int .i64 n, .int .i64 lo, .int .i64 hi] w fun e w' => e = .returned (.bool false) ∧ w = w' :=
  (in_any n lo hi w).mono fun _ _ ⟨he, hw⟩ => ⟨by rw [he, ← Bool.decide_and, decide_eq_false h], hw⟩

theorem letters_false {l : List UInt8} {k : Nat} (hk : k < l.length) (h : Tw.dir l[k] < 0) : Tw.letters l = false := by
  rw [Bool.eq_false_iff]
  intro hl
  have := List.all_eq_true.1 hl l[k] (List.getElem_mem hk)
  simp at this
  omega
theorem letters_snoc {l : List UInt8} {k : Nat} (hk : k < l.length) (h : 0 ≤ Tw.dir l[k]) (hl : Tw.letters (l.take k) = true) : Tw.letters (l.take (k + 1)) = true := by
  rw [Tw.take_snoc l k hk]
  unfold Tw.letters at *
  rw [List.all_append, hl]
  simpa using h
theorem getElem_data (s : ByteArray) (k : Nat) (h : k < s.size) : s.data.toList[k]'(by simpa using h) = s[k] := rfl
theorem size_data (s : ByteArray) : s.data.toList.length = s.size := by simp




end Go.Proofs.Ytjcagkpolfacpaa
