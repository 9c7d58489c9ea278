/-
  Contracts of BackWalk (both).
-/
import Derived.Test.YtpkenccgjlhnlaaWaysImpl
import Derived.Test.YtpkenccgjlhnlaaSteps
import Derived.Test.YtpkenccgjlhnlaaShapePure
namespace Go.Proofs.Ytpkenccgjlhnlaa
open Go.RowKit

theorem back_no {l : List UInt8} (h : Tw.walkOk l = false) : Tw.backWalk l = [] := by simp [Tw.backWalk, h]
theorem back_yes {l : List UInt8} (h : Tw.walkOk l = true) : Tw.backWalk l = Tw.backList l := Tw.backWalk_eq h
/-- The way back of the steps from k on. -/
theorem backList_drop (l : List UInt8) (k : Nat) (h : k < l.length) : Tw.backList (l.drop k) = Tw.backList (l.drop (k + 1)) ++ [Tw.backLetter l[k]] := by
  unfold Tw.backList
  rw [List.drop_eq_getElem_cons h, List.reverse_cons, List.map_append]
  rfl
theorem letter_at (d : Int) (h0 : 0 ≤ d) (h3 : d ≤ 3) (h : d.toNat < (⟨#[101, 110, 119, 115]⟩ : ByteArray).size) : (⟨#[101, 110, 119, 115]⟩ : ByteArray)[d.toNat] = Tw.letter d := by
  obtain rfl | rfl | rfl | rfl : d = 0 ∨ d = 1 ∨ d = 2 ∨ d = 3 := by omega
  all_goals rfl

set_option maxHeartbeats 1600000 in
theorem specBackWalk (s : ByteArray) (w : World) (hs : s.size ≤ 1048576) :
    Calls Try.prog 34 #[.string s] w fun e w' => e = .returned (.string (Tw.str (Tw.backWalk s.data.toList))) ∧ w = w' := by
  cases hok : Tw.walkOk s.data.toList
  · have HOK := Lib.hid hok
    clear hok
    go_enter Try.func34, Try.ntmps34
    go_wp2
    go_loop [3, 4] (fun o i => o = .string (Tw.str []) ∧ i = .int .i64 ((s.size : Int) - 1)) (fun _ i => (intOf i + 1).toNat)
    case atStart => exact ⟨rfl, rfl⟩
    case round =>
      obtain ⟨rfl, rfl⟩ := hrel
      by_cases hlt : 0 < s.size
      · have h0 : 0 ≤ (s.size : Int) - 1 := by omega
        have h1 : 1 ≤ (s.size : Int) := by omega
        go_wp2_with (first | (go_at_call 11; refine (specWalkOk_is _ _ hs false HOK.out).mono ?_; rintro e w' ⟨rfl, rfl⟩))
        go_ret
        exact ⟨ret_str (by rw [back_no HOK.out]), rfl⟩
      · have hz : s.size = 0 := by omega
        go_wp2
        go_ret
        exact ⟨ret_str (by rw [back_no HOK.out]), rfl⟩
  · have HOK := Lib.hid hok
    clear hok
    have h40 : s.size ≤ 40 := by have := Tw.walkOk_len HOK.out; rwa [size_data] at this
    go_enter Try.func34, Try.ntmps34
    go_wp2
    go_loop [3, 4, 5] (fun o i _ => ∃ k : Nat, k ≤ s.size ∧ i = .int .i64 ((k : Int) - 1) ∧ ∃ b : ByteArray, o = .string b ∧ b.size ≤ 40 ∧ Hid (b = Tw.str (Tw.backList (s.data.toList.drop k)))) (fun _ i _ => (intOf i + 1).toNat)
    case atStart => exact ⟨s.size, Nat.le_refl _, rfl, _, rfl, by decide, (by show _ = _; rw [List.drop_of_length_le (by rw [size_data]; exact Nat.le_refl _)]; rfl)⟩
    case round =>
      obtain ⟨k, hk, rfl, b, rfl, hb, HB⟩ := hrel
      by_cases hlt : 0 < k
      · obtain ⟨k, rfl⟩ : ∃ j, k = j + 1 := ⟨k - 1, by omega⟩
        rw [show ((k + 1 : Nat) : Int) - 1 = (k : Int) from by omega]
        have hks : k < s.size := by omega
        have hd : 0 ≤ Tw.dir s[k] := Tw.walkOk_dir HOK.out (k := k) (by rw [size_data]; exact hks)
        have hd3 := (Tw.dir_range s[k]).2
        go_wp2_with (first
          | (go_at_call 11; refine (specWalkOk_is _ _ hs true HOK.out).mono ?_; rintro e w' ⟨rfl, rfl⟩)
          | (go_at_call 20; refine (look_any _ _).mono ?_; rintro e w' ⟨rfl, rfl⟩))
        have hcut := letter_cut ((Tw.dir s[k] + 2) % 4) (by omega) (by omega)
        have hnew : b ++ (⟨#[101, 110, 119, 115]⟩ : ByteArray).extract ((Tw.dir s[k] + 2) % 4).toNat ((Tw.dir s[k] + 2) % 4 + 1).toNat = Tw.str (Tw.backList (s.data.toList.drop k)) := by
          rw [hcut, HB.out, backList_drop _ k (by rw [size_data]; exact hks)]
          exact Tw.str_append _ [Tw.letter ((Tw.dir s[k] + 2) % 4)]
        go_round
        case rel =>
          refine ⟨k, by omega, rfl, _, rfl, ?_, ?_⟩
          · rw [hnew, Tw.str_size, Tw.length_back]
            simp; omega
          · show _ = _
            rw [hnew]
        case measure => simp [intOf]
      · obtain rfl : k = 0 := by omega
        go_wp2
        go_ret
        exact ⟨ret_str (by rw [HB.out, back_yes HOK.out, List.drop_zero]), rfl⟩


end Go.Proofs.Ytpkenccgjlhnlaa
