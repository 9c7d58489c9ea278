/-
  Contracts of InWay (both), l10Letter, WaysSame (both).
-/
import Derived.Test.YtccdfndnjjjgfaaGreatDoorBase
import Derived.Maps.AppendAt
import Derived.Deep.RegionHeld3
import Derived.Deep.AppendLies
namespace Go.Proofs.YtccdfndnjjjgfaaGreatDoor
open Go.RowKit

theorem letter_cut (k : Int) (h0 : 0 ≤ k) (h3 : k ≤ 3) : (⟨#[101, 110, 119, 115]⟩ : ByteArray).extract k.toNat (k + 1).toNat = ⟨#[Tw.letter k]⟩ := by
  obtain rfl | rfl | rfl | rfl : k = 0 ∨ k = 1 ∨ k = 2 ∨ k = 3 := by omega
  all_goals decide

theorem l10Letter_any (way : Int) (b : UInt8) (w : World) (h0 : 0 ≤ way) (h7 : way ≤ 7) (hb : 0 ≤ Tw.dir b) :
    Calls Tryz.prog 157 #[.int .i64 way, .int .u8 b.toNat] w fun e w' => e = .returned (.string ⟨#[Tw.wayLetter way b]⟩) ∧ w = w' := by
  have hd := (Tw.dir_range b).2
  by_cases h4 : 4 ≤ way
  · go_enter Tryz.func157, Tryz.ntmps157
    go_wp2_with (go_at_call 104; refine (look_any _ _).mono ?_; rintro e w' ⟨rfl, rfl⟩)
    go_ret
    refine ⟨ret_str ?_, rfl⟩
    rw [letter_cut _ (by omega) (by omega)]
    unfold Tw.wayLetter Tw.wayDir
    rw [if_pos h4, show (-Tw.dir b + way) % 4 = ((4 - Tw.dir b) % 4 + way) % 4 from by omega]
  · have h4' : way < 4 := by omega
    go_enter Tryz.func157, Tryz.ntmps157
    go_wp2_with (go_at_call 104; refine (look_any _ _).mono ?_; rintro e w' ⟨rfl, rfl⟩)
    go_ret
    refine ⟨ret_str ?_, rfl⟩
    rw [letter_cut _ (by omega) (by omega)]
    unfold Tw.wayLetter Tw.wayDir
    rw [if_neg (by omega)]

theorem inWay_yes {l : List UInt8} {way : Int} (hok : Tw.walkOk l = true) (h0 : 0 ≤ way) (h7 : way ≤ 7) : Tw.inWay l way = l.map (Tw.wayLetter way) := by
  simp [Tw.inWay, hok, h0, h7]
theorem inWay_no {l : List UInt8} {way : Int} (h : ¬ (Tw.walkOk l = true ∧ 0 ≤ way ∧ way ≤ 7)) : Tw.inWay l way = [] := by
  unfold Tw.inWay
  rw [if_neg]
  simpa [and_assoc] using h

theorem snoc_way (s : ByteArray) (way : Int) (k : Nat) (h : k < s.size) :
    Tw.str ((s.data.toList.take k).map (Tw.wayLetter way)) ++ (⟨#[Tw.wayLetter way s[k]]⟩ : ByteArray) = Tw.str ((s.data.toList.take (k + 1)).map (Tw.wayLetter way)) := by
  rw [show (⟨#[Tw.wayLetter way s[k]]⟩ : ByteArray) = Tw.str [Tw.wayLetter way s[k]] from rfl, Tw.str_append, Tw.take_snoc _ k (by rw [size_data]; exact h), List.map_append]
  rfl

set_option maxHeartbeats 800000 in
theorem specInWay (s : ByteArray) (way : Int) (w : World) (hs : s.size ≤ 1048576) :
    Calls Tryz.prog 136 #[.string s, .int .i64 way] w fun e w' => e = .returned (.string (Tw.str (Tw.inWay s.data.toList way))) ∧ w = w' := by
  cases hok : Tw.walkOk s.data.toList
  · have HOK := Lib.hid hok
    clear hok
    go_enter Tryz.func136, Tryz.ntmps136
    go_wp2
    go_loop [5, 6] (fun o i => o = .string (Tw.str []) ∧ i = .int .i64 0) (fun _ i => s.size - (intOf i).toNat)
    case atStart => exact ⟨rfl, rfl⟩
    case round =>
      obtain ⟨rfl, rfl⟩ := hrel
      by_cases hlt : 0 < s.size
      · go_wp2_with (first | (go_at_call 65; refine (specWalkOk_is _ _ hs false HOK.out).mono ?_; rintro e w' ⟨rfl, rfl⟩))
        go_ret
        exact ⟨ret_str (by rw [inWay_no (by rw [HOK.out]; simp)]), rfl⟩
      · have hz : s.size = 0 := by omega
        go_wp2
        go_ret
        exact ⟨ret_str (by rw [inWay_no (by rw [HOK.out]; simp)]), rfl⟩
  · have HOK := Lib.hid hok
    clear hok
    have h40 : s.size ≤ 40 := by have := Tw.walkOk_len HOK.out; rwa [size_data] at this
    by_cases hin : 0 ≤ way ∧ way ≤ 7
    · obtain ⟨h0, h7⟩ := hin
      go_enter Tryz.func136, Tryz.ntmps136
      go_wp2
      go_loop [5, 6] (fun o i => ∃ k : Nat, k ≤ s.size ∧ i = .int .i64 k ∧ ∃ b : ByteArray, o = .string b ∧ b.size ≤ 40 ∧ Hid (b = Tw.str ((s.data.toList.take k).map (Tw.wayLetter way)))) (fun _ i => s.size - (intOf i).toNat)
      case atStart => exact ⟨0, Nat.zero_le _, rfl, _, rfl, by decide, rfl⟩
      case round =>
        obtain ⟨k, hk, rfl, b, rfl, hb, HB⟩ := hrel
        by_cases hlt : k < s.size
        · have hd : 0 ≤ Tw.dir s[k] := Tw.walkOk_dir HOK.out (k := k) (by rw [size_data]; exact hlt)
          go_wp2_with (first
            | (go_at_call 65; refine (specWalkOk_is _ _ hs true HOK.out).mono ?_; rintro e w' ⟨rfl, rfl⟩)
            | (go_at_call 110; refine (in_yes _ _ _ _ h0 h7).mono ?_; rintro e w' ⟨rfl, rfl⟩)
            | (go_at_call 157; refine (l10Letter_any _ _ _ h0 h7 hd).mono ?_; rintro e w' ⟨rfl, rfl⟩))
          have hnew := snoc_way s way k hlt
          go_round
          case rel =>
            refine ⟨k + 1, by omega, by go_num, _, rfl, ?_, ?_⟩
            · rw [HB.out, hnew, Tw.str_size]
              simp; omega
            · show _ = _
              rw [HB.out, hnew]
          case measure => simp [intOf]; omega
        · go_wp2
          go_ret
          exact ⟨ret_str (by rw [inWay_yes HOK.out h0 h7, HB.out, List.take_of_length_le (by rw [size_data]; omega)]), rfl⟩
    · have HIN := Lib.hid hin
      clear hin
      go_enter Tryz.func136, Tryz.ntmps136
      go_wp2
      go_loop [5, 6] (fun o i => o = .string (Tw.str []) ∧ i = .int .i64 0) (fun _ i => s.size - (intOf i).toNat)
      case atStart => exact ⟨rfl, rfl⟩
      case round =>
        obtain ⟨rfl, rfl⟩ := hrel
        by_cases hlt : 0 < s.size
        · go_wp2_with (first
            | (go_at_call 65; refine (specWalkOk_is _ _ hs true HOK.out).mono ?_; rintro e w' ⟨rfl, rfl⟩)
            | (go_at_call 110; refine (in_no _ _ _ _ HIN.out).mono ?_; rintro e w' ⟨rfl, rfl⟩))
          go_ret
          exact ⟨ret_str (by rw [inWay_no (fun h => HIN.out h.2)]), rfl⟩
        · have hz : s.size = 0 := by omega
          go_wp2
          go_ret
          exact ⟨ret_str (by rw [inWay_no (fun h => HIN.out h.2)]), rfl⟩

end Go.Proofs.YtccdfndnjjjgfaaGreatDoor
