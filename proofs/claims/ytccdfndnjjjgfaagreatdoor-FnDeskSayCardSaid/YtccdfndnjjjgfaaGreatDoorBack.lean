/-
  Contracts of BackWalk (both).
-/
import Derived.Test.YtccdfndnjjjgfaaGreatDoorWaysImpl
import Derived.Test.YtccdfndnjjjgfaaGreatDoorSteps
import Derived.Test.YtccdfndnjjjgfaaGreatDoorShapePure
namespace Go.Proofs.YtccdfndnjjjgfaaGreatDoor
open Go.RowKit

theorem back_no {l : List UInt8} (h : Tw.walkOk l = false) : Tw.backWalk l = [] := by simp [Tw.backWalk, h]
theorem back_yes {l : List UInt8} (h : Tw.walkOk l = true) : Tw.backWalk l = Tw.backList l := Tw.backWalk_eq h
/-- The way back of the steps from k on. -/
theorem backList_drop (l : List UInt8) (k : Nat) (h : k < l.length) : Tw.backList (l.drop k) = Tw.backList (l.drop (k + 1)) ++ [Tw.backLetter l[k]] := by
  unfold Tw.backList
  rw [List.drop_eq_getElem_cons h, List.reverse_cons, List.map_append]
  rfl
theorem letter_at (d : Int) (h0 : 0 ≤ d) (h3 : d ≤ 3) (h : d.toNat < (⟨#[101, 110, 119, 115]⟩ : ByteArray).size) : (⟨#[101, 110, 119, 115]⟩ : ByteArray)[d.toNat] = Tw.letter d := by
  obtain rfl | rfl | rfl | rfl : d = 0 ∨ d = 1 ∨ d = 2 ∨ d = 3 := by omega
  all_goals rfl

set_option maxHeartbeats 1600000 in
theorem specBackWalk (s : ByteArray) (w : World) (hs : s.size ≤ 1048576) :
    Calls Tryz.prog 158 #[.string s] w fun e w' => e = .returned (.string (Tw.str (Tw.backWalk s.data.toList))) ∧ w = w' := by
  cases hok : Tw.walkOk s.data.toList
  · have HOK := Lib.hid hok
    clear hok
    go_enter Tryz.func158, Tryz.ntmps158
    go_wp2
    go_loop [3, 4] (fun o i => o = .string (Tw.str []) ∧ i = .int .i64 ((s.size : Int) - 1)) (fun _ i => (intOf i + 1).toNat)
    case atStart => exact ⟨rfl, rfl⟩
    case round =>
      obtain ⟨rfl, rfl⟩ := hrel
      by_cases hlt : 0 < s.size
      · have h0 : 0 ≤ (s.size : Int) - 1 := by omega
        have h1 : 1 ≤ (s.size : Int) := by omega
        go_wp2_with (first | (go_at_call 65; refine (specWalkOk_is _ _ hs false HOK.out).mono ?_; rintro e w' ⟨rfl, rfl⟩))
        go_ret
        exact ⟨ret_str (by rw [back_no HOK.out]), rfl⟩
      · have hz : s.size = 0 := by omega
        go_wp2
        go_ret
        exact ⟨ret_str (by rw [back_no HOK.out]), rfl⟩
  · have HOK := Lib.hid hok
    clear hok
    have h40 : s.size ≤ 40 := by have := Tw.walkOk_len HOK.out; rwa [size_data] at this
    go_enter Tryz.func158, Tryz.ntmps158
    go_wp2
    go_loop [3, 4, 5] (fun o i _ => ∃ k : Nat, k ≤ s.size ∧ i = .int .i64 ((k : Int) - 1) ∧ ∃ b : ByteArray, o = .string b ∧ b.size ≤ 40 ∧ Hid (b = Tw.str (Tw.backList (s.data.toList.drop k)))) (fun _ i _ => (intOf i + 1).toNat)
    case atStart => exact ⟨s.size, Nat.le_refl _, rfl, _, rfl, by decide, (by show _ = _; rw [List.drop_of_length_le (by rw [size_data]; exact Nat.le_refl _)]; rfl)⟩
    case round =>
      obtain ⟨k, hk, rfl, b, rfl, hb, HB⟩ := hrel
      by_cases hlt : 0 < k
      · obtain ⟨k, rfl⟩ : ∃ j, k = j + 1 := ⟨k - 1, by omega⟩
        rw [show ((k + 1 : Nat) : Int) - 1 = (k : Int) from by omega]
        have hks : k < s.size := by omega
        have hd : 0 ≤ Tw.dir s[k] := Tw.walkOk_dir HOK.out (k := k) (by rw [size_data]; exact hks)
        have hd3 := (Tw.dir_range s[k]).2
        go_wp2_with (first
          | (go_at_call 65; refine (specWalkOk_is _ _ hs true HOK.out).mono ?_; rintro e w' ⟨rfl, rfl⟩)
          | (go_at_call 104; refine (look_any _ _).mono ?_; rintro e w' ⟨rfl, rfl⟩))
        have hcut := letter_cut ((Tw.dir s[k] + 2) % 4) (by omega) (by omega)
        have hnew : b ++ (⟨#[101, 110, 119, 115]⟩ : ByteArray).extract ((Tw.dir s[k] + 2) % 4).toNat ((Tw.dir s[k] + 2) % 4 + 1).toNat = Tw.str (Tw.backList (s.data.toList.drop k)) := by
          rw [hcut, HB.out, backList_drop _ k (by rw [size_data]; exact hks)]
          exact Tw.str_append _ [Tw.letter ((Tw.dir s[k] + 2) % 4)]
        go_round
        case rel =>
          refine ⟨k, by omega, rfl, _, rfl, ?_, ?_⟩
          · rw [hnew, Tw.str_size, Tw.length_back]
            simp; omega
          · show _ = _
            rw [hnew]
        case measure => simp [intOf]
      · obtain rfl : k = 0 := by omega
        go_wp2
        go_ret
        exact ⟨ret_str (by rw [HB.out, back_yes HOK.out, List.drop_zero]), rfl⟩

set_option maxRecDepth 100000 in
set_option maxHeartbeats 3200000 in
theorem implBackWalk (s : ByteArray) (w : World) (hs : s.size ≤ 1048576) :
    Calls Tryz.prog 145 #[.string s] w fun e w' => e = .returned (.string (Tw.str (Tw.backWalk s.data.toList))) ∧ Below w.heap.size w w' := by
  cases hok : Tw.walkOk s.data.toList
  · have HOK := Lib.hid hok
    clear hok
    go_enter Tryz.func145, Tryz.ntmps145
    go_wp2_with (first | (go_at_call 67; refine (implWalkOk_is _ _ hs false HOK.out).mono ?_; rintro e w' ⟨rfl, rfl⟩))
    go_ret
    exact ⟨ret_str (by rw [back_no HOK.out]; rfl), Below.refl _ _⟩
  · have HOK := Lib.hid hok
    clear hok
    have h40 : s.size ≤ 40 := by have := Tw.walkOk_len HOK.out; rwa [size_data] at this
    obtain ⟨i0, hi0, hz0, hz1, hz2⟩ := info_parts u8info
    go_enter Tryz.func145, Tryz.ntmps145
    go_wp2_with (first
      | (go_at_call 67; refine (implWalkOk_is _ _ hs true HOK.out).mono ?_; rintro e w' ⟨rfl, rfl⟩)
      | (at_make; refine wpList_make_own _ rfl _ _ 36 rfl w.heap.size 5 i0 _ 1 Tryz.underlying36 hi0 hz0 hz1 .i64 .i64 _ s.size rfl rfl rfl (by rw [hz2]; omega) (by unfold maxLen; omega) (Nat.le_refl _) ?_; intro w1 hown1 hg1))
    have hb1 : Below w.heap.size w w1 := (Below.refl _ _).grown hg1 (Nat.le_refl _) (fun j hj => by cases hj)
    clear hg1
    go_loopw [3, 4] (fun v i wr => ∃ k m : Nat, k + m = s.size ∧ i = .int .i64 ((k : Int) - 1) ∧ ∃ g, v = .slice (some ⟨g, 0, none⟩) m s.size ∧ wr.ownsRow w.heap.size 5 1 (.slice (some ⟨g, 0, none⟩) m s.size) m (bytesOf (Tw.backList (s.data.toList.drop k))) ∧ Below w.heap.size w wr)
      (fun _ i _ => (intOf i + 1).toNat)
    case atStart => exact ⟨s.size, 0, rfl, rfl, _, rfl, by rw [List.drop_of_length_le (by rw [size_data]; exact Nat.le_refl _)]; exact hown1, hb1⟩
    case round =>
      obtain ⟨k, m, hkm, rfl, g, rfl, hown, hb⟩ := hrel
      by_cases hlt : 0 < k
      · obtain ⟨k, rfl⟩ : ∃ j, k = j + 1 := ⟨k - 1, by omega⟩
        rw [show ((k + 1 : Nat) : Int) - 1 = (k : Int) from by omega]
        have hks : k < s.size := by omega
        have hd : 0 ≤ Tw.dir s[k] := Tw.walkOk_dir HOK.out (k := k) (by rw [size_data]; exact hks)
        have hd3 := (Tw.dir_range s[k]).2
        have HKM := Lib.hid hkm
        have hmk : m + 1 ≤ s.size := by omega
        clear hkm
        have hgb := hown.lt g rfl
        have hs2 := hb.size
        have hlt4 : ((Tw.dir s[k] + 2) % 4).toNat < (⟨#[101, 110, 119, 115]⟩ : ByteArray).size := by
          show _ < 4
          omega
        have hat : (⟨#[101, 110, 119, 115]⟩ : ByteArray)[((Tw.dir s[k] + 2) % 4).toNat] = Tw.backLetter s[k] := letter_at _ (by omega) (by omega) hlt4
        have HAT := Lib.hid hat
        clear hat
        go_wp2_with (first
          | (go_at_call 113; refine (dirOf_any _ _).mono ?_; rintro e w' ⟨rfl, rfl⟩)
          | (at_builtin; refine wpList_append_fits _ rfl _ _ 36 rfl w.heap.size 5 i0 1 Tryz.underlying36 hi0 hz1 g m s.size _ rfl (hown.alloc _) ⟨wr.heap.size, 0, none⟩ 1 1 [.int .u8 ((⟨#[101, 110, 119, 115]⟩ : ByteArray)[((Tw.dir s[k] + 2) % 4).toNat]'hlt4).toNat] rfl rfl (cell_one_new _ _ _) (by simp [Value.oneCell']) hmk ?_; intro w2 hown2 hgrow2))
        go_roundw
        case rel =>
          refine ⟨k, m + 1, by have := HKM.out; omega, rfl, g, rfl, ?_, ?_⟩
          · rw [HAT.out] at hown2
            rw [backList_drop _ k (by rw [size_data]; exact hks), show bytesOf (Tw.backList (s.data.toList.drop (k + 1)) ++ [Tw.backLetter (s.data.toList[k]'(by rw [size_data]; exact hks))]) = bytesOf (Tw.backList (s.data.toList.drop (k + 1))) ++ [.int .u8 (Tw.backLetter s[k]).toNat] from by unfold bytesOf; rw [List.map_append]; rfl]
            exact hown2
          · exact (hb.alloc hs2 _).grown hgrow2 (by simp; omega) (fun j hj => by cases hj; exact hgb.1)
        case measure => simp [intOf]
      · obtain rfl : k = 0 := by omega
        obtain rfl : m = s.size := by omega
        have hcv := conv_own hown
        go_wp2
        go_ret
        exact ⟨ret_str (by rw [back_yes HOK.out]), hb⟩

end Go.Proofs.YtccdfndnjjjgfaaGreatDoor
