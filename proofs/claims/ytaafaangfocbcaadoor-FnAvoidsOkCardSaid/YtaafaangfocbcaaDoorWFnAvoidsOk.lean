/-
  The walk of FnAvoidsOk: for every code: beginnings, ends and ways back of walks that avoid themselves avoid themselves, and none is closed. No condition beyond what the given statement itself bears.
-/
import Derived.Test.YtaafaangfocbcaaDoorDraws
import Derived.Test.YtaafaangfocbcaaDoorAlive
import Derived.Test.YtaafaangfocbcaaDoorLawPure
import Derived.Test.YtaafaangfocbcaaDoorClosed
import Derived.Test.YtaafaangfocbcaaDoorBack
import Derived.Test.YtaafaangfocbcaaDoorOpenCode
namespace Go.Proofs.YtaafaangfocbcaaDoor.fnAvoidsOk
open Go.ChangeShapes Go.WideShapes Go.ChangeAt Go.RowKit Go.WideMaps Go.WideElems
open Go.ChangeMaps (open_string shut_string)

theorem drop_one (s : ByteArray) : (s.extract 1 s.size).data.toList = s.data.toList.drop 1 := by
  rw [Lib.extract_data, List.take_of_length_le (by simp)]
theorem take_last (s : ByteArray) : (s.extract 0 (s.size - 1)).data.toList = s.data.toList.take (s.size - 1) := by
  rw [Lib.extract_data]
  simp

set_option maxHeartbeats 3200000 in
theorem walk (v : Value) (n : Nat) (w : World) (hd : DirsAt w) (h : CodeAt w v n) :
    Calls Tryd.prog 3 #[v] w fun e w' => e = .returned (.bool true) ∧ Below w.heap.size w w' := by
  have hdraw := drawAvoidsOk v n w h
  have hv : ∃ a cap, v = .slice a n cap := by
    rcases h with ⟨rfl, rfl⟩ | ⟨a, cap, rfl, _⟩
    · exact ⟨_, _, rfl⟩
    · exact ⟨_, _, rfl⟩
  obtain ⟨a, cap, rfl⟩ := hv
  have HD := Lib.hid hdraw
  clear hdraw h
  by_cases hn : n ≤ 1048576
  · go_enter Tryd.func3, Tryd.ntmps3
    go_wp2_with (go_at_call 11; refine HD.out.mono ?_; rintro e w1 ⟨s, rfl, hs, hb1⟩)
    have hs1 : s.size ≤ 1048576 := by omega
    obtain ⟨b, hb⟩ : ∃ b, Tw.avoids s.data.toList = b := ⟨_, rfl⟩
    have HB := Lib.hid hb
    clear hb
    have hzz : (s.size = 0 ∧ ((s.size : Int) == 0) = true) ∨ (0 < s.size ∧ ((s.size : Int) == 0) = false) := by
      rcases Nat.eq_zero_or_pos s.size with hz | hz
      · exact .inl ⟨hz, by simp [hz]⟩
      · exact .inr ⟨hz, beq_false_of_ne (by omega)⟩
    cases b <;> rcases hzz with ⟨hz, hz2⟩ | ⟨hz, hz2⟩
    all_goals
      go_wp2_with (first
        | (go_at_call 12; first
            | (have hq := hb7; refine (implAvoidsOk_is _ _ (by simp; omega) (hd.below' hb7) true (by rw [take_last]; exact Tw.avoids_take HB.out _)).mono ?_; rintro e w8 ⟨rfl, hb8'⟩; have hb8 := hb7.trans (hb8'.mono hb7.size))
            | (have hq := hb6; refine (implAvoidsOk_is _ _ (by simp; omega) (hd.below' hb6) true (by rw [drop_one]; exact Tw.avoids_drop HB.out 1 (by rw [size_data]; omega))).mono ?_; rintro e w7 ⟨rfl, hb7'⟩; have hb7 := hb6.trans (hb7'.mono hb6.size))
            | (have hq := hb5; refine (implAvoidsOk_is _ _ (by rw [Tw.str_size, Tw.backWalk_eq (Tw.avoids_ok HB.out), Tw.length_back, size_data]; omega) (hd.below' hb5) true (by rw [Tw.str_data, Tw.backWalk_eq (Tw.avoids_ok HB.out)]; exact Tw.avoids_back HB.out)).mono ?_; rintro e w6 ⟨rfl, hb6'⟩; have hb6 := hb5.trans (hb6'.mono hb5.size))
            | (refine (implAvoidsOk_is s _ hs1 (hd.below' hb1) _ HB.out).mono ?_; rintro e w2 ⟨rfl, hb2'⟩; have hb2 := hb1.trans (hb2'.mono hb1.size)))
        | (go_at_call 13; refine (specAvoidsOk_is s _ hs1 _ HB.out).mono ?_; rintro e w3 ⟨rfl, hb3'⟩; have hb3 := hb2.trans (hb3'.mono hb2.size))
        | (go_at_call 15; have hcl := implClosedOk s w3 hs1 (hd.below' hb3); rw [Tw.avoids_open HB.out] at hcl; refine hcl.mono ?_; clear hcl; rintro e w4 ⟨rfl, hb4'⟩; have hb4 := hb3.trans (hb4'.mono hb3.size))
        | (go_at_call 16; refine (implBackWalk s _ hs1).mono ?_; rintro e w5 ⟨rfl, hb5'⟩; have hb5 := hb4.trans (hb5'.mono hb4.size))
        | (go_at_call 14; refine (alive_yes _).mono ?_; rintro e w' ⟨rfl, rfl⟩))
      go_ret
      first
        | exact ⟨rfl, hb8⟩
        | exact ⟨rfl, hb6⟩
        | exact ⟨rfl, hb3⟩
  · have hn' : 1048576 < n := by omega
    go_enter Tryd.func3, Tryd.ntmps3
    go_wp2_with fail
    go_ret
    exact ⟨rfl, Below.refl _ _⟩

end Go.Proofs.YtaafaangfocbcaaDoor.fnAvoidsOk
