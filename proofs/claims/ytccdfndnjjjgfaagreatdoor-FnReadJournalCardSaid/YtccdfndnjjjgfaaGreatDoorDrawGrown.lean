/-
  The draw of a walk that has grown: a short text, and nothing that was there has turned but the reader.
-/
import Derived.Test.YtccdfndnjjjgfaaGreatDoorDrawAvoid
import Derived.Test.YtccdfndnjjjgfaaGreatDoorSimpleSpec
namespace Go.Proofs.YtccdfndnjjjgfaaGreatDoor
open Go.RowKit

set_option maxRecDepth 100000 in
set_option maxHeartbeats 6400000 in
theorem grown_d (w W : World) (R n p k : Nat) (v : Value) (h : Drawn w W R v n p k) (hp : p + k ≤ 100000) :
    Calls Tryz.prog 117 #[.pointer (some ⟨R, 0, none⟩)] W fun e w' => ∃ s : ByteArray, e = .returned (.string s) ∧ 4 ≤ s.size ∧ s.size ≤ 40 ∧ Drawn w w' R v n p (k + 24) := by
  go_enter Tryz.func117, Tryz.ntmps117
  go_wp2_with fail
  go_loopw [3, 4, 5, 6, 7, 8, 9, 10] (fun o i _ _ _ _ _ _ wr => ∃ (s : ByteArray) (j : Nat), o = .string s ∧ i = .int .i64 j ∧ 4 ≤ s.size ∧ s.size ≤ 40 ∧ j ≤ 12 ∧ Drawn w wr R v n p (k + 2 * j)) (fun _ i _ _ _ _ _ _ _ => 12 - (intOf i).toNat)
  case atStart => exact ⟨_, 0, rfl, rfl, by decide, by decide, by omega, h⟩
  case round =>
    obtain ⟨s, j, rfl, rfl, h4, h40, hj, hd⟩ := hrel
    by_cases hlt : j < 12
    · by_cases hroom : s.size + 2 ≤ 40
      · go_wp2_with (go_at_call 68; refine (pick_d hd (by omega) (by omega) (by omega)).mono ?_; rintro e w1 ⟨x, rfl, hx0, hx1, hd1, _⟩)
        obtain ⟨x, rfl⟩ := Int.eq_ofNat_of_zero_le hx0
        have hxs : x < s.size := by omega
        obtain ⟨L, hL⟩ : ∃ L, Tw.dir s[x] = L := ⟨_, rfl⟩
        have hr := Tw.dir_range s[x]
        rw [hL] at hr
        have hlook := look_any s[x] w1
        rw [hL] at hlook
        have HLK := Lib.hid hlook
        clear hL hlook
        go_wp2_with (first
          | (go_at_call 104; refine HLK.out.mono ?_; rintro e w' ⟨rfl, rfl⟩)
          | (go_at_call 68; refine (pick_d (hd1.alloc _) (by omega) (by omega) (by omega)).mono ?_; rintro e w2 ⟨y, rfl, hy0, hy1, hd2, hg2⟩; have hlit := lit_cell hd1.lt hg2; obtain rfl | rfl : y = 0 ∨ y = 1 := by omega
             all_goals (have l0 := hlit 0 _ rfl; have l1 := hlit 1 _ rfl)))
        · obtain ⟨o, ho⟩ : ∃ o, (L + 1) % 4 = o := ⟨_, rfl⟩
          have ho3 : 0 ≤ o ∧ o ≤ 3 := by omega
          rw [ho]
          obtain ⟨b, hb⟩ : ∃ b, (o + 2) % 4 = b := ⟨_, rfl⟩
          have hb3 : 0 ≤ b ∧ b ≤ 3 := by omega
          rw [hb]
          clear ho hb l0 l1
          have e1 : IntKind.i64.wrap ((x : Int) + 1) = (x : Int) + 1 := IntWalk.i64_in _ (by omega)
          have e2 : IntKind.i64.wrap (o + 1) = o + 1 := IntWalk.i64_in _ (by omega)
          have e3 : IntKind.i64.wrap (b + 1) = b + 1 := IntWalk.i64_in _ (by omega)
          go_quiet (fail)
          go_wp2_with (first
            | (go_at_call 54; refine (specSimple_any _ _ (by simp; omega)).mono ?_; rintro e w3 ⟨⟨c, rfl⟩, hb3⟩; have hd3 := hd2.below ((below_drewN (Below.refl _ _) _).trans hb3); cases c))
          all_goals
            go_roundw
            case rel => exact ⟨_, j + 1, rfl, by go_num, by first | omega | (simp; omega), by first | omega | (simp; omega), by omega, hd3.mono (by omega)⟩
            case measure => simp [intOf]; omega
        · obtain ⟨o, ho⟩ : ∃ o, (L + 3) % 4 = o := ⟨_, rfl⟩
          have ho3 : 0 ≤ o ∧ o ≤ 3 := by omega
          rw [ho]
          obtain ⟨b, hb⟩ : ∃ b, (o + 2) % 4 = b := ⟨_, rfl⟩
          have hb3 : 0 ≤ b ∧ b ≤ 3 := by omega
          rw [hb]
          clear ho hb l0 l1
          have e1 : IntKind.i64.wrap ((x : Int) + 1) = (x : Int) + 1 := IntWalk.i64_in _ (by omega)
          have e2 : IntKind.i64.wrap (o + 1) = o + 1 := IntWalk.i64_in _ (by omega)
          have e3 : IntKind.i64.wrap (b + 1) = b + 1 := IntWalk.i64_in _ (by omega)
          go_quiet (fail)
          go_wp2_with (first
            | (go_at_call 54; refine (specSimple_any _ _ (by simp; omega)).mono ?_; rintro e w3 ⟨⟨c, rfl⟩, hb3⟩; have hd3 := hd2.below ((below_drewN (Below.refl _ _) _).trans hb3); cases c))
          all_goals
            go_roundw
            case rel => exact ⟨_, j + 1, rfl, by go_num, by first | omega | (simp; omega), by first | omega | (simp; omega), by omega, hd3.mono (by omega)⟩
            case measure => simp [intOf]; omega
      · go_wp2_with fail
        go_ret
        exact ⟨s, rfl, h4, h40, hd.mono (by omega)⟩
    · obtain rfl : j = 12 := by omega
      go_wp2_with fail
      go_ret
      exact ⟨s, rfl, h4, h40, hd.mono (by omega)⟩

end Go.Proofs.YtccdfndnjjjgfaaGreatDoor
