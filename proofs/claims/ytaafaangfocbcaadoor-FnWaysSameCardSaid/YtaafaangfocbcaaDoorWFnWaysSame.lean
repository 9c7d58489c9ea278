/-
  The walk of FnWaysSame: for every code: eight ways leave the walk without steps, two one that is a line there and back, one any other. No condition beyond what the given statement itself bears.
-/
import Derived.Test.YtaafaangfocbcaaDoorDrawWalks
import Derived.Test.YtaafaangfocbcaaDoorAlive
import Derived.Test.YtaafaangfocbcaaDoorSameLaw
import Derived.Test.YtaafaangfocbcaaDoorOpenCode
namespace Go.Proofs.YtaafaangfocbcaaDoor.fnWaysSame
open Go.ChangeShapes Go.WideShapes Go.ChangeAt Go.RowKit Go.WideMaps Go.WideElems
open Go.ChangeMaps (open_string shut_string)

theorem implSame_is (s : ByteArray) (w : World) (hs : s.size ≤ 1048576) (hw : WaysAt w) (m : Int) (h : waysSame s.data.toList = m) :
    Calls Tryd.prog 27 #[.string s] w fun e w' => e = .returned (.int .i64 m) ∧ Below w.heap.size w w' := h ▸ implWaysSame s w hs hw
theorem specSame_is (s : ByteArray) (w : World) (hs : s.size ≤ 1048576) (m : Int) (h : waysSame s.data.toList = m) :
    Calls Tryd.prog 28 #[.string s] w fun e w' => e = .returned (.int .i64 m) ∧ w = w' := h ▸ specWaysSame s w hs
theorem east_letter {b : UInt8} (h : Tw.isEast b = true) : b = 101 ∨ b = 119 := by simpa [Tw.isEast] using h
theorem east_not {b : UInt8} (h : Tw.isEast b = false) : ((b.toNat : Int) == 101) = false ∧ ((b.toNat : Int) == 119) = false := by
  simp [Tw.isEast] at h
  constructor
  · refine beq_false_of_ne fun e => h.1 ?_
    exact UInt8.toNat_inj.1 (by simpa using (by omega : b.toNat = 101))
  · refine beq_false_of_ne fun e => h.2 ?_
    exact UInt8.toNat_inj.1 (by simpa using (by omega : b.toNat = 119))
theorem value {l : List UInt8} (h : Tw.walkOk l = true) (e n : Bool) (he : Tw.hasEast l = e) (hn : Tw.hasNorth l = n) :
    (e = false ∧ n = false ∧ waysSame l = 8) ∨ (e = true ∧ n = false ∧ waysSame l = 2) ∨ (e = false ∧ n = true ∧ waysSame l = 2) ∨ (e = true ∧ n = true ∧ waysSame l = 1) := by
  rw [waysSame_yes h]
  cases e <;> cases n
  · exact .inl ⟨rfl, rfl, by rw [Tw.same_none h he hn]; rfl⟩
  · exact .inr (.inr (.inl ⟨rfl, rfl, by rw [Tw.same_two h (by rw [he, hn]; simp)]; rfl⟩))
  · exact .inr (.inl ⟨rfl, rfl, by rw [Tw.same_two h (by rw [he, hn]; simp)]; rfl⟩)
  · exact .inr (.inr (.inr ⟨rfl, rfl, by rw [Tw.same_one h he hn]; rfl⟩))

set_option maxHeartbeats 6400000 in
theorem walk (v : Value) (n : Nat) (w : World) (hw : WaysAt w) (h : CodeAt w v n) :
    Calls Tryd.prog 7 #[v] w fun e w' => e = .returned (.bool true) ∧ Below w.heap.size w w' := by
  have hdraw := drawWaysSame v n w h
  have hv : ∃ a cap, v = .slice a n cap := by
    rcases h with ⟨rfl, rfl⟩ | ⟨a, cap, rfl, _⟩
    · exact ⟨_, _, rfl⟩
    · exact ⟨_, _, rfl⟩
  obtain ⟨a, cap, rfl⟩ := hv
  have HD := Lib.hid hdraw
  clear hdraw h
  by_cases hn : n ≤ 1048576
  · go_enter Tryd.func7, Tryd.ntmps7
    go_wp2_with (go_at_call 26; refine HD.out.mono ?_; rintro e w1 ⟨s, rfl, hs, hb1⟩)
    have hs1 : s.size ≤ 1048576 := by omega
    cases hok : Tw.walkOk s.data.toList
    · have hm := waysSame_no hok
      have HM := Lib.hid hm
      clear hm hok
      go_wp2_with (first
        | (go_at_call 27; refine (implSame_is s _ hs1 (hw.below' hb1) _ HM.out).mono ?_; rintro e w2 ⟨rfl, hb2'⟩; have hb2 := hb1.trans (hb2'.mono hb1.size))
        | (go_at_call 28; refine (specSame_is s _ hs1 _ HM.out).mono ?_; rintro e w' ⟨rfl, rfl⟩)
        | (go_at_call 14; refine (alive_yes _).mono ?_; rintro e w' ⟨rfl, rfl⟩))
      go_ret
      exact ⟨rfl, hb2⟩
    · obtain ⟨e, he⟩ : ∃ e, Tw.hasEast s.data.toList = e := ⟨_, rfl⟩
      obtain ⟨q, hq⟩ : ∃ q, Tw.hasNorth s.data.toList = q := ⟨_, rfl⟩
      have hval := value hok e q he hq
      obtain ⟨m, hm⟩ : ∃ m, waysSame s.data.toList = m := ⟨_, rfl⟩
      have hm0 : 0 ≤ m := by rcases hval with ⟨_, _, hv⟩ | ⟨_, _, hv⟩ | ⟨_, _, hv⟩ | ⟨_, _, hv⟩ <;> omega
      have hm8 : m ≤ 8 := by rcases hval with ⟨_, _, hv⟩ | ⟨_, _, hv⟩ | ⟨_, _, hv⟩ | ⟨_, _, hv⟩ <;> omega
      have HM := Lib.hid hm
      have HVAL := Lib.hid hval
      have HE := Lib.hid he
      have HQ := Lib.hid hq
      clear hm hval he hq hok
      go_wp2_with (first
        | (go_at_call 27; refine (implSame_is s _ hs1 (hw.below' hb1) _ HM.out).mono ?_; rintro e w2 ⟨rfl, hb2'⟩; have hb2 := hb1.trans (hb2'.mono hb1.size))
        | (go_at_call 28; refine (specSame_is s _ hs1 _ HM.out).mono ?_; rintro e w' ⟨rfl, rfl⟩))
      go_loopw [5, 6, 7] (fun x y i wr => ∃ j : Nat, i = .int .i64 j ∧ j ≤ s.size ∧ wr = w2 ∧ x = .bool (Tw.hasEast (s.data.toList.take j)) ∧ y = .bool (Tw.hasNorth (s.data.toList.take j))) (fun _ _ i _ => s.size - (intOf i).toNat)
      case atStart => exact ⟨0, rfl, Nat.zero_le _, rfl, rfl, rfl⟩
      case round =>
        obtain ⟨j, rfl, hj, rfl, rfl, rfl⟩ := hrel
        by_cases hlt : j < s.size
        · have hl : j < s.data.toList.length := by rw [size_data]; exact hlt
          have e1 := Tw.hasEast_take hl
          have e2 := Tw.hasNorth_take hl
          have es : s.data.toList[j] = s[j] := rfl
          rw [es] at e1 e2
          cases hx : Tw.isEast s[j]
          · rw [hx, Bool.or_false] at e1
            rw [hx, Bool.not_false, Bool.or_true] at e2
            obtain ⟨n1, n2⟩ := east_not hx
            have E1 := Lib.hid e1
            have E2 := Lib.hid e2
            clear e1 e2 hx es
            go_wp2
            go_roundw
            case rel => exact ⟨j + 1, by go_num, by omega, by trivial, by rw [E1.out], by rw [E2.out]⟩
            case measure => simp [intOf]; omega
          · rw [hx, Bool.or_true] at e1
            rw [hx, Bool.not_true, Bool.or_false] at e2
            have E1 := Lib.hid e1
            have E2 := Lib.hid e2
            have hx2 := east_letter hx
            clear e1 e2 hx es
            obtain ⟨c, hc⟩ : ∃ c, s[j] = c := ⟨_, rfl⟩
            rw [hc] at hx2
            rcases hx2 with rfl | rfl
            all_goals
              have hc1 : ((s[j].toNat : Nat) : Int) = _ := congrArg (fun b : UInt8 => (b.toNat : Int)) hc
              simp at hc1
              go_wp2
              go_roundw
              case rel => exact ⟨j + 1, by go_num, by omega, by trivial, by rw [E1.out], by rw [E2.out]⟩
              case measure => simp [intOf]; omega
        · obtain rfl : j = s.size := by omega
          have e : s.data.toList.take s.size = s.data.toList := List.take_of_length_le (by rw [size_data]; exact Nat.le_refl _)
          rw [e, HE.out, HQ.out]
          rcases HVAL.out with ⟨rfl, rfl, hv⟩ | ⟨rfl, rfl, hv⟩ | ⟨rfl, rfl, hv⟩ | ⟨rfl, rfl, hv⟩
          all_goals
            obtain rfl : m = _ := HM.out.symm.trans hv
            go_wp2_with (first
              | (go_at_call 14; refine (alive_yes _).mono ?_; rintro e w' ⟨rfl, rfl⟩))
            go_ret
            exact ⟨rfl, hb2⟩
  · have hn' : 1048576 < n := by omega
    go_enter Tryd.func7, Tryd.ntmps7
    go_wp2_with fail
    go_ret
    exact ⟨rfl, Below.refl _ _⟩

end Go.Proofs.YtaafaangfocbcaaDoor.fnWaysSame
