/-
  Contracts of UnfoldedOf (both).
-/
import Derived.Test.YtaafaangfocbcaaDoorAvoids
import Derived.Test.YtaafaangfocbcaaDoorWaysImpl
import Derived.Test.YtaafaangfocbcaaDoorAvoidPure
import Derived.Deep.QuietTactic
import Derived.BigQuiet
namespace Go.Proofs.YtaafaangfocbcaaDoor
open Go.RowKit

theorem implAvoidsOk_is (s : ByteArray) (w : World) (hs : s.size ≤ 1048576) (hw : DirsAt w) (b : Bool) (h : Tw.avoids s.data.toList = b) :
    Calls Tryd.prog 12 #[.string s] w fun e w' => e = .returned (.bool b) ∧ Below w.heap.size w w' := h ▸ implAvoidsOk s w hs hw
theorem specAvoidsOk_is (s : ByteArray) (w : World) (hs : s.size ≤ 1048576) (b : Bool) (h : Tw.avoids s.data.toList = b) :
    Calls Tryd.prog 13 #[.string s] w fun e w' => e = .returned (.bool b) ∧ Below w.heap.size w w' := h ▸ specAvoidsOk s w hs

theorem implInWay_is (s : ByteArray) (way : Int) (w : World) (hs : s.size ≤ 1048576) (hw : WaysAt w) (x : ByteArray) (h : Tw.str (Tw.inWay s.data.toList way) = x) :
    Calls Tryd.prog 30 #[.string s, .int .i64 way] w fun e w' => e = .returned (.string x) ∧ Below w.heap.size w w' := h ▸ implInWay s way w hs hw
theorem inWay_len (l : List UInt8) (way : Int) : (Tw.inWay l way).length ≤ l.length := by
  unfold Tw.inWay
  split <;> simp
theorem ret_two {a b : ByteArray} {x y : Bool} (h : a = b) (k : x = y) : Ending.returned (.tuple #[.string a, .bool x]) = .returned (.tuple #[.string b, .bool y]) := by rw [h, k]
theorem unfold_no {l : List UInt8} {p way : Int} (h : Tw.unfolds l p way = false) : Tw.unfolded l p way = [] ∧ Tw.unfoldedOk l p way = false := by simp [Tw.unfolded, Tw.unfoldedOk, h]
theorem unfold_yes {l : List UInt8} {p way : Int} (h : Tw.unfolds l p way = true) : Tw.unfolded l p way = (if Tw.avoids (Tw.unfoldAt l p.toNat way) then Tw.unfoldAt l p.toNat way else []) ∧ Tw.unfoldedOk l p way = Tw.avoids (Tw.unfoldAt l p.toNat way) := by simp [Tw.unfolded, Tw.unfoldedOk, h]
theorem unfold_str (s : ByteArray) (p : Nat) (way : Int) : s.extract 0 p ++ Tw.str (Tw.inWay (s.extract p s.size).data.toList way) = Tw.str (Tw.unfoldAt s.data.toList p way) := by
  rw [← Tw.str_of (s.extract 0 p), Tw.str_append, Lib.extract_data, Lib.extract_data, List.drop_zero, Nat.sub_zero, List.take_of_length_le (l := s.data.toList.drop p) (by simp)]
  rfl

/-- What the two share: the cases, and what is known in each. -/
structure UnfoldYes (s : ByteArray) (p : Nat) (way : Int) (x u : ByteArray) : Prop where
  part : (s.extract p s.size).size ≤ 1048576
  size : u.size ≤ 1048576
  sub : Tw.str (Tw.inWay (s.extract p s.size).data.toList way) = x
  few : x.size ≤ 40
  str : s.extract 0 p ++ x = u
  out : Tw.str (Tw.unfolded s.data.toList p way) = if Tw.avoids u.data.toList = true then u else Tw.str []
  ok : Tw.unfoldedOk s.data.toList p way = Tw.avoids u.data.toList
theorem unfold_case {s : ByteArray} {p : Nat} {way : Int} (hav : Tw.avoids s.data.toList = true) (hp : p ≤ s.size) (h0 : 0 ≤ way) (h7 : way ≤ 7) : ∃ x u, UnfoldYes s p way x u := by
  have h40 : s.size ≤ 40 := by have := Tw.walkOk_len (Tw.avoids_ok hav); rwa [size_data] at this
  have hy := unfold_yes (l := s.data.toList) (p := (p : Int)) (way := way) (by simp [Tw.unfolds, hav, h0, h7, hp])
  refine ⟨_, Tw.str (Tw.unfoldAt s.data.toList p way), by simp; omega, ?_, rfl, ?_, unfold_str s p way, ?_, ?_⟩
  · rw [Tw.str_size]
    have := inWay_len (s.data.toList.drop p) way
    unfold Tw.unfoldAt
    simp at this ⊢
    omega
  · rw [Tw.str_size]
    have := inWay_len (s.extract p s.size).data.toList way
    rw [size_data] at this
    have h2 : (s.extract p s.size).size ≤ s.size := by simp
    omega
  · rw [hy.1, Tw.str_data, Int.toNat_natCast]
    split <;> rfl
  · rw [hy.2, Tw.str_data, Int.toNat_natCast]

set_option maxHeartbeats 1600000 in
theorem specUnfolded (s : ByteArray) (p way : Int) (w : World) (hs : s.size ≤ 1048576) (hp : -9223372036854775808 ≤ p ∧ p ≤ 9223372036854775807) (hway : -9223372036854775808 ≤ way ∧ way ≤ 9223372036854775807) :
    Calls Tryd.prog 22 #[.string s, .int .i64 p, .int .i64 way] w fun e w' => e = .returned (.tuple #[.string (Tw.str (Tw.unfolded s.data.toList p way)), .bool (Tw.unfoldedOk s.data.toList p way)]) ∧ Below w.heap.size w w' := by
  cases hav : Tw.avoids s.data.toList
  · have HN := Lib.hid (unfold_no (l := s.data.toList) (p := p) (way := way) (by simp [Tw.unfolds, hav]))
    have HAV := Lib.hid hav
    clear hav
    go_enter Tryd.func22, Tryd.ntmps22
    go_wp2_with (first | (go_at_call 13; refine (specAvoidsOk_is _ _ hs false HAV.out).mono ?_; rintro e w1 ⟨rfl, hb1⟩))
    go_ret2
    exact ⟨ret_two (by rw [HN.out.1]; rfl) HN.out.2.symm, hb1⟩
  · have HAV := Lib.hid hav
    have h40 : s.size ≤ 40 := by have := Tw.walkOk_len (Tw.avoids_ok hav); rwa [size_data] at this
    clear hav
    by_cases hin : 0 ≤ p ∧ p ≤ s.size
    · obtain ⟨p, rfl⟩ := Int.eq_ofNat_of_zero_le hin.1
      have hps : p ≤ s.size := by omega
      have hp0 : (0 : Int) ≤ (p : Int) := by omega
      have hp1 : (p : Int) ≤ (s.size : Int) := by omega
      clear hin
      by_cases hw7 : 0 ≤ way ∧ way ≤ 7
      · obtain ⟨h0, h7⟩ := hw7
        obtain ⟨x, u, hu⟩ := unfold_case HAV.out hps h0 h7
        have HU := Lib.hid hu
        have hx40 := hu.few
        clear hu
        cases ha : Tw.avoids u.data.toList
        all_goals
          have HA := Lib.hid ha
          clear ha
          go_enter Tryd.func22, Tryd.ntmps22
          go_wp2_with (first
            | (go_at_call 13; refine (specAvoidsOk_is _ _ hs true HAV.out).mono ?_; rintro e w1 ⟨rfl, hb1⟩)
            | (go_at_call 56; refine (in_yes _ _ _ _ (by omega) (by omega)).mono ?_; rintro e w' ⟨rfl, rfl⟩))
          go_quiet ((go_at_call 31; exact Calls.quiet_of_same ((specInWay _ _ _ HU.out.part).mono (fun _ _ h => ⟨h.1.trans (ret_str HU.out.sub), h.2.symm⟩))))
          go_wp2_with (first
            | (go_at_call 13; rw [HU.out.str]; refine (specAvoidsOk_is _ _ HU.out.size _ HA.out).mono ?_; rintro e w2 ⟨rfl, hb2⟩))
          go_ret2
          refine ⟨ret_two ?_ (by rw [HU.out.ok, HA.out]), (below_drewN hb1 _).trans (hb2.mono (below_drewN hb1 _).size)⟩
          rw [HU.out.out, HA.out]
          first | rfl | (rw [if_pos rfl]; exact HU.out.str)
      · have HW := Lib.hid hw7
        have HN := Lib.hid (unfold_no (l := s.data.toList) (p := (p : Int)) (way := way) (by simp [Tw.unfolds, HAV.out, hps]; omega))
        clear hw7
        go_enter Tryd.func22, Tryd.ntmps22
        go_wp2_with (first
          | (go_at_call 13; refine (specAvoidsOk_is _ _ hs true HAV.out).mono ?_; rintro e w1 ⟨rfl, hb1⟩)
          | (go_at_call 56; refine (in_yes _ _ _ _ (by omega) (by omega)).mono ?_; rintro e w' ⟨rfl, rfl⟩)
          | (go_at_call 56; refine (in_no _ _ _ _ HW.out).mono ?_; rintro e w' ⟨rfl, rfl⟩))
        go_ret2
        exact ⟨ret_two (by rw [HN.out.1]; rfl) HN.out.2.symm, hb1⟩
    · have HI := Lib.hid hin
      have HN := Lib.hid (unfold_no (l := s.data.toList) (p := p) (way := way) (by
        unfold Tw.unfolds
        rw [Bool.eq_false_iff]
        intro h
        simp only [Bool.and_eq_true, decide_eq_true_eq, size_data] at h
        exact hin ⟨h.1.1.1.2, h.1.1.2⟩))
      clear hin
      go_enter Tryd.func22, Tryd.ntmps22
      go_wp2_with (first
        | (go_at_call 13; refine (specAvoidsOk_is _ _ hs true HAV.out).mono ?_; rintro e w1 ⟨rfl, hb1⟩)
        | (go_at_call 56; refine (in_no _ _ _ _ HI.out).mono ?_; rintro e w' ⟨rfl, rfl⟩))
      go_ret2
      exact ⟨ret_two (by rw [HN.out.1]; rfl) HN.out.2.symm, hb1⟩

set_option maxHeartbeats 1600000 in
theorem implUnfolded (s : ByteArray) (p way : Int) (w : World) (hs : s.size ≤ 1048576) (hw : WaysAt w) (hd : DirsAt w) :
    Calls Tryd.prog 21 #[.string s, .int .i64 p, .int .i64 way] w fun e w' => e = .returned (.tuple #[.string (Tw.str (Tw.unfolded s.data.toList p way)), .bool (Tw.unfoldedOk s.data.toList p way)]) ∧ Below w.heap.size w w' := by
  cases hav : Tw.avoids s.data.toList
  · have HN := Lib.hid (unfold_no (l := s.data.toList) (p := p) (way := way) (by simp [Tw.unfolds, hav]))
    have HAV := Lib.hid hav
    clear hav
    go_enter Tryd.func21, Tryd.ntmps21
    go_wp2_with (first | (go_at_call 12; refine (implAvoidsOk_is _ _ hs hd false HAV.out).mono ?_; rintro e w1 ⟨rfl, hb1⟩))
    go_ret2
    exact ⟨ret_two (by rw [HN.out.1]; rfl) HN.out.2.symm, hb1⟩
  · have HAV := Lib.hid hav
    have h40 : s.size ≤ 40 := by have := Tw.walkOk_len (Tw.avoids_ok hav); rwa [size_data] at this
    clear hav
    by_cases hin : (0 ≤ p ∧ p ≤ s.size) ∧ (0 ≤ way ∧ way ≤ 7)
    · obtain ⟨hin, h0, h7⟩ := hin
      obtain ⟨p, rfl⟩ := Int.eq_ofNat_of_zero_le hin.1
      have hps : p ≤ s.size := by omega
      have hp0 : (0 : Int) ≤ (p : Int) := by omega
      have hp1 : (p : Int) ≤ (s.size : Int) := by omega
      clear hin
      obtain ⟨x, u, hu⟩ := unfold_case HAV.out hps h0 h7
      have HU := Lib.hid hu
      have hx40 := hu.few
      clear hu
      cases ha : Tw.avoids u.data.toList
      all_goals
        have HA := Lib.hid ha
        clear ha
        have hmin : min p s.size = p := by omega
        have hcat : ¬ 9223372036854775807 < p + x.size := by omega
        go_enter Tryd.func21, Tryd.ntmps21
        go_wp2_with (first
          | (go_at_call 12; refine (implAvoidsOk_is _ _ hs hd true HAV.out).mono ?_; rintro e w1 ⟨rfl, hb1⟩))
        have hw1 := hw.below' hb1
        have hd1 := hd.below' hb1
        go_region_law (first | (go_simp; go_at_call 30; refine (implInWay_is _ _ _ HU.out.part hw1.drew _ HU.out.sub).mono ?_; rintro e w2 ⟨rfl, hb2⟩))
        all_goals
          go_wp2_with (first
            | (go_at_call 12; rw [HU.out.str]; refine (implAvoidsOk_is _ _ HU.out.size (hd1.drew.below' hb2) _ HA.out).mono ?_; rintro e w3 ⟨rfl, hb3⟩))
          go_ret2
          have hb12 : Below w.heap.size w w2 := hb1.drew.trans (hb2.mono hb1.size)
          refine ⟨ret_two ?_ (by rw [HU.out.ok, HA.out]), hb12.trans (hb3.mono hb12.size)⟩
          rw [HU.out.out, HA.out]
          first | rfl | (rw [if_pos rfl]; exact HU.out.str)
    · have hout : (p < 0 ∨ (s.size : Int) < p) ∨ ((0 ≤ p ∧ p ≤ s.size) ∧ (way < 0 ∨ 7 < way)) := by omega
      have HN := Lib.hid (unfold_no (l := s.data.toList) (p := p) (way := way) (by
        unfold Tw.unfolds
        rw [Bool.eq_false_iff]
        intro h
        simp only [Bool.and_eq_true, decide_eq_true_eq, size_data] at h
        exact hin ⟨⟨h.1.1.1.2, h.1.1.2⟩, h.1.2, h.2⟩))
      clear hin
      rcases hout with (hout | hout) | ⟨⟨hp0, hp1⟩, hout | hout⟩
      all_goals
        go_enter Tryd.func21, Tryd.ntmps21
        go_wp2_with (first
          | (go_at_call 12; refine (implAvoidsOk_is _ _ hs hd true HAV.out).mono ?_; rintro e w1 ⟨rfl, hb1⟩))
        go_ret2
        exact ⟨ret_two (by rw [HN.out.1]; rfl) HN.out.2.symm, hb1⟩

end Go.Proofs.YtaafaangfocbcaaDoor
