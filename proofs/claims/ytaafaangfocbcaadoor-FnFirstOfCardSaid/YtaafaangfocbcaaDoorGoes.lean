/-
  Contracts of the reference's GoesOn and CaughtOk.
-/
import Derived.Test.YtaafaangfocbcaaDoorUnfold
namespace Go.Proofs.YtaafaangfocbcaaDoor
open Go.RowKit

theorem goes_no {l : List UInt8} (h : Tw.avoids l = false) : Tw.goesOn l = [] := by simp [Tw.goesOn, h]
theorem goes_full {l : List UInt8} (h : 40 ≤ l.length) : Tw.goesOn l = [] := by
  unfold Tw.goesOn
  rw [if_neg]
  simp
  omega
theorem goes_yes {l : List UInt8} (h : Tw.avoids l = true) (h40 : l.length < 40) : Tw.goesOn l = Tw.goesTo l 4 := by simp [Tw.goesOn, h, h40]
theorem snoc_data (s : ByteArray) (c : UInt8) : (s ++ (⟨#[c]⟩ : ByteArray)).data.toList = s.data.toList ++ [c] := by simp
theorem goes_len (l : List UInt8) : (Tw.goesOn l).length ≤ 4 := by
  unfold Tw.goesOn
  split
  · exact Tw.goesTo_len l 4
  · simp
theorem goesTo_yes {l : List UInt8} {k : Nat} {c : UInt8} (hc : Tw.order[k]? = some c) (h : Tw.avoids (l ++ [c]) = true) : Tw.str (Tw.goesTo l k) ++ (⟨#[c]⟩ : ByteArray) = Tw.str (Tw.goesTo l (k + 1)) := by
  obtain ⟨hk, e⟩ := List.getElem?_eq_some_iff.1 hc
  have hk4 : k < 4 := hk
  rw [Tw.goesTo_succ l k hk4]
  simp only [e, h, if_true]
  exact Tw.str_append _ [c]
theorem goesTo_not {l : List UInt8} {k : Nat} {c : UInt8} (hc : Tw.order[k]? = some c) (h : Tw.avoids (l ++ [c]) = false) : Tw.goesTo l (k + 1) = Tw.goesTo l k := by
  obtain ⟨hk, e⟩ := List.getElem?_eq_some_iff.1 hc
  have hk4 : k < 4 := hk
  rw [Tw.goesTo_succ l k hk4]
  simp [e, h]

set_option maxRecDepth 100000 in
set_option maxHeartbeats 3200000 in
theorem specGoesOn_yes (s : ByteArray) (w : World) (hav : Tw.avoids s.data.toList = true) (h40 : s.size < 40) :
    Calls Tryd.prog 19 #[.string s] w fun e w' => e = .returned (.string (Tw.str (Tw.goesOn s.data.toList))) ∧ Below w.heap.size w w' := by
  have hs : s.size ≤ 1048576 := by omega
  have HAV := Lib.hid hav
  clear hav
  go_enter Tryd.func19, Tryd.ntmps19
  go_wp2
  go_loopw [3, 4] (fun o i wr => ∃ k : Nat, k ≤ 4 ∧ o = .string (Tw.str (Tw.goesTo s.data.toList k)) ∧ i = .int .i64 k ∧ Below w.heap.size w wr) (fun _ i _ => 4 - (intOf i).toNat)
  case atStart => exact ⟨0, Nat.zero_le _, rfl, rfl, Below.refl _ _⟩
  case round =>
    obtain ⟨k, hk, rfl, rfl, hb⟩ := hrel
    by_cases hlt : k < 4
    · have hsm : (Tw.str (Tw.goesTo s.data.toList k)).size ≤ 4 := by rw [Tw.str_size]; exact Tw.goesTo_len _ _
      obtain ⟨t, ht⟩ : ∃ t, Tw.str (Tw.goesTo s.data.toList k) = t := ⟨_, rfl⟩
      rw [ht] at hsm ⊢
      have HT := Lib.hid ht
      clear ht
      obtain ⟨c, hc, hk4⟩ : ∃ c, Tw.order[k]? = some c ∧ ((k = 0 ∧ c = 101) ∨ (k = 1 ∧ c = 110) ∨ (k = 2 ∧ c = 115) ∨ (k = 3 ∧ c = 119)) := by
        obtain rfl | rfl | rfl | rfl : k = 0 ∨ k = 1 ∨ k = 2 ∨ k = 3 := by omega
        · exact ⟨101, rfl, by simp⟩
        · exact ⟨110, rfl, by simp⟩
        · exact ⟨115, rfl, by simp⟩
        · exact ⟨119, rfl, by simp⟩
      have HC := Lib.hid hc
      clear hc
      cases ha : Tw.avoids (s.data.toList ++ [c])
      all_goals
        have HA := Lib.hid ((congrArg Tw.avoids (snoc_data s c)).trans ha)
        have HA2 := Lib.hid ha
        have HS := Lib.hid (show (s ++ (⟨#[c]⟩ : ByteArray)).size ≤ 1048576 by rw [ByteArray.size_append]; show s.size + 1 ≤ _; omega)
        clear ha
        rcases hk4 with ⟨rfl, rfl⟩ | ⟨rfl, rfl⟩ | ⟨rfl, rfl⟩ | ⟨rfl, rfl⟩
      all_goals
        go_wp2_with (first
          | (go_at_call 13; first | (have hq := hb1.size; refine (specAvoidsOk_is _ _ HS.out _ HA.out).mono ?_; rintro e w2 ⟨rfl, hb2⟩) | (refine (specAvoidsOk_is s _ hs true HAV.out).mono ?_; rintro e w1 ⟨rfl, hb1⟩)))
        go_roundw
        case rel =>
          have hs0 := hb.size
          have hs1 := hb1.size
          refine ⟨_ + 1, by omega, ?_, rfl, (((hb.trans (hb1.mono hs0)).alloc (Nat.le_trans hs0 hs1) _).trans (hb2.mono (by simp; omega)))⟩
          first
            | exact congrArg Value.string ((congrArg (· ++ _) HT.out.symm).trans (goesTo_yes HC.out HA2.out))
            | exact congrArg Value.string (HT.out.symm.trans (congrArg Tw.str (goesTo_not HC.out HA2.out).symm))
        case measure => simp [intOf]
    · obtain rfl : k = 4 := by omega
      go_wp2_with fail
      go_ret
      exact ⟨ret_str (by rw [goes_yes HAV.out (by rw [size_data]; exact h40)]), hb⟩

set_option maxHeartbeats 800000 in
theorem specGoesOn (s : ByteArray) (w : World) (hs : s.size ≤ 1048576) :
    Calls Tryd.prog 19 #[.string s] w fun e w' => e = .returned (.string (Tw.str (Tw.goesOn s.data.toList))) ∧ Below w.heap.size w w' := by
  cases hav : Tw.avoids s.data.toList
  · have HAV := Lib.hid hav
    have HN := Lib.hid (goes_no hav)
    clear hav
    go_enter Tryd.func19, Tryd.ntmps19
    go_wp2
    refine wp_loop_rounds 1 ?_
    rw [rounds_succ]
    go_wp2_with (first | (go_at_call 13; refine (specAvoidsOk_is _ _ hs false HAV.out).mono ?_; rintro e w1 ⟨rfl, hb1⟩))
    go_ret
    exact ⟨ret_str (by rw [HN.out]; rfl), hb1⟩
  · by_cases h40 : s.size < 40
    · exact specGoesOn_yes s w hav h40
    · have h40' : 40 ≤ s.size := by omega
      have HAV := Lib.hid hav
      have HN := Lib.hid (goes_full (l := s.data.toList) (by rw [size_data]; exact h40'))
      clear hav h40
      go_enter Tryd.func19, Tryd.ntmps19
      go_wp2
      refine wp_loop_rounds 1 ?_
      rw [rounds_succ]
      go_wp2_with (first | (go_at_call 13; refine (specAvoidsOk_is _ _ hs true HAV.out).mono ?_; rintro e w1 ⟨rfl, hb1⟩))
      go_ret
      exact ⟨ret_str (by rw [HN.out]; rfl), hb1⟩

theorem caught_eq (l : List UInt8) (b : Bool) (hb : (Tw.goesOn l).isEmpty = b) : Tw.caught l = (Tw.avoids l && decide (l.length < 40) && b) := by rw [← hb]; rfl

set_option maxHeartbeats 800000 in
theorem specCaughtOk (s : ByteArray) (w : World) (hs : s.size ≤ 1048576) :
    Calls Tryd.prog 25 #[.string s] w fun e w' => e = .returned (.bool (Tw.caught s.data.toList)) ∧ Below w.heap.size w w' := by
  cases hav : Tw.avoids s.data.toList
  · have HAV := Lib.hid hav
    clear hav
    go_enter Tryd.func25, Tryd.ntmps25
    go_wp2_with (first | (go_at_call 13; refine (specAvoidsOk_is _ _ hs false HAV.out).mono ?_; rintro e w1 ⟨rfl, hb1⟩))
    go_ret
    exact ⟨ret_bool (by simp [Tw.caught, HAV.out]), hb1⟩
  · by_cases h40 : s.size < 40
    · have HG := Lib.hid (specGoesOn_yes s · hav h40)
      have HAV := Lib.hid hav
      clear hav
      obtain ⟨b, hb⟩ : ∃ b, (Tw.goesOn s.data.toList).isEmpty = b := ⟨_, rfl⟩
      have HB := Lib.hid (caught_eq _ b hb)
      obtain ⟨t, ht⟩ : ∃ t, Tw.str (Tw.goesOn s.data.toList) = t := ⟨_, rfl⟩
      have htb : t.toList.isEmpty = b := by rw [Lib.toList_data, ← ht, Tw.str_data]; exact hb
      rw [ht] at HG
      clear ht hb
      go_enter Tryd.func25, Tryd.ntmps25
      go_wp2_with (first
        | (go_at_call 13; refine (specAvoidsOk_is _ _ hs true HAV.out).mono ?_; rintro e w1 ⟨rfl, hb1⟩)
        | (go_at_call 19; refine (HG.out _).mono ?_; rintro e w2 ⟨rfl, hb2⟩))
      go_ret
      refine ⟨ret_bool ?_, hb1.trans (hb2.mono hb1.size)⟩
      rw [HB.out, HAV.out, size_data]
      simp [h40]
    · have HAV := Lib.hid hav
      clear hav
      go_enter Tryd.func25, Tryd.ntmps25
      go_wp2_with (first | (go_at_call 13; refine (specAvoidsOk_is _ _ hs true HAV.out).mono ?_; rintro e w1 ⟨rfl, hb1⟩))
      go_ret
      exact ⟨ret_bool (by rw [Tw.caught, size_data]; simp; omega), hb1⟩

end Go.Proofs.YtaafaangfocbcaaDoor
