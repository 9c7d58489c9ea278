/-
  Contracts of readNumber (program) and l1Digits (reference): numbers of a few digits. Condition: texts of a length that an int holds.
-/
import Derived.Test.YtccdfndnjjjgfaaGreatDoorReadPure
import Derived.Test.YtccdfndnjjjgfaaGreatDoorSteps
namespace Go.Proofs.YtccdfndnjjjgfaaGreatDoor
open Go.RowKit

def digit (c : UInt8) : Bool := decide (48 ≤ c.toNat) && decide (c.toNat ≤ 57)
theorem num_bound {l : List UInt8} (h : l.all digit = true) (hl : l.length ≤ 4) : numVal l ≤ 9999 := by
  have hd : ∀ c : UInt8, digit c = true → c.toNat - 48 ≤ 9 := fun c hc => by
    unfold digit at hc
    simp at hc
    omega
  match l, h, hl with
  | [], _, _ => simp [numVal]
  | [a], h, _ =>
    simp at h
    have h1 := hd a h
    simp [numVal]
    omega
  | [a, b], h, _ =>
    simp at h
    have h1 := hd a h.1
    have h2 := hd b h.2
    simp [numVal]
    omega
  | [a, b, c], h, _ =>
    simp at h
    have h1 := hd a h.1
    have h2 := hd b h.2.1
    have h3 := hd c h.2.2
    simp [numVal]
    omega
  | [a, b, c, d], h, _ =>
    simp at h
    have h1 := hd a h.1
    have h2 := hd b h.2.1
    have h3 := hd c h.2.2.1
    have h4 := hd d h.2.2.2
    simp [numVal]
    omega
  | _ :: _ :: _ :: _ :: _ :: _, _, hl => exact absurd hl (by simp)
theorem num_snoc {l : List UInt8} {k : Nat} (hk : k < l.length) : numVal (l.take (k + 1)) = 10 * numVal (l.take k) + (l[k].toNat - 48) := by
  unfold numVal
  rw [List.take_succ_eq_append_getElem hk, List.foldl_append]
  rfl
theorem all_snoc {l : List UInt8} {k : Nat} (hk : k < l.length) (h : (l.take k).all digit = true) (hc : digit l[k] = true) : (l.take (k + 1)).all digit = true := by
  rw [List.take_succ_eq_append_getElem hk, List.all_append, h]
  simp [hc]
theorem all_not {l : List UInt8} {k : Nat} (hk : k < l.length) (hc : digit l[k] = false) : l.all digit = false := by
  rw [Bool.eq_false_iff]
  intro h
  have := List.all_eq_true.1 h l[k] (List.getElem_mem hk)
  rw [hc] at this
  cases this
theorem ok_is (l : List UInt8) (d : Nat) : numOk l d = (decide (1 ≤ l.length) && decide (l.length ≤ d) && !(decide (1 < l.length) && l.head? == some 48) && l.all digit) := rfl
theorem ok_nil (d : Nat) : numOk [] d = false := rfl
theorem ok_long {l : List UInt8} {d : Nat} (h : d < l.length) : numOk l d = false := by
  rw [ok_is, decide_eq_false (show ¬ l.length ≤ d by omega), Bool.and_false, Bool.false_and, Bool.false_and]
theorem ok_zero {l : List UInt8} {d : Nat} (h : 1 < l.length) (h0 : l[0] = 48) : numOk l d = false := by
  have e : l.head? = some 48 := by rw [List.head?_eq_getElem?, List.getElem?_eq_getElem (by omega), h0]
  rw [ok_is, e, decide_eq_true h]
  simp
theorem ok_bad {l : List UInt8} {d k : Nat} (hk : k < l.length) (hc : digit l[k] = false) : numOk l d = false := by
  rw [ok_is, all_not hk hc, Bool.and_false]
theorem ok_good {l : List UInt8} {d : Nat} (h1 : 0 < l.length) (h2 : l.length ≤ d) (h3 : 1 < l.length → l[0] ≠ 48) (h4 : l.all digit = true) : numOk l d = true := by
  rw [ok_is, decide_eq_true (show 1 ≤ l.length by omega), decide_eq_true h2, h4]
  by_cases h : 1 < l.length
  · have e : l.head? = some l[0] := by rw [List.head?_eq_getElem?, List.getElem?_eq_getElem (by omega)]
    rw [e]
    have := h3 h
    simp [this]
  · rw [decide_eq_false h]
    rfl
theorem digit_yes {c : UInt8} (h1 : (48 : Int) ≤ c.toNat) (h2 : (c.toNat : Int) ≤ 57) : digit c = true := by
  unfold digit
  rw [decide_eq_true (show 48 ≤ c.toNat by omega), decide_eq_true (show c.toNat ≤ 57 by omega)]
  rfl
theorem digit_low {c : UInt8} (h : (c.toNat : Int) < 48) : digit c = false := by
  unfold digit
  rw [decide_eq_false (show ¬ 48 ≤ c.toNat by omega), Bool.false_and]
theorem digit_high {c : UInt8} (h : (57 : Int) < c.toNat) : digit c = false := by
  unfold digit
  rw [decide_eq_false (show ¬ c.toNat ≤ 57 by omega), Bool.and_false]
/-- What readNumber returns. -/
def numRes (l : List UInt8) (d : Nat) : Int := if numOk l d then (numVal l : Int) else 0
def NumOut (l : List UInt8) (d : Nat) (w : World) (e : Ending) (w' : World) : Prop := e = .returned (.tuple #[.int .i64 (numRes l d), .bool (numOk l d)]) ∧ w = w'
theorem num_no {l : List UInt8} {d : Nat} (h : numOk l d = false) : Ending.returned (.tuple #[.int .i64 0, .bool false]) = .returned (.tuple #[.int .i64 (numRes l d), .bool (numOk l d)]) := by
  unfold numRes
  rw [h]
  rfl
theorem num_yes {l : List UInt8} {d m : Nat} (h : numOk l d = true) (hm : m = numVal l) : Ending.returned (.tuple #[.int .i64 (m : Int), .bool true]) = .returned (.tuple #[.int .i64 (numRes l d), .bool (numOk l d)]) := by
  unfold numRes
  rw [h, hm]
  rfl

set_option maxRecDepth 100000 in
set_option maxHeartbeats 800000 in
theorem num_loop (s : ByteArray) (d : Nat) (hd : d ≤ 4) (w : World) (h0 : 0 < s.size) (h1 : s.size ≤ d) (hz : (s[0].toNat : Int) = 48 → s.size = 1) :
    Calls Tryz.prog 85 #[.string s, .int .i64 d] w (NumOut s.data.toList d w) := by
  have hne := notEmptyR h0
  have hgt : ¬ (d : Int) < s.size := by omega
  have hH : Hid (1 < s.data.toList.length → s.data.toList[0]'(by rw [size_data]; exact h0) ≠ 48) := fun h e => by
    rw [size_data] at h
    have := hz (by rw [show s[0] = 48 from e]; rfl)
    omega
  have hcase : ((s[0].toNat : Int) == 48) = false ∨ (((s[0].toNat : Int) == 48) = true ∧ s.size = 1) := by
    cases hb : ((s[0].toNat : Int) == 48)
    · exact .inl rfl
    · exact .inr ⟨rfl, hz (beq_iff_eq.1 hb)⟩
  clear hz
  rcases hcase with hb | ⟨hb, hs1⟩
  all_goals
    try (have hs2 : ¬ (1 : Int) < s.size := by omega)
    try (have HS1 := Lib.hid hs1; clear hs1)
    go_enter Tryz.func85, Tryz.ntmps85
    go_wp2
    go_loop [6, 7] (fun n i => ∃ k m : Nat, k ≤ s.size ∧ i = .int .i64 k ∧ n = .int .i64 m ∧ m ≤ 9999 ∧ Hid (m = numVal (s.data.toList.take k)) ∧ Hid ((s.data.toList.take k).all digit = true)) (fun _ i => s.size - (intOf i).toNat)
    case atStart => exact ⟨0, 0, Nat.zero_le _, rfl, rfl, by omega, rfl, rfl⟩
    case round =>
      obtain ⟨k, m, hk, rfl, rfl, hm, HM, HA⟩ := hrel
      by_cases hlt : k < s.size
      · have hl : k < s.data.toList.length := by rw [size_data]; exact hlt
        by_cases hc1 : (s[k].toNat : Int) < 48
        · go_wp2
          go_ret2
          exact ⟨num_no (ok_bad hl (digit_low hc1)), rfl⟩
        · by_cases hc2 : (57 : Int) < s[k].toNat
          · go_wp2
            go_ret2
            exact ⟨num_no (ok_bad hl (digit_high hc2)), rfl⟩
          · have hc3 : (48 : Int) ≤ s[k].toNat := by omega
            have hc4 : (s[k].toNat : Int) ≤ 57 := by omega
            have ha := all_snoc hl HA.out (digit_yes hc3 hc4)
            have hv := num_snoc hl
            have hle := num_bound ha (by rw [List.length_take, size_data]; omega)
            have HV := Lib.hid hv
            have HA2 := Lib.hid ha
            have HLE := Lib.hid hle
            clear hv ha hle
            go_wp2
            go_round
            case rel =>
              have e : 10 * m + (s[k].toNat - 48) = numVal (s.data.toList.take (k + 1)) := by rw [HV.out, HM.out]; rfl
              refine ⟨k + 1, 10 * m + (s[k].toNat - 48), by omega, by go_num, ?_, by rw [e]; exact HLE.out, e, HA2.out⟩
              congr 1
              omega
            case measure => simp [intOf]; omega
      · obtain rfl : k = s.size := by omega
        go_wp2
        go_ret2
        have e : s.data.toList.take s.size = s.data.toList := List.take_of_length_le (by rw [size_data]; exact Nat.le_refl _)
        have hm2 := HM.out
        have ha2 := HA.out
        rw [e] at hm2 ha2
        exact ⟨num_yes (ok_good (by rw [size_data]; exact h0) (by rw [size_data]; exact h1) hH.out ha2) hm2, rfl⟩
theorem readNumber_any (s : ByteArray) (d : Nat) (hd : d ≤ 4) (w : World) (hs : s.size ≤ 9223372036854775807) :
    Calls Tryz.prog 85 #[.string s, .int .i64 d] w (NumOut s.data.toList d w) := by
  by_cases h0 : 0 < s.size
  · have hne := notEmptyR h0
    by_cases h1 : s.size ≤ d
    · by_cases hz : (s[0].toNat : Int) = 48 ∧ 1 < s.size
      · have HO := Lib.hid (ok_zero (l := s.data.toList) (d := d) (by rw [size_data]; exact hz.2) (by
          have := hz.1
          have e : s[0].toNat = 48 := by omega
          show s[0] = 48
          rw [← UInt8.ofNat_toNat (x := s[0]), e]
          rfl))
        have hb : ((s[0].toNat : Int) == 48) = true := beq_iff_eq.2 hz.1
        have hgt : ¬ (d : Int) < s.size := by omega
        have h2 : (1 : Int) < s.size := by have := hz.2; omega
        clear hz
        go_enter Tryz.func85, Tryz.ntmps85
        go_wp2
        go_ret2
        exact ⟨num_no HO.out, rfl⟩
      · exact num_loop s d hd w h0 h1 (fun e => by
          have : ¬ 1 < s.size := fun h => hz ⟨e, h⟩
          omega)
    · have HO := Lib.hid (ok_long (l := s.data.toList) (d := d) (by rw [size_data]; omega))
      have hgt : (d : Int) < s.size := by omega
      go_enter Tryz.func85, Tryz.ntmps85
      go_wp2
      go_ret2
      exact ⟨num_no HO.out, rfl⟩
  · obtain rfl : s = ⟨#[]⟩ := nil_of_sizeR (by omega)
    go_enter Tryz.func85, Tryz.ntmps85
    go_wp2
    go_ret2
    exact ⟨num_no (ok_nil d), rfl⟩

def digitsRes (l : List UInt8) : Int := if numOk l 4 then (numVal l : Int) else -1
theorem digits_no {l : List UInt8} (h : numOk l 4 = false) : Ending.returned (.int .i64 (-1)) = .returned (.int .i64 (digitsRes l)) := by
  unfold digitsRes
  rw [h]
  rfl
theorem digits_yes {l : List UInt8} {m : Nat} (h : numOk l 4 = true) (hm : m = numVal l) : Ending.returned (.int .i64 (m : Int)) = .returned (.int .i64 (digitsRes l)) := by
  unfold digitsRes
  rw [h, hm]
  rfl
set_option maxRecDepth 100000 in
set_option maxHeartbeats 800000 in
theorem digits_loop (s : ByteArray) (w : World) (h0 : 0 < s.size) (h1 : s.size ≤ 4) (hz : (s[0].toNat : Int) = 48 → s.size = 1) :
    Calls Tryz.prog 62 #[.string s] w fun e w' => e = .returned (.int .i64 (digitsRes s.data.toList)) ∧ w = w' := by
  have hH : Hid (1 < s.data.toList.length → s.data.toList[0]'(by rw [size_data]; exact h0) ≠ 48) := fun h e => by
    rw [size_data] at h
    have := hz (by rw [show s[0] = 48 from e]; rfl)
    omega
  have hcase : (((s[0].toNat : Int) == 48) = false ∧ 1 < s.size) ∨ s.size = 1 := by
    cases hb : ((s[0].toNat : Int) == 48)
    · rcases Nat.lt_or_ge 1 s.size with h | h
      · exact .inl ⟨rfl, h⟩
      · exact .inr (by omega)
    · exact .inr (hz (beq_iff_eq.1 hb))
  clear hz
  rcases hcase with ⟨hb, hs1⟩ | hs1
  all_goals
    have hs2 : (1 : Int) < s.size ∨ ¬ (1 : Int) < s.size := by omega
    rcases hs2 with hs2 | hs2 <;> try omega
    have HS1 := Lib.hid hs1
    clear hs1
    go_enter Tryz.func62, Tryz.ntmps62
    go_wp2_with (first
      | (go_at_call 110; refine (in_yes _ 1 4 _ (by omega) (by omega)).mono ?_; rintro e w' ⟨rfl, rfl⟩))
    go_loop [3, 4] (fun n i => ∃ k m : Nat, k ≤ s.size ∧ i = .int .i64 k ∧ n = .int .i64 m ∧ m ≤ 9999 ∧ Hid (m = numVal (s.data.toList.take k)) ∧ Hid ((s.data.toList.take k).all digit = true)) (fun _ i => s.size - (intOf i).toNat)
    case atStart => exact ⟨0, 0, Nat.zero_le _, rfl, rfl, by omega, rfl, rfl⟩
    case round =>
      obtain ⟨k, m, hk, rfl, rfl, hm, HM, HA⟩ := hrel
      by_cases hlt : k < s.size
      · have hl : k < s.data.toList.length := by rw [size_data]; exact hlt
        by_cases hc1 : (s[k].toNat : Int) < 48
        · go_wp2
          go_ret
          exact ⟨digits_no (ok_bad hl (digit_low hc1)), rfl⟩
        · by_cases hc2 : (57 : Int) < s[k].toNat
          · go_wp2
            go_ret
            exact ⟨digits_no (ok_bad hl (digit_high hc2)), rfl⟩
          · have hc3 : (48 : Int) ≤ s[k].toNat := by omega
            have hc4 : (s[k].toNat : Int) ≤ 57 := by omega
            have ha := all_snoc hl HA.out (digit_yes hc3 hc4)
            have hv := num_snoc hl
            have hle := num_bound ha (by rw [List.length_take, size_data]; omega)
            have HV := Lib.hid hv
            have HA2 := Lib.hid ha
            have HLE := Lib.hid hle
            clear hv ha hle
            go_wp2
            go_round
            case rel =>
              have e : 10 * m + (s[k].toNat - 48) = numVal (s.data.toList.take (k + 1)) := by rw [HV.out, HM.out]; rfl
              refine ⟨k + 1, 10 * m + (s[k].toNat - 48), by omega, by go_num, ?_, by rw [e]; exact HLE.out, e, HA2.out⟩
              congr 1
              omega
            case measure => simp [intOf]; omega
      · obtain rfl : k = s.size := by omega
        go_wp2
        go_ret
        have e : s.data.toList.take s.size = s.data.toList := List.take_of_length_le (by rw [size_data]; exact Nat.le_refl _)
        have hm2 := HM.out
        have ha2 := HA.out
        rw [e] at hm2 ha2
        exact ⟨digits_yes (ok_good (by rw [size_data]; exact h0) (by rw [size_data]; exact h1) hH.out ha2) hm2, rfl⟩
set_option maxRecDepth 100000 in
set_option maxHeartbeats 800000 in
theorem digits_any (s : ByteArray) (w : World) (hs : s.size ≤ 9223372036854775807) :
    Calls Tryz.prog 62 #[.string s] w fun e w' => e = .returned (.int .i64 (digitsRes s.data.toList)) ∧ w = w' := by
  by_cases h0 : 0 < s.size ∧ s.size ≤ 4
  · obtain ⟨h0, h1⟩ := h0
    by_cases hz : (s[0].toNat : Int) = 48 ∧ 1 < s.size
    · have HO := Lib.hid (ok_zero (l := s.data.toList) (d := 4) (by rw [size_data]; exact hz.2) (by
        have := hz.1
        have e : s[0].toNat = 48 := by omega
        show s[0] = 48
        rw [← UInt8.ofNat_toNat (x := s[0]), e]
        rfl))
      have hb : ((s[0].toNat : Int) == 48) = true := beq_iff_eq.2 hz.1
      have h2 : (1 : Int) < s.size := by have := hz.2; omega
      clear hz
      go_enter Tryz.func62, Tryz.ntmps62
      go_wp2_with (first
        | (go_at_call 110; refine (in_yes _ 1 4 _ (by omega) (by omega)).mono ?_; rintro e w' ⟨rfl, rfl⟩))
      go_ret
      exact ⟨digits_no HO.out, rfl⟩
    · exact digits_loop s w h0 h1 (fun e => by
        have : ¬ 1 < s.size := fun h => hz ⟨e, h⟩
        omega)
  · have HO : Hid (numOk s.data.toList 4 = false) := by
      rcases Nat.lt_or_ge 4 s.size with h | h
      · exact ok_long (by rw [size_data]; exact h)
      · have : s.size = 0 := by omega
        rw [nil_of_sizeR this]
        exact ok_nil 4
    have hno : ¬ ((1 : Int) ≤ s.size ∧ (s.size : Int) ≤ 4) := by omega
    go_enter Tryz.func62, Tryz.ntmps62
    go_wp2_with (first
      | (go_at_call 110; refine (in_no _ 1 4 _ hno).mono ?_; rintro e w' ⟨rfl, rfl⟩))
    go_ret
    exact ⟨digits_no HO.out, rfl⟩

end Go.Proofs.YtccdfndnjjjgfaaGreatDoor
