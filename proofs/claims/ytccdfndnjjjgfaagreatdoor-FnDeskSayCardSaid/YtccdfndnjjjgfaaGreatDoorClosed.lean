/-
  Contracts of ClosedOk (both).
-/
import Derived.Test.YtccdfndnjjjgfaaGreatDoorEnd
import Derived.Test.YtccdfndnjjjgfaaGreatDoorPlacesSpec
import Derived.Test.YtccdfndnjjjgfaaGreatDoorShapePure
namespace Go.Proofs.YtccdfndnjjjgfaaGreatDoor
open Go.RowKit

@[go_sem] theorem eql_place (a b c d : Int) (w : World) : (Op.equalIn 10000 130 (.agg #[.int .i64 a, .int .i64 b]) (.agg #[.int .i64 c, .int .i64 d])).run Tryz.prog w = .ok (a == c && b == d) w := by
  have u3 := Tryz.underlying3
  have a3 := Tryz.isAgg3
  have z3 := Tryz.sizeOf3
  rw [show (10000 : Nat) = 9999 + 1 from rfl, Op.equalIn]
  simp only [Sem.run_bind, run_underlying Tryz.underlying130, Result.andThen_ok]
  simp only [Std.Legacy.Range.forIn_eq_forIn_range', Std.Legacy.Range.size, Nat.sub_zero, Nat.add_sub_cancel, Nat.div_one, List.range'_succ, List.range'_zero, List.forIn_cons, List.forIn_nil]
  go_simp
  by_cases h1 : a = c <;> by_cases h2 : b = d <;> simp [h1, h2]

theorem nil_of_size {s : ByteArray} (h : s.size = 0) : s = ⟨#[]⟩ := by
  apply ByteArray.ext
  exact Array.eq_empty_of_size_eq_zero h
theorem notEmpty {s : ByteArray} (h : 0 < s.size) : s.toList.isEmpty = false := by
  rw [Lib.toList_data]
  cases hl : s.data.toList with
  | nil => have := size_data s; rw [hl] at this; simp at this; omega
  | cons _ _ => rfl
theorem closed_false_of_ok {l : List UInt8} (h : Tw.walkOk l = false) : Tw.closed l = false := by simp [Tw.closed, h]
theorem closed_of_end {l : List UInt8} (h : Tw.walkOk l = true) (hl : 0 < l.length) : Tw.closed l = decide (Tw.endOf l = (0, 0)) := by
  have : l.isEmpty = false := by cases l with
    | nil => simp at hl
    | cons _ _ => rfl
  simp [Tw.closed, h, this]

set_option maxHeartbeats 800000 in
theorem implClosedOk (s : ByteArray) (w : World) (hs : s.size ≤ 1048576) (hw : DirsAt w) :
    Calls Tryz.prog 123 #[.string s] w fun e w' => e = .returned (.bool (Tw.closed s.data.toList)) ∧ Below w.heap.size w w' := by
  cases hok : Tw.walkOk s.data.toList
  · have HOK := Lib.hid hok
    clear hok
    go_enter Tryz.func123, Tryz.ntmps123
    go_wp2_with (first | (go_at_call 67; refine (implWalkOk_is _ _ hs false HOK.out).mono ?_; rintro e w' ⟨rfl, rfl⟩))
    go_ret
    exact ⟨ret_bool (closed_false_of_ok HOK.out).symm, Below.refl _ _⟩
  · have HOK := Lib.hid hok
    clear hok
    by_cases h0 : s.size = 0
    · obtain rfl := nil_of_size h0
      clear h0
      go_enter Tryz.func123, Tryz.ntmps123
      go_wp2_with (first | (go_at_call 67; refine (implWalkOk_is _ _ hs true HOK.out).mono ?_; rintro e w' ⟨rfl, rfl⟩))
      go_ret
      exact ⟨rfl, Below.refl _ _⟩
    · have hpos : 0 < s.size := by omega
      clear h0
      have hne := notEmpty hpos
      obtain ⟨p, hp⟩ : ∃ p, Tw.endOf s.data.toList = p := ⟨_, rfl⟩
      have hend := implEndOf s w hw HOK.out
      rw [hp] at hend
      have HE := Lib.hid hend
      have HP := Lib.hid hp
      clear hend hp
      go_enter Tryz.func123, Tryz.ntmps123
      go_wp2_with (first
        | (go_at_call 67; refine (implWalkOk_is _ _ hs true HOK.out).mono ?_; rintro e w' ⟨rfl, rfl⟩)
        | (go_at_call 121; refine HE.out.mono ?_; rintro e w1 ⟨rfl, hb1⟩))
      go_ret
      refine ⟨ret_bool ?_, hb1⟩
      rw [closed_of_end HOK.out (by rw [size_data]; exact hpos), HP.out]
      by_cases h1 : p.1 = 0 <;> by_cases h2 : p.2 = 0 <;> simp [h1, h2, Prod.ext_iff]

set_option maxHeartbeats 1600000 in
theorem specClosedOk (s : ByteArray) (w : World) (hs : s.size ≤ 1048576) :
    Calls Tryz.prog 53 #[.string s] w fun e w' => e = .returned (.bool (Tw.closed s.data.toList)) ∧ Below w.heap.size w w' := by
  cases hok : Tw.walkOk s.data.toList
  · have HOK := Lib.hid hok
    clear hok
    go_enter Tryz.func53, Tryz.ntmps53
    go_wp2_with (first
      | (go_at_call 50; refine (specPlacesOf_no _ _ hs HOK.out).mono ?_; rintro e w1 ⟨⟨a, c, rfl⟩, hb1⟩))
    go_ret
    exact ⟨ret_bool (closed_false_of_ok HOK.out).symm, hb1⟩
  · have HOK := Lib.hid hok
    clear hok
    have h40 : s.size ≤ 40 := by have := Tw.walkOk_len HOK.out; rwa [size_data] at this
    obtain ⟨ps, hps⟩ : ∃ ps, Tw.places s.data.toList = ps := ⟨_, rfl⟩
    obtain ⟨n, hn⟩ : ∃ n, ps.length = n := ⟨_, rfl⟩
    have hn1 : n = s.size + 1 := by rw [← hn, ← hps, Tw.places_length, size_data]
    have hn41 : n ≤ 41 := by omega
    obtain ⟨p, hp⟩ : ∃ p, Tw.endOf s.data.toList = p := ⟨_, rfl⟩
    have hlast : ps[n - 1]? = some p := by
      rw [← hps, hn1, ← hp, ← Tw.placeAt_all, size_data]
      exact Tw.placesTo_get? _ _ _ (by rw [size_data]; omega)
    have HPS := Lib.hid hps
    have HN := Lib.hid hn
    have HP := Lib.hid hp
    have HLAST := Lib.hid hlast
    have HN1 := Lib.hid hn1
    clear hps hn hp hlast
    by_cases h0 : s.size = 0
    · have hn2 : n = 1 := by omega
      subst hn2
      have HS0 := Lib.hid h0
      clear h0 hn1
      go_enter Tryz.func53, Tryz.ntmps53
      go_wp2_with (first
        | (go_at_call 50; refine (specPlacesOf_n _ _ hs HOK.out ps 1 HPS.out HN.out).mono ?_; rintro e w1 ⟨g, cap, bs, rfl, hbl, hown, hrows, hb1⟩))
      go_ret
      exact ⟨ret_bool (by rw [nil_of_size HS0.out]; rfl), hb1⟩
    · have hn2 : 2 ≤ n := by omega
      have hpos : 0 < s.size := by omega
      clear hn1 h0
      cases hx : (p.1 == 0)
      · have HX := Lib.hid hx
        go_enter Tryz.func53, Tryz.ntmps53
        go_wp2_with (first
          | (go_at_call 50; refine (specPlacesOf_n _ _ hs HOK.out ps n HPS.out HN.out).mono ?_; rintro e w1 ⟨g, cap, bs, rfl, hbl, hown, hrows, hb1⟩; obtain ⟨b, hbk⟩ : ∃ b, bs[n - 1]? = some b := ⟨bs[n - 1]'(by rw [hbl]; omega), List.getElem?_eq_getElem _⟩; have hrow := row_cell hown hbk; obtain ⟨c0, c1⟩ := pair_cells (hrows _ _ _ HLAST.out hbk); unfold rowVal at hrow; have hbl2 := Lib.hid hbl; clear hbl hrows hbk))
        go_ret
        refine ⟨ret_bool ?_, hb1⟩
        rw [closed_of_end HOK.out (by rw [size_data]; exact hpos), HP.out]
        have h1 : ¬ p.1 = 0 := by simpa using HX.out
        simp [Prod.ext_iff, h1]
      · have HX := Lib.hid hx
        go_enter Tryz.func53, Tryz.ntmps53
        go_wp2_with (first
          | (go_at_call 50; refine (specPlacesOf_n _ _ hs HOK.out ps n HPS.out HN.out).mono ?_; rintro e w1 ⟨g, cap, bs, rfl, hbl, hown, hrows, hb1⟩; obtain ⟨b, hbk⟩ : ∃ b, bs[n - 1]? = some b := ⟨bs[n - 1]'(by rw [hbl]; omega), List.getElem?_eq_getElem _⟩; have hrow := row_cell hown hbk; obtain ⟨c0, c1⟩ := pair_cells (hrows _ _ _ HLAST.out hbk); unfold rowVal at hrow; have hbl2 := Lib.hid hbl; clear hbl hrows hbk))
        go_ret
        refine ⟨ret_bool ?_, hb1⟩
        rw [closed_of_end HOK.out (by rw [size_data]; exact hpos), HP.out]
        have h1 : p.1 = 0 := by simpa using HX.out
        by_cases h2 : p.2 = 0 <;> simp [Prod.ext_iff, h1, h2]

end Go.Proofs.YtccdfndnjjjgfaaGreatDoor
