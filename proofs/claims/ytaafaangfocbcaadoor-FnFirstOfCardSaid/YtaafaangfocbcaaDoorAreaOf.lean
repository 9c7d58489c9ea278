/-
  Contract of AreaOf.
-/
import Derived.Test.YtaafaangfocbcaaDoorArea
namespace Go.Proofs.YtaafaangfocbcaaDoor
open Go.RowKit

/-- The area, or 0 of a walk that is not closed. -/
def areaRes (l : List UInt8) : Int := if Tw.closed l then Tw.areaOf l else 0
theorem own_shape {w : World} {base m : Nat} {t : TypeId} {v : Value} {us : List (Int × Int × Int)} (h : w.ownsRow base t m v us.length (triCells us)) : (v = .slice none 0 0 ∧ us = []) ∨ ∃ g cap, v = .slice (some ⟨g, 0, none⟩) us.length cap := by
  rcases h.2 with ⟨h, h0⟩ | ⟨g, cap, cur, he, _⟩
  · exact .inl ⟨h, List.length_eq_zero_iff.1 h0⟩
  · exact .inr ⟨g, cap, he⟩
theorem sumUp_take {us : List (Int × Int × Int)} {j : Nat} {u : Int × Int × Int} (h : us[j]? = some u) : sumUp (us.take (j + 1)) = sumUp (us.take j) + u.1 * u.2.2 := by
  rw [List.take_add_one, h]
  exact sumUp_snoc _ _

set_option maxRecDepth 100000 in
set_option maxHeartbeats 3200000 in
theorem implAreaOf (s : ByteArray) (w : World) (hs : s.size ≤ 1048576) (hw : DirsAt w) :
    Calls Tryd.prog 36 #[.string s] w fun e w' => e = .returned (.tuple #[.int .i64 (areaRes s.data.toList), .bool (Tw.closed s.data.toList)]) ∧ Below w.heap.size w w' := by
  have hc := implClosedOk s w hs hw
  cases hcl : Tw.closed s.data.toList
  · rw [hcl] at hc
    have HC := Lib.hid hc
    have HCL := Lib.hid hcl
    clear hc hcl
    go_enter Tryd.func36, Tryd.ntmps36
    go_wp2_with (first
      | (go_at_call 15; refine HC.out.mono ?_; rintro e w1 ⟨rfl, hb1⟩))
    go_ret2
    exact ⟨by rw [areaRes, HCL.out]; rfl, hb1⟩
  · rw [hcl] at hc
    have HC := Lib.hid hc
    have HCL := Lib.hid hcl
    have HOK := Lib.hid (Tw.closed_ok hcl)
    clear hc hcl
    go_enter Tryd.func36, Tryd.ntmps36
    go_wp2_with (first
      | (go_at_call 15; refine HC.out.mono ?_; rintro e w1 ⟨rfl, hb1⟩)
      | (go_at_call 63; refine (uprights_any s _ (hw.below' hb1) HOK.out).mono ?_; rintro e w2 ⟨v, us, rfl, hown, hu40, hups, hsum, hb2'⟩; have hb2 := hb1.trans (hb2'.mono hb1.size); have HS := Lib.hid hsum; have HU := Lib.hid hups; clear hsum hups; rcases own_shape hown with ⟨rfl, rfl⟩ | ⟨g, cap, rfl⟩))
    · refine wp_loop_rounds 1 ?_
      rw [rounds_succ]
      go_wp2
      go_ret2
      refine ⟨?_, hb2⟩
      rw [areaRes, HCL.out]
      have e : Tw.areaOf s.data.toList = 0 := HS.out.symm
      simp [e]
    · obtain ⟨n, hn⟩ : ∃ n, us.length = n := ⟨_, rfl⟩
      rw [hn]
      rw [hn] at hu40
      have HN := Lib.hid hn
      have HOWN := Lib.hid hown
      have hgb := (hown.lt g rfl).2
      clear hn hown
      go_loopw [4, 6, 13] (fun a _ i wr => ∃ (j : Nat) (A : Int), i = .int .i64 j ∧ j ≤ n ∧ a = .int .i64 A ∧ Hid (A = sumUp (us.take j)) ∧ -1000 * (j : Int) ≤ A ∧ A ≤ 1000 * (j : Int) ∧ Below w2.heap.size w2 wr) (fun _ _ i _ => n - (intOf i).toNat)
      case atStart => exact ⟨0, 0, rfl, Nat.zero_le _, rfl, (by show (0 : Int) = _; rfl), by omega, by omega, Below.refl _ _⟩
      case round =>
        obtain ⟨j, A, rfl, hj, rfl, HA, hA0, hA1, hbr⟩ := hrel
        by_cases hlt : j < n
        · obtain ⟨⟨x, y, z⟩, hu⟩ : ∃ u, us[j]? = some u := ⟨us[j]'(by rw [HN.out]; exact hlt), List.getElem?_eq_getElem _⟩
          obtain ⟨q0, q1, q2⟩ := triCells_get us j _ hu
          have c0 := (hbr.cell (p := ⟨g, j * 3, none⟩) hgb).trans (own_cell HOWN.out q0)
          have c1 := (hbr.cell (p := ⟨g, j * 3 + 1, none⟩) hgb).trans (own_cell HOWN.out q1)
          have c2 := (hbr.cell (p := ⟨g, j * 3 + 2, none⟩) hgb).trans (own_cell HOWN.out q2)
          obtain ⟨hx0, hx1, hy0, hy1, hz⟩ := HU.out _ (List.mem_of_getElem? hu)
          have hsum := sumUp_take hu
          simp only at hx0 hx1 hy0 hy1 hz hsum c0 c1 c2
          have HSUM := Lib.hid hsum
          clear hsum hu q0 q1 q2
          rcases hz with rfl | rfl
          · go_wp2
            go_roundw
            case rel => exact ⟨j + 1, A + x, by go_num, by omega, by simp, (by show _ = _; rw [HSUM.out, HA.out]; omega), by omega, by omega, hbr.alloc hbr.size _⟩
            case measure => simp [intOf]; omega
          · go_wp2
            go_roundw
            case rel => exact ⟨j + 1, A - x, by go_num, by omega, by simp; omega, (by show _ = _; rw [HSUM.out, HA.out]; omega), by omega, by omega, hbr.alloc hbr.size _⟩
            case measure => simp [intOf]; omega
        · obtain rfl : j = n := by omega
          go_wp2
          go_ret2
          refine ⟨?_, hb2.trans (hbr.mono hb2.size)⟩
          have e : A = Tw.areaOf s.data.toList := by rw [HA.out, List.take_of_length_le (by rw [HN.out]; exact Nat.le_refl _), HS.out]
          rw [areaRes, HCL.out, e]
          rfl

end Go.Proofs.YtaafaangfocbcaaDoor
