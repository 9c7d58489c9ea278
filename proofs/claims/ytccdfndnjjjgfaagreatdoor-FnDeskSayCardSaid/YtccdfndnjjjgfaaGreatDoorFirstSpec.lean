/-
  The contract of the reference's FirstOf.
-/
import Derived.Test.YtccdfndnjjjgfaaGreatDoorFirst
import Derived.Sort.Walk0
namespace Go.Proofs.YtccdfndnjjjgfaaGreatDoor
open Go.RowKit

/-- Nothing seen yet, or the best of what has been seen. -/
def Seen (t : ByteArray) (C : List (List UInt8)) : Prop := (t = Tw.str [] ∧ C = []) ∨ ∃ b, t = Tw.str b ∧ b ≠ [] ∧ Tw.Best b C
theorem less_str (a b : List UInt8) : Op.bytesLess (Tw.str a).toList (Tw.str b).toList = decide (a < b) := by rw [Proofs.bytesLess_eq, Lib.toList_data, Lib.toList_data]; rfl
theorem seen_snoc {b y : List UInt8} {C : List (List UInt8)} (h : Tw.Best b C) (t : Bool) (ht : decide (y < b) = t) : Tw.Best (if t then y else b) (C ++ [y]) := by
  subst ht
  by_cases h1 : y < b
  · simpa [h1] using Tw.best_lt h h1
  · simpa [h1] using Tw.best_not h h1

set_option maxRecDepth 100000 in
set_option maxHeartbeats 6400000 in
theorem specFirstOf_yes (s : ByteArray) (w : World) (hs : s.size ≤ 1048576) (hcl : Tw.closed s.data.toList = true) :
    Calls Tryz.prog 138 #[.string s] w fun e w' => e = .returned (.tuple #[.string (Tw.str (Tw.firstOf s.data.toList)), .bool true]) ∧ Below w.heap.size w w' := by
  obtain ⟨l, hl⟩ : ∃ l, s.data.toList = l := ⟨_, rfl⟩
  have hsl : s = Tw.str l := by rw [← hl, Tw.str_of]
  have hlen : l.length = s.size := by rw [← hl, size_data]
  have hc := fun W => specClosedOk s W hs
  rw [hcl] at hc
  rw [hl] at hcl ⊢
  have HC := Lib.hid hc
  have HSL := Lib.hid hsl
  have HCL := Lib.hid hcl
  have HLEN := Lib.hid hlen
  have hpos : 0 < s.size := by rw [← hlen]; exact Tw.closed_len hcl
  have h40 : s.size ≤ 40 := by rw [← hlen]; exact Tw.walkOk_len (Tw.closed_ok hcl)
  clear hc hl hsl hcl hlen
  go_enter Tryz.func138, Tryz.ntmps138
  go_wp2
  go_loopw [4, 5, 6, 7, 8] (fun t i _ _ _ wr => ∃ k : Nat, k ≤ s.size ∧ i = .int .i64 k ∧ Below w.heap.size w wr ∧ ∃ b, t = .string b ∧ Hid (Seen b (Tw.vis2 l k 0))) (fun _ i _ _ _ _ => s.size - (intOf i).toNat)
  case atStart => exact ⟨0, Nat.zero_le _, rfl, Below.refl _ _, _, rfl, .inl ⟨rfl, rfl⟩⟩
  case round =>
    obtain ⟨k, hk, rfl, hb, t, rfl, HS⟩ := hrel
    by_cases hlt : k < s.size
    · have hk0 : (k : Int) < (s.size : Int) := by omega
      have HMC := Lib.hid (Tw.closed_moved k HCL.out)
      have hsr := hb.size
      go_wp2_with (first
        | (go_at_call 53; refine (HC.out _).mono ?_; rintro e w1 ⟨rfl, hb1⟩))
      have hb2 := hb.trans (hb1.mono hsr)
      clear hb hb1 hsr
      obtain ⟨wo, hwo⟩ : ∃ wo : World, wo = w1 := ⟨_, rfl⟩
      subst hwo
      go_loopw [4, 6, 7, 8] (fun t i _ _ wr => ∃ way : Nat, way ≤ 8 ∧ i = .int .i64 way ∧ Below w.heap.size w wr ∧ ∃ b, t = .string b ∧ Hid (Seen b (Tw.vis2 l k way))) (fun _ i _ _ _ => 8 - (intOf i).toNat)
      case atStart => exact ⟨0, Nat.zero_le _, rfl, hb2, t, rfl, HS⟩
      case round =>
        obtain ⟨way, hway, rfl, hb, u, rfl, HU⟩ := hrel
        by_cases hlt8 : way < 8
        · have hsr := hb.size
          have HWC := Lib.hid (Tw.closed_way (way : Int) (by omega) (by omega) HMC.out)
          obtain ⟨X, hX⟩ : ∃ X, Tw.wayList way (Tw.moved l k) = X := ⟨_, rfl⟩
          have hX0 : X ≠ [] := by
            have := Tw.closed_len HWC.out
            rw [hX] at this
            exact List.length_pos_iff.1 this
          have hY0 : Tw.backList X ≠ [] := by
            rw [← List.length_pos_iff, Tw.length_back]
            exact List.length_pos_iff.2 hX0
          have HXO := Lib.hid (hX ▸ Tw.closed_ok HWC.out)
          have HX := Lib.hid hX
          have HV := Lib.hid (Tw.vis2_succ l k way)
          rw [hX] at HV
          obtain ⟨Y, hY⟩ : ∃ Y, Tw.backList X = Y := ⟨_, rfl⟩
          rw [hY] at HV hY0
          have HY := Lib.hid hY
          have HX0 := Lib.hid hX0
          have HY0 := Lib.hid hY0
          clear hX hX0 hY0 hY
          cases hyx : decide (Y < X)
          all_goals
            have HYX := Lib.hid hyx
            have h1 := less_str Y X
            rw [hyx] at h1
            clear hyx
            rcases HU.out with ⟨rfl, hC⟩ | ⟨b, rfl, hb0, hbest⟩
            · have h0 : (Tw.str []).toList.isEmpty = true := by rw [Lib.toList_data]; rfl
              have HBEST := Lib.hid (seen_snoc (by rw [hC]; exact Tw.best_one X : Tw.Best X (Tw.vis2 l k way ++ [X])) _ HYX.out)
              clear hC
              go_wp2_with (first
                | (go_at_call 137; refine (specMoved_at HCL.out (by rw [HLEN.out]; exact hlt) _ HSL.out _).mono ?_; rintro e w3 ⟨rfl, hb3⟩; have hb4 := hb.trans (hb3.mono hsr))
                | (go_at_call 136; refine (specWay_at (Tw.closed_ok HMC.out) hlt8 _ rfl _).mono ?_; rw [HX.out]; rintro e w' ⟨rfl, rfl⟩)
                | (go_at_call 158; refine (specBack_at HXO.out _ rfl _).mono ?_; rw [HY.out]; rintro e w' ⟨rfl, rfl⟩))
              go_roundw
              case rel => exact ⟨way + 1, by omega, by go_num, hb4, _, rfl, .inr ⟨_, rfl, (by first | exact HX0.out | exact HY0.out), by rw [HV.out]; exact HBEST.out⟩⟩
              case measure => simp [intOf]; omega
            · have h0 : (Tw.str b).toList.isEmpty = false := by
                rw [Lib.toList_data, Tw.str_data]
                cases b with
                | nil => exact absurd rfl hb0
                | cons => rfl
              cases hxb : decide (X < b)
              · have h2 := less_str X b
                rw [hxb] at h2
                have h4 := Lib.hid (seen_snoc hbest _ hxb)
                clear hxb
                cases hyb : decide (Y < b)
                all_goals
                  have h3 := less_str Y b
                  rw [hyb] at h3
                  have HBEST := Lib.hid (seen_snoc h4.out _ hyb)
                  clear hyb
                  have HB0 := Lib.hid hb0
                  go_wp2_with (first
                    | (go_at_call 137; refine (specMoved_at HCL.out (by rw [HLEN.out]; exact hlt) _ HSL.out _).mono ?_; rintro e w3 ⟨rfl, hb3⟩; have hb4 := hb.trans (hb3.mono hsr))
                    | (go_at_call 136; refine (specWay_at (Tw.closed_ok HMC.out) hlt8 _ rfl _).mono ?_; rw [HX.out]; rintro e w' ⟨rfl, rfl⟩)
                    | (go_at_call 158; refine (specBack_at HXO.out _ rfl _).mono ?_; rw [HY.out]; rintro e w' ⟨rfl, rfl⟩))
                  go_roundw
                  case rel => exact ⟨way + 1, by omega, by go_num, hb4, _, rfl, .inr ⟨_, rfl, (by first | exact HB0.out | exact HY0.out), by rw [HV.out]; exact HBEST.out⟩⟩
                  case measure => simp [intOf]; omega
              · have h2 := less_str X b
                rw [hxb] at h2
                have HBEST := Lib.hid (seen_snoc (seen_snoc hbest _ hxb) _ HYX.out)
                clear hxb
                go_wp2_with (first
                  | (go_at_call 137; refine (specMoved_at HCL.out (by rw [HLEN.out]; exact hlt) _ HSL.out _).mono ?_; rintro e w3 ⟨rfl, hb3⟩; have hb4 := hb.trans (hb3.mono hsr))
                  | (go_at_call 136; refine (specWay_at (Tw.closed_ok HMC.out) hlt8 _ rfl _).mono ?_; rw [HX.out]; rintro e w' ⟨rfl, rfl⟩)
                  | (go_at_call 158; refine (specBack_at HXO.out _ rfl _).mono ?_; rw [HY.out]; rintro e w' ⟨rfl, rfl⟩))
                go_roundw
                case rel => exact ⟨way + 1, by omega, by go_num, hb4, _, rfl, .inr ⟨_, rfl, (by first | exact HX0.out | exact HY0.out), by rw [HV.out]; exact HBEST.out⟩⟩
                case measure => simp [intOf]; omega
        · obtain rfl : way = 8 := by omega
          go_wp2_with fail
          go_roundw
          case rel => exact ⟨k + 1, by omega, by go_num, hb, u, rfl, by rw [← Tw.vis2_next]; exact HU⟩
          case measure => simp [intOf]; omega
    · obtain rfl : k = s.size := by omega
      go_wp2_with (first
        | (go_at_call 53; refine (HC.out _).mono ?_; rintro e w1 ⟨rfl, hb1⟩))
      go_ret2
      refine ⟨pair_ret ?_ rfl, hb.trans (hb1.mono hb.size)⟩
      have hS := HS.out
      rw [← HLEN.out] at hS
      rcases hS with ⟨_, h0⟩ | ⟨b, rfl, _, hbest⟩
      · exfalso
        have h1 := (Tw.mem_vis2 l l).2 (Tw.shape_self HCL.out)
        rw [h0] at h1
        cases h1
      · rw [Tw.first_of_vis2 HCL.out hbest]

set_option maxHeartbeats 400000 in
theorem specFirstOf (s : ByteArray) (w : World) (hs : s.size ≤ 1048576) :
    Calls Tryz.prog 138 #[.string s] w fun e w' => e = .returned (.tuple #[.string (Tw.str (firstRes s.data.toList)), .bool (Tw.closed s.data.toList)]) ∧ Below w.heap.size w w' := by
  cases hcl : Tw.closed s.data.toList
  · have hc := fun W => specClosedOk s W hs
    rw [hcl] at hc
    have HC := Lib.hid hc
    have HCL := Lib.hid hcl
    clear hc hcl
    by_cases hpos : 0 < s.size
    · go_enter Tryz.func138, Tryz.ntmps138
      go_wp2
      refine wp_loop_rounds 1 ?_
      rw [rounds_succ]
      go_wp2_with (first | (go_at_call 53; first | (have hq := hb1; refine (HC.out _).mono ?_; rintro e w2 ⟨rfl, hb2⟩) | (refine (HC.out _).mono ?_; rintro e w1 ⟨rfl, hb1⟩)))
      go_ret2
      exact ⟨pair_ret (by rw [firstRes_no HCL.out]; rfl) rfl, hb1.trans (hb2.mono hb1.size)⟩
    · have hz : s.size = 0 := by omega
      go_enter Tryz.func138, Tryz.ntmps138
      go_wp2
      refine wp_loop_rounds 1 ?_
      rw [rounds_succ]
      go_wp2_with (first | (go_at_call 53; refine (HC.out _).mono ?_; rintro e w1 ⟨rfl, hb1⟩))
      go_ret2
      exact ⟨pair_ret (by rw [firstRes_no HCL.out]; rfl) rfl, hb1⟩
  · rw [firstRes_yes hcl]
    exact specFirstOf_yes s w hs hcl

end Go.Proofs.YtccdfndnjjjgfaaGreatDoor
