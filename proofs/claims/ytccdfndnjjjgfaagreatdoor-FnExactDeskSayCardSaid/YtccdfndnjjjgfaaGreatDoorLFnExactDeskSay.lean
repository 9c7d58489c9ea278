/-
  FnExactDeskSay: for every desk and list of lines the program's DeskSay returns what the reference's returns, in memory of its own, and leaves the desk and the list as they were. No condition beyond what the given statement itself bears.
-/
import Derived.Test.YtccdfndnjjjgfaaGreatDoorLFnExactDeskSayB
import Derived.Test.YtccdfndnjjjgfaaGreatDoorEnd
import Derived.StringKeys
import Derived.Deep.RegionHeld3
import Derived.Shelf.Abstract
import Derived.Test.YtccdfndnjjjgfaaGreatDoorShapeLaw
import Derived.Test.YtccdfndnjjjgfaaGreatDoorClosed
import Derived.Test.YtccdfndnjjjgfaaGreatDoorTurning
import Derived.Test.YtccdfndnjjjgfaaGreatDoorPlacesSpec
import Derived.Test.YtccdfndnjjjgfaaGreatDoorRunPure
import Derived.Deep.AppendLies
import Derived.Test.YtccdfndnjjjgfaaGreatDoorPure
import Derived.Test.YtccdfndnjjjgfaaGreatDoorTabs
import Derived.Test.YtccdfndnjjjgfaaGreatDoorRows
import Derived.WalkKit
import Derived.ProofKit
import Derived.OpenShut
import Derived.Carry
import Derived.WalkSmall
import Derived.MakeChecks
import Derived.Deep.DeepHandedRow
import Derived.Lib.LaidTab
import Derived.Test.YtccdfndnjjjgfaaGreatDoorDeedImpl
import Derived.Test.YtccdfndnjjjgfaaGreatDoorDeskAt
import Derived.SliceStrings
import Derived.Lib.SmallJoins
import Derived.Test.YtccdfndnjjjgfaaGreatDoorStrs
import Derived.Test.YtccdfndnjjjgfaaGreatDoorMarks
import Derived.Deep.DeepCutAuto
import Derived.Test.YtccdfndnjjjgfaaGreatDoorCards
import Derived.Test.YtccdfndnjjjgfaaGreatDoorTie

namespace Go.Proofs.YtccdfndnjjjgfaaGreatDoor
open Go.RowKit Go.Maps Go.WideMaps

set_option maxHeartbeats 800000 in
theorem withoutSign_any (n : Int) (h : -1000 ≤ n ∧ n ≤ 1000) (w : World) : Calls Tryz.prog 151 #[.int .i64 n] w fun e w' => e = .returned (.int .i64 (max n (-n))) ∧ w = w' := by
  go_enter Tryz.func151, Tryz.ntmps151
  go_wp2
  go_ret
  exact ⟨rfl, rfl⟩
set_option maxRecDepth 100000 in
set_option maxHeartbeats 3200000 in
theorem implMost (s : ByteArray) (w : World) (hs : s.size ≤ 1048576) (hw : DirsAt w) :
    Calls Tryz.prog 128 #[.string s] w fun e w' => e = .returned (.int .i64 (Tw.mostRes s.data.toList)) ∧ Below w.heap.size w w' := by
  have hc := implClosedOk s w hs hw
  cases hcl : Tw.closed s.data.toList
  · rw [hcl] at hc
    have HC := Lib.hid hc
    have HCL := Lib.hid hcl
    clear hc hcl
    go_enter Tryz.func128, Tryz.ntmps128
    go_wp2_with (first
      | (go_at_call 123; refine HC.out.mono ?_; rintro e w1 ⟨rfl, hb1⟩))
    go_ret
    exact ⟨by unfold Tw.mostRes; rw [HCL.out]; rfl, hb1⟩
  · rw [hcl] at hc
    have HC := Lib.hid hc
    have HCL := Lib.hid hcl
    have HWT := Lib.hid (fun x y => Tw.wind_farther (Tw.ups s.data.toList) x y Tw.ups_signs)
    have HUL : Hid ((Tw.ups s.data.toList).length ≤ 40) := by
      have h1 := Tw.ups_len s.data.toList (0, 0)
      have h2 := Tw.walkOk_len (Tw.closed_ok hcl)
      exact Nat.le_trans h1 h2
    have HWW : Hid (∀ lx x y, (∀ u ∈ Tw.ups s.data.toList, lx ≤ u.1) → x < lx → Tw.wind (Tw.ups s.data.toList) x y = 0) := fun lx x y h hx => Tw.wind_west hcl (fun u hu => by have := h u hu; omega)
    have HWO : Hid (∀ x y, x < -20 ∨ 20 ≤ x ∨ y < -20 ∨ 20 ≤ y → Tw.wind (Tw.ups s.data.toList) x y = 0) := fun x y h => Tw.wind_out hcl h
    clear hc hcl
    go_enter Tryz.func128, Tryz.ntmps128
    go_wp2_with (first
      | (go_at_call 123; refine HC.out.mono ?_; rintro e w1 ⟨rfl, hb1⟩)
      | (go_at_call 150; refine (windings_any s _ (hw.below' hb1) HCL.out).mono ?_; rintro e w2 ⟨lx, n, D, rfl, hown, hnum, hlx, hb2⟩)
      | (at_range; refine wpList_range_own _ rfl _ 155 rfl 129 3 twoLaw Tryz.underlying155 (plainElem (H := Unit) Tryz.prog 3) _ n D rfl hown ?_; intro w3 hrg0 hg0 hs0))
    go_frame
    obtain ⟨us, hus⟩ : ∃ us, Tw.ups s.data.toList = us := ⟨_, rfl⟩
    have HNUM : Hid (NumMap D (fun x y => if lx ≤ x then Tw.wind us x y else 0)) := by rw [← hus]; exact hnum
    have HLX : Hid (∀ u ∈ us, lx ≤ u.1) := by rw [← hus]; exact hlx
    have HUS := Lib.hid hus
    rw [hus] at HWT HUL HWW HWO
    have hb12 := hb1.trans (hb2.mono hb1.size)
    have HB3 : Hid (Below w.heap.size w w3) := hb12.grown hg0 hb12.size (fun j hj => by cases hj)
    have hr1 : w.heap.size ≤ w2.heap.size := hb12.size
    have hlt1 : w1.heap.size < w2.heap.size := hown.lt
    clear hus hnum hlx hb2 hown hg0 hs0 hb12
    go_loopw [3, 5] (fun m _ wr => ∃ (left : Lit → Bool) (cnt : Nat) (M : Int), m = .int .i64 M ∧ 0 ≤ M ∧ M ≤ 1000 ∧ wr.ranges Tryz.prog 129 (plainElem Tryz.prog 3) w1.heap.size w2.heap.size n D left cnt ∧ Hid (∀ p, near p → Maps.has D (placeKey p) = true → left (placeKey p) = false → (if lx ≤ p.1 then Tw.wind us p.1 p.2 else 0) ≤ M ∧ -(if lx ≤ p.1 then Tw.wind us p.1 p.2 else 0) ≤ M) ∧ Hid (M = 0 ∨ ∃ x y, Tw.wind us x y = M ∨ -Tw.wind us x y = M) ∧ Below w.heap.size w wr) (fun _ _ wr => wr.rangeLeft w1.heap.size w2.heap.size)
    case atStart => exact ⟨Maps.has D, Maps.size D, 0, rfl, by omega, by omega, hrg0, (fun p _ h1 h2 => by rw [h1] at h2; cases h2), .inl rfl, HB3.out⟩
    case round =>
      obtain ⟨left, cnt, M, rfl, hM0, hM1, hrg, HL, HM, hbr⟩ := hrel
      go_wp2_with (first
        | (at_next; refine wpList_next_ranges _ rfl _ rfl 129 twoLaw (plainElem (H := Unit) Tryz.prog 3) (fun v : Value => v) (fun c : Int => .int .i64 c) (fun key kl _ => ⟨key, rfl⟩) (fun v y h => by obtain ⟨a, rfl, _, _⟩ := plainElem_int_inv Tryz.underlying3 h; exact ⟨a, rfl⟩) w1.heap.size w2.heap.size n D left cnt rfl hrg ?_ ?_))
      · intro hc0 hl0
        go_wp2
        go_ret
        refine ⟨?_, hbr⟩
        have hmost : Tw.Most us M := by
          refine ⟨hM0, fun x y => ?_, HM.out⟩
          by_cases hxy : x < -20 ∨ 20 ≤ x ∨ y < -20 ∨ 20 ≤ y
          · rw [HWO.out x y hxy]
            omega
          · have hnear : near (x, y) := by unfold near; simp only; omega
            have hat := HNUM.out.1 (x, y) hnear
            simp only at hat
            by_cases hxl : lx ≤ x
            · by_cases hh : Maps.has D (placeKey (x, y)) = true
              · have := HL.out (x, y) hnear hh (hl0 _)
                simp only [if_pos hxl] at this
                exact this
              · rw [atKey_of_not_has (by simpa using hh), if_pos hxl] at hat
                have h0 : Tw.wind us x y = 0 := by simpa using hat.symm
                rw [h0]
                omega
            · rw [HWW.out lx x y HLX.out (by omega)]
              omega
        rw [Tw.mostRes_is HCL.out (by rw [HUS.out]; exact hmost)]
        rfl
      · intro x c kl y yp w4 cnt4 hkey hlk hv hat hrg4 hlt4 hg4 hs4 hen
        obtain ⟨a, hva, hz, hwf⟩ := plainElem_int_inv Tryz.underlying3 hv
        cases hva
        cases hz
        have hhas : Maps.has D kl = true := has_true_of_atKey hat
        obtain ⟨p, hp, rfl⟩ := HNUM.out.2 kl hhas
        have hval := HNUM.out.1 p hp
        rw [hat] at hval
        have hc : c = (if lx ≤ p.1 then Tw.wind us p.1 p.2 else 0) := by simpa using hval
        have hwt := HWT.out p.1 p.2
        have hul := HUL.out
        have hcb : -1000 ≤ c ∧ c ≤ 1000 := by
          rw [hc]
          split <;> omega
        have HC2 := Lib.hid hc
        have HRG := Lib.hid hrg4
        have HG4 := Lib.hid hg4
        clear hval hc hwt hat hv hkey hhas hrg4 hg4
        go_wp2_with (first
          | (go_at_call 151; refine (withoutSign_any _ hcb _).mono ?_; rintro e w5 ⟨rfl, rfl⟩))
        go_roundw
        case rel =>
          refine ⟨_, cnt4, max M (max c (-c)), rfl, by omega, by omega, HRG.out, ?_, ?_, hbr.grown HG4.out hbr.size (fun j hj => by cases hj; exact hr1)⟩
          · intro q hq h1 h2
            by_cases hqp : placeKey q = placeKey p
            · obtain rfl := placeKey_inj hq hp hqp
              rw [← HC2.out]
              omega
            · have h3 : left (placeKey q) = false := by
                have h4 : (placeKey q).sameKey (placeKey p) = false := sameKey_ne hqp
                rw [h4] at h2
                simpa using h2
              have := HL.out q hq h1 h3
              omega
          · show _ ∨ _
            rcases HM.out with hm | hm
            · by_cases hz : max c (-c) = 0
              · left
                omega
              · right
                have hcw : lx ≤ p.1 := by
                  by_cases h : lx ≤ p.1
                  · exact h
                  · have := HC2.out
                    rw [if_neg h] at this
                    omega
                have := HC2.out
                rw [if_pos hcw] at this
                exact ⟨p.1, p.2, by omega⟩
            · by_cases hz : max c (-c) ≤ M
              · right
                rw [Int.max_eq_left hz]
                exact hm
              · right
                have hcw : lx ≤ p.1 := by
                  by_cases h : lx ≤ p.1
                  · exact h
                  · have := HC2.out
                    rw [if_neg h] at this
                    omega
                have := HC2.out
                rw [if_pos hcw] at this
                exact ⟨p.1, p.2, by omega⟩
        case measure =>
          rw [HRG.out.left_eq, hrg.left_eq]
          omega

end Go.Proofs.YtccdfndnjjjgfaaGreatDoor

namespace Go.Proofs.YtccdfndnjjjgfaaGreatDoor
open Go.RowKit

/-- An answer. -/
def AskOut (s : ByteArray) (k : Nat) (w : World) (e : Ending) (w' : World) : Prop := e = .returned (.string (askText k s)) ∧ Below w.heap.size w w'
theorem ask_done {s : ByteArray} {k : Nat} {w w' : World} {x : ByteArray} (h : askText k s = x) (hb : Below w.heap.size w w') : AskOut s k w (.returned (.string x)) w' := ⟨by rw [h], hb⟩
theorem geq_dec {n : Int} {b : Bool} (h : 0 ≤ n ↔ b = true) : decide (0 ≤ n) = b := by
  cases b
  · exact decide_eq_false fun h1 => by have := h.1 h1; cases this
  · exact decide_eq_true (h.2 rfl)

def askBox (w : World) (s : ByteArray) (a : Option Addr) (L c : Nat) : World := w.alloc (.cells #[.string s, .slice a L c] 27)
theorem askBox_in (w : World) (s : ByteArray) (a : Option Addr) (L c : Nat) : Below w.heap.size w (askBox w s a L c) ∧ (askBox w s a L c).cell? ⟨w.heap.size, 0, none⟩ = some (.string s) := by
  unfold askBox
  exact ⟨(Below.refl _ _).alloc (Nat.le_refl _) _, cell_of_row _ _ 0 _ _ _ (heap_alloc_new w _)⟩
set_option maxRecDepth 100000 in
set_option maxHeartbeats 800000 in
theorem sayWalk_any (s : ByteArray) (a : Option Addr) (L c : Nat) (w : World) (hok : Tw.walkOk s.data.toList = true) (hw : DirsAt w) (hp : PowAt w) :
    Calls Tryz.prog 88 #[.agg #[.string s, .slice a L c]] w (AskOut s 0 w) := by
  have h40 : s.size ≤ 40 := by have := Tw.walkOk_len hok; rwa [size_data] at this
  have hs : s.size ≤ 1048576 := by omega
  obtain ⟨b0, c0⟩ := askBox_in w s a L c
  obtain ⟨W, hW⟩ : ∃ W, askBox w s a L c = W := ⟨_, rfl⟩
  rw [hW] at b0 c0
  unfold askBox at hW
  have HW := Lib.hid hW
  have HD := Lib.hid (hw.below' b0)
  have HP := Lib.hid (hp.below' b0)
  have B0 := Lib.hid b0
  have HT : Hid (askText 0 s = ⟨#[58]⟩ ++ s) := rfl
  have f1 : ¬ 9223372036854775807 < 1 + s.size := by omega
  clear hW b0 hw hp hs hok
  go_enter Tryz.func88, Tryz.ntmps88
  go_wp2_with fail
  rw [HW.out]
  go_wp2
  go_ret
  exact ask_done HT.out B0.out
set_option maxRecDepth 100000 in
set_option maxHeartbeats 800000 in
theorem sayEnd_any (s : ByteArray) (a : Option Addr) (L c : Nat) (w : World) (hok : Tw.walkOk s.data.toList = true) (hw : DirsAt w) (hp : PowAt w) :
    Calls Tryz.prog 89 #[.agg #[.string s, .slice a L c]] w (AskOut s 1 w) := by
  have h40 : s.size ≤ 40 := by have := Tw.walkOk_len hok; rwa [size_data] at this
  have hs : s.size ≤ 1048576 := by omega
  obtain ⟨b0, c0⟩ := askBox_in w s a L c
  obtain ⟨W, hW⟩ : ∃ W, askBox w s a L c = W := ⟨_, rfl⟩
  rw [hW] at b0 c0
  unfold askBox at hW
  have HW := Lib.hid hW
  have HD := Lib.hid (hw.below' b0)
  have HP := Lib.hid (hp.below' b0)
  have B0 := Lib.hid b0
  have hb := end_bound hok
  have he := implEndOf s W HD.out hok
  obtain ⟨x, hx⟩ : ∃ x, (Tw.endOf s.data.toList).1 = x := ⟨_, rfl⟩
  obtain ⟨y, hy⟩ : ∃ y, (Tw.endOf s.data.toList).2 = y := ⟨_, rfl⟩
  have HT : Hid (askText 1 s = pairText x y) := by show _ = _; rw [← hx, ← hy]; rfl
  rw [hx, hy] at hb he
  have HE := Lib.hid he
  have HPT := Lib.hid (pairText_any x y (by omega) (by omega) (by omega) (by omega))
  clear he hx hy hb
  clear hW b0 hw hp hs hok
  go_enter Tryz.func89, Tryz.ntmps89
  go_wp2_with fail
  rw [HW.out]
  go_wp2_with (first
    | (have hq := k0; go_at_call 100; refine (HPT.out _ (HP.out.below' (hb1.alloc hb1.size _))).mono ?_; rintro e w2 ⟨rfl, hb2⟩)
    | (go_at_call 121; refine HE.out.mono ?_; rintro e w1 ⟨rfl, hb1⟩; have k0 := cell_of_row _ _ 0 _ _ _ (heap_alloc_new w1 (.cells #[.int .i64 x, .int .i64 y] 130)); have k1 := cell_of_row _ _ 1 _ _ _ (heap_alloc_new w1 (.cells #[.int .i64 x, .int .i64 y] 130))))
  go_ret
  have hb3 := hb1.alloc hb1.size (.cells #[.int .i64 x, .int .i64 y] 130)
  exact ask_done HT.out (B0.out.trans ((hb3.trans (hb2.mono hb3.size)).mono B0.out.size))
set_option maxRecDepth 100000 in
set_option maxHeartbeats 800000 in
theorem sayClosed_any (s : ByteArray) (a : Option Addr) (L c : Nat) (w : World) (hok : Tw.walkOk s.data.toList = true) (hw : DirsAt w) (hp : PowAt w) :
    Calls Tryz.prog 90 #[.agg #[.string s, .slice a L c]] w (AskOut s 2 w) := by
  have h40 : s.size ≤ 40 := by have := Tw.walkOk_len hok; rwa [size_data] at this
  have hs : s.size ≤ 1048576 := by omega
  obtain ⟨b0, c0⟩ := askBox_in w s a L c
  obtain ⟨W, hW⟩ : ∃ W, askBox w s a L c = W := ⟨_, rfl⟩
  rw [hW] at b0 c0
  unfold askBox at hW
  have HW := Lib.hid hW
  have HD := Lib.hid (hw.below' b0)
  have HP := Lib.hid (hp.below' b0)
  have B0 := Lib.hid b0
  have hc := implClosedOk s W hs HD.out
  obtain ⟨b, hb⟩ : ∃ b, Tw.closed s.data.toList = b := ⟨_, rfl⟩
  have HT : Hid (askText 2 s = yesText b) := by show _ = _; rw [← hb]; rfl
  rw [hb] at hc
  have HC := Lib.hid hc
  have HY := Lib.hid (yesOrNo_any b)
  clear hc hb
  clear hW b0 hw hp hs hok
  go_enter Tryz.func90, Tryz.ntmps90
  go_wp2_with fail
  rw [HW.out]
  go_wp2_with (first
    | (go_at_call 122; refine (HY.out _).mono ?_; rintro e w2 ⟨rfl, rfl⟩)
    | (go_at_call 123; refine HC.out.mono ?_; rintro e w1 ⟨rfl, hb1⟩))
  go_ret
  exact ask_done HT.out (B0.out.trans (hb1.mono B0.out.size))
set_option maxRecDepth 100000 in
set_option maxHeartbeats 800000 in
theorem saySimple_any (s : ByteArray) (a : Option Addr) (L c : Nat) (w : World) (hok : Tw.walkOk s.data.toList = true) (hw : DirsAt w) (hp : PowAt w) :
    Calls Tryz.prog 91 #[.agg #[.string s, .slice a L c]] w (AskOut s 3 w) := by
  have h40 : s.size ≤ 40 := by have := Tw.walkOk_len hok; rwa [size_data] at this
  have hs : s.size ≤ 1048576 := by omega
  obtain ⟨b0, c0⟩ := askBox_in w s a L c
  obtain ⟨W, hW⟩ : ∃ W, askBox w s a L c = W := ⟨_, rfl⟩
  rw [hW] at b0 c0
  unfold askBox at hW
  have HW := Lib.hid hW
  have HD := Lib.hid (hw.below' b0)
  have HP := Lib.hid (hp.below' b0)
  have B0 := Lib.hid b0
  have hc := implSimpleOk s W hs HD.out
  obtain ⟨b, hb⟩ : ∃ b, Tw.simple s.data.toList = b := ⟨_, rfl⟩
  have HT : Hid (askText 3 s = yesText b) := by show _ = _; rw [← hb]; rfl
  rw [hb] at hc
  have HC := Lib.hid hc
  have HY := Lib.hid (yesOrNo_any b)
  clear hc hb
  clear hW b0 hw hp hs hok
  go_enter Tryz.func91, Tryz.ntmps91
  go_wp2_with fail
  rw [HW.out]
  go_wp2_with (first
    | (go_at_call 122; refine (HY.out _).mono ?_; rintro e w2 ⟨rfl, rfl⟩)
    | (go_at_call 124; refine HC.out.mono ?_; rintro e w1 ⟨rfl, hb1⟩))
  go_ret
  exact ask_done HT.out (B0.out.trans (hb1.mono B0.out.size))
set_option maxRecDepth 100000 in
set_option maxHeartbeats 800000 in
theorem sayAvoids_any (s : ByteArray) (a : Option Addr) (L c : Nat) (w : World) (hok : Tw.walkOk s.data.toList = true) (hw : DirsAt w) (hp : PowAt w) :
    Calls Tryz.prog 92 #[.agg #[.string s, .slice a L c]] w (AskOut s 4 w) := by
  have h40 : s.size ≤ 40 := by have := Tw.walkOk_len hok; rwa [size_data] at this
  have hs : s.size ≤ 1048576 := by omega
  obtain ⟨b0, c0⟩ := askBox_in w s a L c
  obtain ⟨W, hW⟩ : ∃ W, askBox w s a L c = W := ⟨_, rfl⟩
  rw [hW] at b0 c0
  unfold askBox at hW
  have HW := Lib.hid hW
  have HD := Lib.hid (hw.below' b0)
  have HP := Lib.hid (hp.below' b0)
  have B0 := Lib.hid b0
  have hc := implAvoidsOk s W hs HD.out
  obtain ⟨b, hb⟩ : ∃ b, Tw.avoids s.data.toList = b := ⟨_, rfl⟩
  have HT : Hid (askText 4 s = yesText b) := by show _ = _; rw [← hb]; rfl
  rw [hb] at hc
  have HC := Lib.hid hc
  have HY := Lib.hid (yesOrNo_any b)
  clear hc hb
  clear hW b0 hw hp hs hok
  go_enter Tryz.func92, Tryz.ntmps92
  go_wp2_with fail
  rw [HW.out]
  go_wp2_with (first
    | (go_at_call 122; refine (HY.out _).mono ?_; rintro e w2 ⟨rfl, rfl⟩)
    | (go_at_call 125; refine HC.out.mono ?_; rintro e w1 ⟨rfl, hb1⟩))
  go_ret
  exact ask_done HT.out (B0.out.trans (hb1.mono B0.out.size))
set_option maxRecDepth 100000 in
set_option maxHeartbeats 800000 in
theorem sayTurning_any (s : ByteArray) (a : Option Addr) (L c : Nat) (w : World) (hok : Tw.walkOk s.data.toList = true) (hw : DirsAt w) (hp : PowAt w) :
    Calls Tryz.prog 93 #[.agg #[.string s, .slice a L c]] w (AskOut s 5 w) := by
  have h40 : s.size ≤ 40 := by have := Tw.walkOk_len hok; rwa [size_data] at this
  have hs : s.size ≤ 1048576 := by omega
  obtain ⟨b0, c0⟩ := askBox_in w s a L c
  obtain ⟨W, hW⟩ : ∃ W, askBox w s a L c = W := ⟨_, rfl⟩
  rw [hW] at b0 c0
  unfold askBox at hW
  have HW := Lib.hid hW
  have HD := Lib.hid (hw.below' b0)
  have HP := Lib.hid (hp.below' b0)
  have B0 := Lib.hid b0
  have hc := implTurningOf s W hs HD.out
  have hn := turn_bound s.data.toList (by rw [size_data]; exact hs)
  obtain ⟨n, hnn⟩ : ∃ n, (if Tw.closed s.data.toList then turningOf s.data.toList else 0) = n := ⟨_, rfl⟩
  obtain ⟨b, hb⟩ : ∃ b, Tw.closed s.data.toList = b := ⟨_, rfl⟩
  have HT : Hid (askText 5 s = toldText n b) := by show _ = _; rw [← hnn, ← hb]; rfl
  rw [hnn] at hc hn
  rw [hb] at hc
  have HC := Lib.hid hc
  have HY := Lib.hid (numberOrNone_any n b (by omega) (by omega))
  clear hc hb hnn hn
  clear hW b0 hw hp hs hok
  go_enter Tryz.func93, Tryz.ntmps93
  go_wp2_with fail
  rw [HW.out]
  go_wp2_with (first
    | (go_at_call 102; refine (HY.out _ (HP.out.below' hb1)).mono ?_; rintro e w2 ⟨rfl, hb2⟩)
    | (go_at_call 126; refine HC.out.mono ?_; rintro e w1 ⟨rfl, hb1⟩))
  go_ret
  exact ask_done HT.out (B0.out.trans ((hb1.trans (hb2.mono hb1.size)).mono B0.out.size))
set_option maxRecDepth 100000 in
set_option maxHeartbeats 800000 in
theorem sayArea_any (s : ByteArray) (a : Option Addr) (L c : Nat) (w : World) (hok : Tw.walkOk s.data.toList = true) (hw : DirsAt w) (hp : PowAt w) :
    Calls Tryz.prog 94 #[.agg #[.string s, .slice a L c]] w (AskOut s 6 w) := by
  have h40 : s.size ≤ 40 := by have := Tw.walkOk_len hok; rwa [size_data] at this
  have hs : s.size ≤ 1048576 := by omega
  obtain ⟨b0, c0⟩ := askBox_in w s a L c
  obtain ⟨W, hW⟩ : ∃ W, askBox w s a L c = W := ⟨_, rfl⟩
  rw [hW] at b0 c0
  unfold askBox at hW
  have HW := Lib.hid hW
  have HD := Lib.hid (hw.below' b0)
  have HP := Lib.hid (hp.below' b0)
  have B0 := Lib.hid b0
  have hc := implAreaOf s W hs HD.out
  have hn := line_res_bound s.data.toList
  obtain ⟨n, hnn⟩ : ∃ n, areaRes s.data.toList = n := ⟨_, rfl⟩
  obtain ⟨b, hb⟩ : ∃ b, Tw.closed s.data.toList = b := ⟨_, rfl⟩
  have HT : Hid (askText 6 s = toldText n b) := by show _ = _; rw [← hnn, ← hb]; rfl
  rw [hnn] at hc hn
  rw [hb] at hc
  have HC := Lib.hid hc
  have HY := Lib.hid (numberOrNone_any n b (by omega) (by omega))
  clear hc hb hnn hn
  clear hW b0 hw hp hs hok
  go_enter Tryz.func94, Tryz.ntmps94
  go_wp2_with fail
  rw [HW.out]
  go_wp2_with (first
    | (go_at_call 102; refine (HY.out _ (HP.out.below' hb1)).mono ?_; rintro e w2 ⟨rfl, hb2⟩)
    | (go_at_call 127; refine HC.out.mono ?_; rintro e w1 ⟨rfl, hb1⟩))
  go_ret
  exact ask_done HT.out (B0.out.trans ((hb1.trans (hb2.mono hb1.size)).mono B0.out.size))
set_option maxRecDepth 100000 in
set_option maxHeartbeats 800000 in
theorem sayWinding_any (s : ByteArray) (a : Option Addr) (L c : Nat) (w : World) (hok : Tw.walkOk s.data.toList = true) (hw : DirsAt w) (hp : PowAt w) :
    Calls Tryz.prog 95 #[.agg #[.string s, .slice a L c]] w (AskOut s 7 w) := by
  have h40 : s.size ≤ 40 := by have := Tw.walkOk_len hok; rwa [size_data] at this
  have hs : s.size ≤ 1048576 := by omega
  obtain ⟨b0, c0⟩ := askBox_in w s a L c
  obtain ⟨W, hW⟩ : ∃ W, askBox w s a L c = W := ⟨_, rfl⟩
  rw [hW] at b0 c0
  unfold askBox at hW
  have HW := Lib.hid hW
  have HD := Lib.hid (hw.below' b0)
  have HP := Lib.hid (hp.below' b0)
  have B0 := Lib.hid b0
  have hc := implMost s W hs HD.out
  have hn := Tw.mostRes_range (l := s.data.toList)
  obtain ⟨n, hnn⟩ : ∃ n, Tw.mostRes s.data.toList = n := ⟨_, rfl⟩
  obtain ⟨b, hb⟩ : ∃ b, Tw.closed s.data.toList = b := ⟨_, rfl⟩
  have HT : Hid (askText 7 s = toldText n b) := by show _ = _; rw [← hnn, ← hb]; rfl
  rw [hnn] at hc hn
  rw [hb] at hn
  have hg := geq_dec hn.2.2
  have HC := Lib.hid hc
  have HY := Lib.hid (numberOrNone_any n b (by omega) (by omega))
  clear hc hb hnn hn
  clear hW b0 hw hp hs hok
  go_enter Tryz.func95, Tryz.ntmps95
  go_wp2_with fail
  rw [HW.out]
  go_wp2_with (first
    | (go_at_call 102; refine (HY.out _ (HP.out.below' hb1)).mono ?_; rintro e w2 ⟨rfl, hb2⟩)
    | (go_at_call 128; refine HC.out.mono ?_; rintro e w1 ⟨rfl, hb1⟩))
  go_ret
  exact ask_done HT.out (B0.out.trans ((hb1.trans (hb2.mono hb1.size)).mono B0.out.size))
set_option maxRecDepth 100000 in
set_option maxHeartbeats 800000 in
theorem saySquares_any (s : ByteArray) (a : Option Addr) (L c : Nat) (w : World) (hok : Tw.walkOk s.data.toList = true) (hw : DirsAt w) (hp : PowAt w) :
    Calls Tryz.prog 96 #[.agg #[.string s, .slice a L c]] w (AskOut s 8 w) := by
  have h40 : s.size ≤ 40 := by have := Tw.walkOk_len hok; rwa [size_data] at this
  have hs : s.size ≤ 1048576 := by omega
  obtain ⟨b0, c0⟩ := askBox_in w s a L c
  obtain ⟨W, hW⟩ : ∃ W, askBox w s a L c = W := ⟨_, rfl⟩
  rw [hW] at b0 c0
  unfold askBox at hW
  have HW := Lib.hid hW
  have HD := Lib.hid (hw.below' b0)
  have HP := Lib.hid (hp.below' b0)
  have B0 := Lib.hid b0
  have hc := implSquares s W hs HD.out
  have hn := Tw.squaresRes_range (l := s.data.toList)
  obtain ⟨n, hnn⟩ : ∃ n, Tw.squaresRes s.data.toList = n := ⟨_, rfl⟩
  obtain ⟨b, hb⟩ : ∃ b, Tw.simple s.data.toList = b := ⟨_, rfl⟩
  have HT : Hid (askText 8 s = toldText n b) := by show _ = _; rw [← hnn, ← hb]; rfl
  rw [hnn] at hc hn
  rw [hb] at hn
  have hg := geq_dec hn.2.2
  have HC := Lib.hid hc
  have HY := Lib.hid (numberOrNone_any n b (by omega) (by omega))
  clear hc hb hnn hn
  clear hW b0 hw hp hs hok
  go_enter Tryz.func96, Tryz.ntmps96
  go_wp2_with fail
  rw [HW.out]
  go_wp2_with (first
    | (go_at_call 102; refine (HY.out _ (HP.out.below' hb1)).mono ?_; rintro e w2 ⟨rfl, hb2⟩)
    | (go_at_call 129; refine HC.out.mono ?_; rintro e w1 ⟨rfl, hb1⟩))
  go_ret
  exact ask_done HT.out (B0.out.trans ((hb1.trans (hb2.mono hb1.size)).mono B0.out.size))

end Go.Proofs.YtccdfndnjjjgfaaGreatDoor

namespace Go.Proofs.YtccdfndnjjjgfaaGreatDoor
open Go.RowKit Go.Maps Go.WideMaps Go.ChangeShapes Go.WideShapes Go.MapKept Go.ChangeMaps

theorem ask_none {X : ByteArray} (h : ∀ i, i < 9 → askWords.getD i ⟨#[]⟩ ≠ X) : askAt X = none := by
  unfold askAt
  rw [List.findIdx?_eq_none_iff]
  intro y hy
  obtain ⟨i, hi, rfl⟩ := List.mem_iff_getElem.1 hy
  have h1 := h i hi
  rw [List.getD_eq_getElem?_getD, List.getElem?_eq_getElem hi] at h1
  exact decide_eq_false h1
theorem askAt_word {i : Nat} (hi : i < 9) : askAt (askWords.getD i ⟨#[]⟩) = some i := by
  obtain rfl | rfl | rfl | rfl | rfl | rfl | rfl | rfl | rfl : i = 0 ∨ i = 1 ∨ i = 2 ∨ i = 3 ∨ i = 4 ∨ i = 5 ∨ i = 6 ∨ i = 7 ∨ i = 8 := by omega
  all_goals rfl

/-- The functions, in the order of the words. -/
def askFn (i : Nat) : FuncId := [88, 89, 90, 91, 92, 93, 94, 95, 96].getD i 0
def askEntry (i : Nat) : MapEntry := ⟨.string (askWords.getD i ⟨#[]⟩), .func (.func (askFn i)) #[] #[], i⟩
def askEntries (n : Nat) : Array MapEntry := ((List.range n).map askEntry).toArray
theorem askEntries_succ (n : Nat) : askEntries (n + 1) = (askEntries n).push (askEntry n) := by
  unfold askEntries
  rw [List.range_succ, List.map_append]
  simp
def askMap (w : World) (n : Nat) : World := setBlock (w.alloc (.map #[] 0)) w.heap.size (.map (askEntries n) n)
theorem askMap_at (w : World) (n : Nat) : (askMap w n).heap[w.heap.size]? = some (.map (askEntries n) n) := heap_setBlock_same (heap_alloc_new w _) _
theorem askMap_zero (w : World) : w.alloc (.map #[] 0) = askMap w 0 := (setBlock_same (heap_alloc_new w _)).symm
theorem askMap_below (w : World) (n : Nat) : Below w.heap.size w (askMap w n) :=
  ⟨rfl, rfl, rfl, by simp [askMap, setBlock], fun i hi => (heap_setBlock_other (heap_alloc_new w _) _ (fun e => by omega)).trans (heap_alloc_at hi)⟩
theorem ask_member {n : Nat} {e : MapEntry} (h : e ∈ (askEntries n).toList) : ∃ i, i < n ∧ e = askEntry i := by
  unfold askEntries at h
  rw [List.toList_toArray] at h
  obtain ⟨i, hi, rfl⟩ := List.mem_map.1 h
  exact ⟨i, List.mem_range.1 hi, rfl⟩
set_option maxRecDepth 100000 in
theorem askWord_size : ∀ i, i < 9 → (askWords.getD i ⟨#[]⟩).size ≤ 7 := by decide
set_option maxRecDepth 100000 in
theorem askWord_inj : ∀ i, i < 9 → ∀ j, j < 9 → i ≠ j → askWords.getD i ⟨#[]⟩ ≠ askWords.getD j ⟨#[]⟩ := by decide
theorem askKeys {n : Nat} (hn : n ≤ 9) : ∀ e ∈ (askEntries n).toList, ∃ l, keyOf Tryz.prog 9 e.key = some l := fun e he => by
  obtain ⟨i, hi, rfl⟩ := ask_member he
  exact ⟨_, keyOf_string_mk Tryz.underlying9 (by have := askWord_size i (by omega); unfold maxLen; omega)⟩
theorem makeMap_run (w : World) : (Instr.makeMap 72 none).run Tryz.prog w = .ok (.map (some w.heap.size)) (w.alloc (.map #[] 0)) := by
  simp [Instr.makeMap]
theorem map_put {w : World} {b clock : Nat} {es : Array MapEntry} (hb : w.heap[b]? = some (.map es clock)) {key : ByteArray} {v : Value} {l : Lit} (hkey : keyOf Tryz.prog 9 (.string key) = some l) (h1 : (Instr.findKey 9 (.string key) es.toList).run Tryz.prog w = .ok none w) :
    (Instr.mapUpdate 72 (.map (some b)) (.string key) v).run Tryz.prog w = .ok () (setBlock w b (.map (es.push ⟨.string key, v, clock⟩) (clock + 1))) := by
  have K : KeyLaw Tryz.prog 9 := string_law Tryz.underlying9
  simp [Instr.mapUpdate, run_underlying Tryz.underlying72, MapKept.run_getObj_map hb, K.check w false hkey, h1, MapKept.run_setObj_map _ hb, Result.andThen, setBlock]
theorem zero_ask (w : World) : (zeroValue 70).run Tryz.prog w = .ok .nilFunc w := by kernel_rfl
theorem map_miss {w : World} {b clock : Nat} {es : Array MapEntry} (hb : w.heap[b]? = some (.map es clock)) {key : ByteArray} {l : Lit} (hkey : keyOf Tryz.prog 9 (.string key) = some l) (h1 : (Instr.findKey 9 (.string key) es.toList).run Tryz.prog w = .ok none w) :
    (Instr.lookup 72 (.map (some b)) (.string key) true).run Tryz.prog w = .ok (.tuple #[.nilFunc, .bool false]) w := by
  have K : KeyLaw Tryz.prog 9 := string_law Tryz.underlying9
  simp [Instr.lookup, run_underlying Tryz.underlying72, MapKept.run_getObj_map hb, K.check w _ hkey, h1, Result.andThen]
theorem map_hit {w : World} {b clock j : Nat} {es : Array MapEntry} {v : Value} (hb : w.heap[b]? = some (.map es clock)) {key : ByteArray} {l : Lit} (hkey : keyOf Tryz.prog 9 (.string key) = some l) (h1 : (Instr.findKey 9 (.string key) es.toList).run Tryz.prog w = .ok (some (j, v)) w) :
    (Instr.lookup 72 (.map (some b)) (.string key) true).run Tryz.prog w = .ok (.tuple #[v, .bool true]) w := by
  have K : KeyLaw Tryz.prog 9 := string_law Tryz.underlying9
  simp [Instr.lookup, run_underlying Tryz.underlying72, MapKept.run_getObj_map hb, K.check w _ hkey, h1, Result.andThen]
theorem ask_put (w : World) (n : Nat) (hn : n < 9) : (Instr.mapUpdate 72 (.map (some w.heap.size)) (.string (askWords.getD n ⟨#[]⟩)) (.func (.func (askFn n)) #[] #[])).run Tryz.prog (askMap w n) = .ok () (askMap w (n + 1)) := by
  have K : KeyLaw Tryz.prog 9 := string_law Tryz.underlying9
  have hkey := keyOf_string_mk (P := Tryz.prog) Tryz.underlying9 (s := askWords.getD n ⟨#[]⟩) (by have := askWord_size n hn; unfold maxLen; omega)
  have hb := askMap_at w n
  rcases K.find (askMap w n) hkey (askEntries n).toList (askKeys (by omega)) with ⟨h1, _⟩ | ⟨j, e, _, h2, h3⟩
  · rw [map_put hb hkey h1]
    have e2 : setBlock (askMap w n) w.heap.size (.map ((askEntries n).push ⟨.string (askWords.getD n ⟨#[]⟩), .func (.func (askFn n)) #[] #[], n⟩) (n + 1)) = askMap w (n + 1) := by
      show _ = setBlock (w.alloc (.map #[] 0)) w.heap.size (.map (askEntries (n + 1)) (n + 1))
      rw [askEntries_succ]
      exact setBlock_twice
    rw [e2]
  · obtain ⟨i, hi, rfl⟩ := ask_member (List.mem_of_getElem? h2)
    have h4 : askWords.getD i ⟨#[]⟩ = askWords.getD n ⟨#[]⟩ := Value.string.inj h3
    exact absurd h4 (askWord_inj i (by omega) n hn (by omega))
/-- What the map holds at a line. -/
theorem ask_look {W : World} {b : Nat} (hb : W.heap[b]? = some (.map (askEntries 9) 9)) (X : ByteArray) (hX : X.size ≤ maxLen) :
    (∃ k, k < 9 ∧ askWords.getD k ⟨#[]⟩ = X ∧ askAt X = some k ∧ (Instr.lookup 72 (.map (some b)) (.string X) true).run Tryz.prog W = .ok (.tuple #[.func (.func (askFn k)) #[] #[], .bool true]) W) ∨
    (askAt X = none ∧ (Instr.lookup 72 (.map (some b)) (.string X) true).run Tryz.prog W = .ok (.tuple #[.nilFunc, .bool false]) W) := by
  have K : KeyLaw Tryz.prog 9 := string_law Tryz.underlying9
  have hkey := keyOf_string_mk (P := Tryz.prog) Tryz.underlying9 (s := X) hX
  rcases K.find W hkey (askEntries 9).toList (askKeys (by omega)) with ⟨h1, h2⟩ | ⟨j, e, h1, h2, h3⟩
  · refine .inr ⟨ask_none fun i hi he => ?_, ?_⟩
    · have hm : askEntry i ∈ (askEntries 9).toList := by
        unfold askEntries
        rw [List.toList_toArray]
        exact List.mem_map.2 ⟨i, List.mem_range.2 hi, rfl⟩
      refine h2 _ hm ?_
      show Value.string _ = _
      rw [he]
    · exact map_miss hb hkey h1
  · obtain ⟨i, hi, rfl⟩ := ask_member (List.mem_of_getElem? h2)
    have hX2 : askWords.getD i ⟨#[]⟩ = X := Value.string.inj h3
    exact .inl ⟨i, hi, hX2, hX2 ▸ askAt_word hi, map_hit hb hkey h1⟩
set_option maxRecDepth 100000 in
set_option maxHeartbeats 800000 in
theorem questions_any (w : World) : Calls Tryz.prog 46 #[] w fun e w' => e = .returned (.map (some w.heap.size)) ∧ w' = askMap w 9 := by
  have r0 : (Instr.mapUpdate 72 (.map (some w.heap.size)) (.string ⟨#[119, 97, 108, 107]⟩) (.func (.func 88) #[] #[])).run Tryz.prog (w.alloc (.map #[] 0)) = .ok () (askMap w 1) := askMap_zero w ▸ ask_put w 0 (by omega)
  have r1 : (Instr.mapUpdate 72 (.map (some w.heap.size)) (.string ⟨#[101, 110, 100]⟩) (.func (.func 89) #[] #[])).run Tryz.prog (askMap w 1) = .ok () (askMap w 2) := ask_put w 1 (by omega)
  have r2 : (Instr.mapUpdate 72 (.map (some w.heap.size)) (.string ⟨#[99, 108, 111, 115, 101, 100]⟩) (.func (.func 90) #[] #[])).run Tryz.prog (askMap w 2) = .ok () (askMap w 3) := ask_put w 2 (by omega)
  have r3 : (Instr.mapUpdate 72 (.map (some w.heap.size)) (.string ⟨#[115, 105, 109, 112, 108, 101]⟩) (.func (.func 91) #[] #[])).run Tryz.prog (askMap w 3) = .ok () (askMap w 4) := ask_put w 3 (by omega)
  have r4 : (Instr.mapUpdate 72 (.map (some w.heap.size)) (.string ⟨#[97, 118, 111, 105, 100, 115]⟩) (.func (.func 92) #[] #[])).run Tryz.prog (askMap w 4) = .ok () (askMap w 5) := ask_put w 4 (by omega)
  have r5 : (Instr.mapUpdate 72 (.map (some w.heap.size)) (.string ⟨#[116, 117, 114, 110, 105, 110, 103]⟩) (.func (.func 93) #[] #[])).run Tryz.prog (askMap w 5) = .ok () (askMap w 6) := ask_put w 5 (by omega)
  have r6 : (Instr.mapUpdate 72 (.map (some w.heap.size)) (.string ⟨#[97, 114, 101, 97]⟩) (.func (.func 94) #[] #[])).run Tryz.prog (askMap w 6) = .ok () (askMap w 7) := ask_put w 6 (by omega)
  have r7 : (Instr.mapUpdate 72 (.map (some w.heap.size)) (.string ⟨#[119, 105, 110, 100, 105, 110, 103]⟩) (.func (.func 95) #[] #[])).run Tryz.prog (askMap w 7) = .ok () (askMap w 8) := ask_put w 7 (by omega)
  have r8 : (Instr.mapUpdate 72 (.map (some w.heap.size)) (.string ⟨#[115, 113, 117, 97, 114, 101, 115]⟩) (.func (.func 96) #[] #[])).run Tryz.prog (askMap w 8) = .ok () (askMap w 9) := ask_put w 8 (by omega)
  have hmk : (Instr.makeMap 72 none).run Tryz.prog w = .ok (.map (some w.heap.size)) (w.alloc (.map #[] 0)) := makeMap_run w
  go_enter Tryz.func46, Tryz.ntmps46
  go_wp2
  go_ret
  exact ⟨rfl, rfl⟩
theorem says_any (s : ByteArray) (a : Option Addr) (L c : Nat) (hok : Tw.walkOk s.data.toList = true) (k : Nat) (hk : k < 9) (w : World) (hw : DirsAt w) (hp : PowAt w) :
    Calls Tryz.prog (askFn k) #[.agg #[.string s, .slice a L c]] w (AskOut s k w) := by
  obtain rfl | rfl | rfl | rfl | rfl | rfl | rfl | rfl | rfl : k = 0 ∨ k = 1 ∨ k = 2 ∨ k = 3 ∨ k = 4 ∨ k = 5 ∨ k = 6 ∨ k = 7 ∨ k = 8 := by omega
  · exact sayWalk_any s a L c w hok hw hp
  · exact sayEnd_any s a L c w hok hw hp
  · exact sayClosed_any s a L c w hok hw hp
  · exact saySimple_any s a L c w hok hw hp
  · exact sayAvoids_any s a L c w hok hw hp
  · exact sayTurning_any s a L c w hok hw hp
  · exact sayArea_any s a L c w hok hw hp
  · exact sayWinding_any s a L c w hok hw hp
  · exact saySquares_any s a L c w hok hw hp

end Go.Proofs.YtccdfndnjjjgfaaGreatDoor

namespace Go.Proofs.YtccdfndnjjjgfaaGreatDoor
open Go.RowKit Go.Maps Go.WideMaps Go.MapKept

theorem ask_enters (k : Nat) (hk : k < 9) : ∀ args w, (callFunc (askFn k) args).run Tryz.prog w = .ok (.enter (askFn k) args) w := by
  obtain rfl | rfl | rfl | rfl | rfl | rfl | rfl | rfl | rfl : k = 0 ∨ k = 1 ∨ k = 2 ∨ k = 3 ∨ k = 4 ∨ k = 5 ∨ k = 6 ∨ k = 7 ∨ k = 8 := by omega
  · exact enters_of Tryz.func88 (by kernel_rfl) rfl
  · exact enters_of Tryz.func89 (by kernel_rfl) rfl
  · exact enters_of Tryz.func90 (by kernel_rfl) rfl
  · exact enters_of Tryz.func91 (by kernel_rfl) rfl
  · exact enters_of Tryz.func92 (by kernel_rfl) rfl
  · exact enters_of Tryz.func93 (by kernel_rfl) rfl
  · exact enters_of Tryz.func94 (by kernel_rfl) rfl
  · exact enters_of Tryz.func95 (by kernel_rfl) rfl
  · exact enters_of Tryz.func96 (by kernel_rfl) rfl
theorem look_yes {W : World} {b : Nat} (hb : W.heap[b]? = some (.map (askEntries 9) 9)) {X : ByteArray} (hX : X.size ≤ maxLen) {k : Nat} {f : FuncId} (h : askAt X = some k) (hf : askFn k = f) : (Instr.lookup 72 (.map (some b)) (.string X) true).run Tryz.prog W = .ok (.tuple #[.func (.func f) #[] #[], .bool true]) W := by
  rcases ask_look hb X hX with ⟨j, _, _, h2, h3⟩ | ⟨h2, _⟩
  · rw [h] at h2
    obtain rfl := Option.some.inj h2
    rw [h3, hf]
  · rw [h] at h2
    cases h2
theorem look_no {W : World} {b : Nat} (hb : W.heap[b]? = some (.map (askEntries 9) 9)) {X : ByteArray} (hX : X.size ≤ maxLen) (h : askAt X = none) : (Instr.lookup 72 (.map (some b)) (.string X) true).run Tryz.prog W = .ok (.tuple #[.nilFunc, .bool false]) W := by
  rcases ask_look hb X hX with ⟨j, _, _, h2, _⟩ | ⟨_, h3⟩
  · rw [h] at h2
    cases h2
  · exact h3
theorem questions_out (w : World) : Calls Tryz.prog 46 #[] w fun e w' => ∃ M, e = .returned (.map (some M)) ∧ w'.heap[M]? = some (.map (askEntries 9) 9) ∧ Below w.heap.size w w' := by
  refine (questions_any w).mono ?_
  rintro e w' ⟨rfl, rfl⟩
  exact ⟨_, rfl, askMap_at w 9, askMap_below w 9⟩
set_option maxRecDepth 100000 in
set_option maxHeartbeats 1600000 in
theorem implLine_ask (s : ByteArray) (a : Option Addr) (c L : Nat) (zs : List ByteArray) (X : ByteArray) (w : World) (h : PastAt w (.slice a L c) zs) (HL : Hid (zs.length = L)) (hok : Hid (deskOk s zs = true)) (hX : X.size ≤ 1048576) (hr : Hid (readOf X.data.toList = ((0, 0), false)))
    (hdd : DirsAt w) (hwd : WordsAt w) (hmx : MaxAt w) (hpw : PowAt w) (k : Nat) (hk : k < 9) (hat : askAt X = some k) (t : ByteArray) (htt : askText k s = t) :
    Calls Tryz.prog 21 #[.agg #[.string s, .slice a L c], .string X] w (LineOut w s zs t) := by
  obtain ⟨h1, h8, hz⟩ := deskOk_parts hok.out
  obtain ⟨e0, hsz, r0, r1⟩ := desk2_in w s (.slice a L c)
  obtain ⟨W, hW⟩ : ∃ W, deskBox2 w s (.slice a L c) = W := ⟨_, rfl⟩
  rw [hW] at e0 hsz r0 r1
  unfold deskBox2 at hW
  have HW := Lib.hid hW
  have HDK := Lib.hid (deskOk_namedI s (.slice a L c) zs W (e0.strs h.strs) (by have := ok_size h1; omega) (by omega) (fun z hz9 => by have := ok_size (hz z hz9); omega) true hok.out)
  have HRD : Hid (∀ Y, Ext w Y → Calls Tryz.prog 44 #[.string X] Y fun e w' => e = .returned (.tuple #[.agg #[.int .i64 0, .int .i64 0], .bool false]) ∧ Below Y.heap.size Y w') := fun Y hY => by
    refine (implReadDeed X Y (hwd.below' hY) (hmx.below' hY) hX).mono ?_
    rintro e w' ⟨he, hb⟩
    rw [hr.out] at he
    exact ⟨he, hb⟩
  have HCP : Hid (∀ Y, Ext W Y → Calls Tryz.prog 39 #[.agg #[.string s, .slice a L c]] Y fun e w' => ∃ a2 c2, e = .returned (.agg #[.string s, .slice a2 L c2]) ∧ PastAt w' (.slice a2 L c2) zs ∧ Fresh W.heap.size (.slice a2 L c2) ∧ Ext W w') := fun Y hY => by
    refine (copied_any s (.slice a L c) zs Y ((e0.trans hY).past h) (by omega)).mono ?_
    rw [HL.out]
    rintro e w' ⟨a2, c2, he, hp2, hf2, hb2⟩
    exact ⟨a2, c2, he, hp2, fresh_ext hY hf2, hY.call hb2⟩
  obtain ⟨f, hf⟩ : ∃ f, askFn k = f := ⟨_, rfl⟩
  have henter := ask_enters k hk
  have HF : Hid (∀ Y, Ext W Y → Calls Tryz.prog f #[.agg #[.string s, .slice a L c]] Y fun e w' => e = .returned (.string t) ∧ Ext W w' ∧ Ext Y w') := fun Y hY => by
    rw [← hf, ← htt]
    refine (says_any s a L c h1 k hk Y (hdd.below' (e0.trans hY)) (hpw.below' (e0.trans hY))).mono ?_
    rintro e w' ⟨he, hb⟩
    exact ⟨he, hY.call hb, hb⟩
  rw [hf] at henter
  have HLK : Hid (∀ (Y : World) (M : Nat), Y.heap[M]? = some (.map (askEntries 9) 9) → (Instr.lookup 72 (.map (some M)) (.string X) true).run Tryz.prog Y = .ok (.tuple #[.func (.func f) #[] #[], .bool true]) Y) := fun Y M hM => look_yes hM (by unfold maxLen; omega) hat hf
  have R0 := Lib.hid r0
  have R1 := Lib.hid r1
  have E0 := Lib.hid e0
  have c0 := cell_of_row _ _ 0 _ _ _ r0
  have c1 := cell_of_row _ _ 1 _ _ _ r0
  have HS : Hid (∀ Y, Ext W Y → Y.cell? ⟨w.heap.size, 0, none⟩ = some (.string s) ∧ Y.cell? ⟨w.heap.size, 1, none⟩ = some (.slice a L c)) := fun Y hY => ⟨cell_of_row _ _ 0 _ _ _ (hY.row R0.out), cell_of_row _ _ 1 _ _ _ (hY.row R0.out)⟩
  have hws : W.heap.size = w.heap.size + 2 := hsz
  clear hW r0 r1 h hdd hwd hmx hz h1 h8 e0 hf htt hat hpw hk hsz
  go_enter Tryz.func21, Tryz.ntmps21
  go_wp2_with fail
  rw [HW.out]
  go_upto_region 11 with (first
    | (go_at_call 27; refine HDK.out.mono ?_; rintro e w1 ⟨rfl, hb1⟩; have E1 : Hid (Ext W w1) := hb1; clear hb1)
    | (go_at_call 44; refine (HRD.out w1 (E0.out.trans E1.out)).mono ?_; rintro e w2 ⟨rfl, hb2⟩; have E2A : Hid (Ext W (w2.alloc (.cells #[.int .i64 0, .int .i64 0] 53))) := (Ext.call E1.out hb2).alloc _; clear hb2)
    | (go_at_call 46; refine (questions_out _).mono ?_; rintro e w3 ⟨M, rfl, hM, hb3⟩; have hlk := HLK.out w3 M hM; have E3 : Ext W w3 := Ext.call E2A.out hb3; clear hM hb3))
  obtain ⟨k0, k1⟩ := HS.out _ E3
  go_region_held3 (fun w' => w'.cell? ⟨w.heap.size, 0, none⟩ = some (.string s) ∧ w'.cell? ⟨w.heap.size, 1, none⟩ = some (.slice a L c))
    (first
      | exact HS.out _ (by assumption)
      | exact HS.out _ (Ext.drew (by assumption))
      | exact other_cells (by omega) (HS.out _ (by assumption)).1 (HS.out _ (by assumption)).2)
    (first
      | (go_at_call 39; refine (HCP.out _ (by first | assumption | exact Ext.drew (by assumption))).mono ?_; rintro e wC ⟨a2, c2, rfl, hpC, hfC, eC⟩; have PC := Lib.hid hpC; have FC := Lib.hid hfC; have hrC := eC.row R1.out; have f0 := frozen_of_row _ _ 0 _ _ hrC; have f1 := frozen_of_row _ _ 1 _ _ hrC; have m0 := cell_of_row _ _ 0 _ _ _ hrC; have m1 := cell_of_row _ _ 1 _ _ _ hrC; have q := pair_put hrC (.string s) (.slice a2 L c2); have q0 := cell_of_row _ _ 0 _ _ _ q; have q1 := cell_of_row _ _ 1 _ _ _ q; clear hpC hfC hrC q)
      | (go_at_fn f; refine (HF.out _ (by first | assumption | exact Ext.drew (by assumption))).mono ?_; rintro e wF ⟨rfl, eF, eY⟩; have hrF := eF.row R1.out; have f0 := frozen_of_row _ _ 0 _ _ hrF; have f1 := frozen_of_row _ _ 1 _ _ hrF; have m0 := cell_of_row _ _ 0 _ _ _ hrF; have m1 := cell_of_row _ _ 1 _ _ _ hrF; (first | (have PC := Lib.hid (eY.past PC.out)) | (have PC := Lib.hid (((Ext.refl _).drew.trans eY).past PC.out)) | skip); (first | (have q := pair_put hrF (.string s) (.slice a2 L c2); have q0 := cell_of_row _ _ 0 _ _ _ q; have q1 := cell_of_row _ _ 1 _ _ _ q; clear q) | skip); clear hrF))
  all_goals
    go_wp2
    refine bodyPost_ret (v := .tuple #[.agg #[.string s, .slice a2 L c2], .string t]) (by simp [results, Tryz.results21, go_sem, q0, q1]) rfl ?_
    exact line_done (R := w.heap.size + 1) (E0.out.trans (by assumption)) PC.out (fresh_ext E0.out FC.out) (fun h9 => by have := FC.out _ h9; omega) (by omega)
set_option maxRecDepth 100000 in
set_option maxHeartbeats 1600000 in
theorem implLine_curve (s : ByteArray) (a : Option Addr) (c L : Nat) (zs : List ByteArray) (X : ByteArray) (w : World) (h : PastAt w (.slice a L c) zs) (HL : Hid (zs.length = L)) (hok : Hid (deskOk s zs = true)) (hX : X.size ≤ 1048576) (hr : Hid (readOf X.data.toList = ((0, 0), false)))
    (hwd : WordsAt w) (hmx : MaxAt w) (hpw : PowAt w) (hat : askAt X = none) (t : ByteArray) (htt : curveText X.data.toList = t) :
    Calls Tryz.prog 21 #[.agg #[.string s, .slice a L c], .string X] w (LineOut w s zs t) := by
  obtain ⟨h1, h8, hz⟩ := deskOk_parts hok.out
  obtain ⟨e0, hsz, r0, r1⟩ := desk2_in w s (.slice a L c)
  obtain ⟨W, hW⟩ : ∃ W, deskBox2 w s (.slice a L c) = W := ⟨_, rfl⟩
  rw [hW] at e0 hsz r0 r1
  unfold deskBox2 at hW
  have HW := Lib.hid hW
  have HDK := Lib.hid (deskOk_namedI s (.slice a L c) zs W (e0.strs h.strs) (by have := ok_size h1; omega) (by omega) (fun z hz9 => by have := ok_size (hz z hz9); omega) true hok.out)
  have HRD : Hid (∀ Y, Ext w Y → Calls Tryz.prog 44 #[.string X] Y fun e w' => e = .returned (.tuple #[.agg #[.int .i64 0, .int .i64 0], .bool false]) ∧ Below Y.heap.size Y w') := fun Y hY => by
    refine (implReadDeed X Y (hwd.below' hY) (hmx.below' hY) hX).mono ?_
    rintro e w' ⟨he, hb⟩
    rw [hr.out] at he
    exact ⟨he, hb⟩
  have HCP : Hid (∀ Y, Ext W Y → Calls Tryz.prog 39 #[.agg #[.string s, .slice a L c]] Y fun e w' => ∃ a2 c2, e = .returned (.agg #[.string s, .slice a2 L c2]) ∧ PastAt w' (.slice a2 L c2) zs ∧ Fresh W.heap.size (.slice a2 L c2) ∧ Ext W w') := fun Y hY => by
    refine (copied_any s (.slice a L c) zs Y ((e0.trans hY).past h) (by omega)).mono ?_
    rw [HL.out]
    rintro e w' ⟨a2, c2, he, hp2, hf2, hb2⟩
    exact ⟨a2, c2, he, hp2, fresh_ext hY hf2, hY.call hb2⟩
  have HF : Hid (∀ Y, Ext W Y → Calls Tryz.prog 47 #[.string X] Y fun e w' => e = .returned (.string t) ∧ Ext W w' ∧ Ext Y w') := fun Y hY => by
    rw [← htt]
    refine (curveAnswer_any X Y (hmx.below' (e0.trans hY)) (hpw.below' (e0.trans hY)) hX).mono ?_
    rintro e w' ⟨he, hb⟩
    exact ⟨he, hY.call hb, hb⟩
  have HLK : Hid (∀ (Y : World) (M : Nat), Y.heap[M]? = some (.map (askEntries 9) 9) → (Instr.lookup 72 (.map (some M)) (.string X) true).run Tryz.prog Y = .ok (.tuple #[.nilFunc, .bool false]) Y) := fun Y M hM => look_no hM (by unfold maxLen; omega) hat
  have R0 := Lib.hid r0
  have R1 := Lib.hid r1
  have E0 := Lib.hid e0
  have c0 := cell_of_row _ _ 0 _ _ _ r0
  have c1 := cell_of_row _ _ 1 _ _ _ r0
  have hws : W.heap.size = w.heap.size + 2 := hsz
  clear hW r0 r1 h hwd hmx hz h1 h8 e0 htt hat hpw hsz
  go_enter Tryz.func21, Tryz.ntmps21
  go_wp2_with fail
  rw [HW.out]
  go_wp2_with (first
    | (go_at_call 27; refine HDK.out.mono ?_; rintro e w1 ⟨rfl, hb1⟩; have E1 : Hid (Ext W w1) := hb1; clear hb1)
    | (go_at_call 44; refine (HRD.out w1 (E0.out.trans E1.out)).mono ?_; rintro e w2 ⟨rfl, hb2⟩; have E2A : Hid (Ext W (w2.alloc (.cells #[.int .i64 0, .int .i64 0] 53))) := (Ext.call E1.out hb2).alloc _; clear hb2)
    | (go_at_call 46; refine (questions_out _).mono ?_; rintro e w3 ⟨M, rfl, hM, hb3⟩; have hlk := HLK.out w3 M hM; have E3 : Hid (Ext W w3) := Ext.call E2A.out hb3; have hra := E3.out.row R0.out; have k0 := cell_of_row _ _ 0 _ _ _ hra; have k1 := cell_of_row _ _ 1 _ _ _ hra; clear hM hb3 hra)
    | (go_at_call 39; refine (HCP.out _ E3.out).mono ?_; rintro e wC ⟨a2, c2, rfl, hpC, hfC, eC⟩; have PC := Lib.hid hpC; have FC := Lib.hid hfC; have EC := Lib.hid eC; clear hpC hfC eC)
    | (go_at_call 47; refine (HF.out _ EC.out).mono ?_; rintro e wF ⟨rfl, eF, eY⟩; have hrF := eF.row R1.out; have f0 := frozen_of_row _ _ 0 _ _ hrF; have f1 := frozen_of_row _ _ 1 _ _ hrF; have m0 := cell_of_row _ _ 0 _ _ _ hrF; have m1 := cell_of_row _ _ 1 _ _ _ hrF; have PF := Lib.hid (eY.past PC.out); have q := pair_put hrF (.string s) (.slice a2 L c2); have q0 := cell_of_row _ _ 0 _ _ _ q; have q1 := cell_of_row _ _ 1 _ _ _ q; clear q hrF))
  refine bodyPost_ret (v := .tuple #[.agg #[.string s, .slice a2 L c2], .string t]) (by simp [results, Tryz.results21, go_sem, q0, q1]) rfl ?_
  exact line_done (R := w.heap.size + 1) (E0.out.trans eF) PF.out (fresh_ext E0.out FC.out) (fun h9 => by have := FC.out _ h9; omega) (by omega)

end Go.Proofs.YtccdfndnjjjgfaaGreatDoor

namespace Go.Proofs.YtccdfndnjjjgfaaGreatDoor
open Go.RowKit

/-- The box O holds a desk, whose walks of before are younger than W. -/
structure Lin (W : World) (O : Nat) (s : ByteArray) (g c L : Nat) (zs : List ByteArray) (Y : World) : Prop where
  ext : Ext W Y
  box : Y.heap[O]? = some (.cells #[.string s, .slice (some ⟨g, 0, none⟩) L c] 27 (0, 0))
  past : PastAt Y (.slice (some ⟨g, 0, none⟩) L c) zs
  young : W.heap.size ≤ g
  high : W.heap.size ≤ O
variable {W Y Z : World} {O : Nat} {s : ByteArray} {g c L : Nat} {zs : List ByteArray}
theorem Lin.call (h : Lin W O s g c L zs Y) (hb : Below Y.heap.size Y Z) : Lin W O s g c L zs Z := ⟨h.ext.call hb, Ext.row hb h.box, Ext.past hb h.past, h.young, h.high⟩
theorem Lin.drew (h : Lin W O s g c L zs Y) : Lin W O s g c L zs Y.drew := h.call (Ext.refl Y).drew
theorem Lin.alloc (h : Lin W O s g c L zs Y) (o : Obj) : Lin W O s g c L zs (Y.alloc o) := h.call ((Ext.refl Y).alloc o)
theorem Lin.cells (h : Lin W O s g c L zs Y) : Y.cell? ⟨O, 0, none⟩ = some (.string s) ∧ Y.cell? ⟨O, 1, none⟩ = some (.slice (some ⟨g, 0, none⟩) L c) := ⟨cell_of_row _ _ 0 _ _ _ h.box, cell_of_row _ _ 1 _ _ _ h.box⟩
theorem Lin.fresh (h : Lin W O s g c L zs Y) : Fresh W.heap.size (.slice (some ⟨g, 0, none⟩) L c) := fun b hb => by
  have e : g = b := Option.some.inj hb
  have := h.young
  omega
theorem lin_new {x : ByteArray} (h : Ext W Y) (hp : PastAt Y (.slice (some ⟨g, 0, none⟩) L c) zs) (hg : W.heap.size ≤ g) : Lin W Y.heap.size x g c L zs (Y.alloc (.cells #[.string x, .slice (some ⟨g, 0, none⟩) L c] 27)) :=
  ⟨h.alloc _, heap_alloc_new _ _, ((Ext.refl Y).alloc _).past hp, hg, h.size⟩
theorem lin_grown {B : Nat} {W7 : World} (h : Lin W O s g c L zs Y) (hb : Below B Y Z) (h7 : Lin W O s g c L zs W7) (hB : W7.heap.size ≤ B) : Lin W O s g c L zs Z :=
  ⟨Below.trans h.ext (hb.mono (Nat.le_trans h7.ext.size hB)), (hb.block _ (Nat.lt_of_lt_of_le (lt_at h7.box) hB)).trans h.box, past_belowB h.past (fun _ hg => Nat.lt_of_lt_of_le (past_lt h7.past hg) hB) hb, h.young, h.high⟩
/-- The desk is the result, at the world behind the store. -/
theorem lin_done {w : World} {t : ByteArray} (e0 : Ext w W) (h : Lin W O s g c L zs Y) (hW : W.heap.size = w.heap.size + 2) :
    LineOut w s zs t (.returned (.tuple #[.agg #[.string s, .slice (some ⟨g, 0, none⟩) L c], .string t])) ((Y.setCell ⟨w.heap.size + 1, 0, none⟩ (.string s)).setCell ⟨w.heap.size + 1, 1, none⟩ (.slice (some ⟨g, 0, none⟩) L c)) :=
  line_done (R := w.heap.size + 1) (e0.trans h.ext) h.past (fresh_ext e0 h.fresh) (fun h9 => by have e : g = _ := Option.some.inj h9; have := h.young; omega) (by omega)
theorem line_drew {w X : World} {x : ByteArray} {ys : List ByteArray} {t : ByteArray} {e : Ending} (h : LineOut w x ys t e X) : LineOut w x ys t e X.drew := by
  obtain ⟨v', he, hp, hf, hb⟩ := h
  exact ⟨v', he, Ext.past (Ext.refl X).drew hp, hf, hb.drew⟩

end Go.Proofs.YtccdfndnjjjgfaaGreatDoor

namespace Go.Proofs.YtccdfndnjjjgfaaGreatDoor
open Go.RowKit

/-- The places from the first step on are all different, up to one. -/
def Apart (l : List UInt8) (k : Nat) : Prop := ∀ i j, 1 ≤ i → i < j → j < k → Tw.placeAt l i ≠ Tw.placeAt l j
theorem apart_more {l : List UInt8} {k m : Nat} {p q : Int × Int} (h : ∀ i, 1 ≤ i → i < m → Tw.placeAt l i ≠ Tw.placeAt l k) (hp : Tw.placeAt l k = p) (hq : Tw.placeAt l m = q) (hne : ¬ p = q) (i : Nat) (h1 : 1 ≤ i) (h2 : i < m + 1) : Tw.placeAt l i ≠ Tw.placeAt l k := by
  by_cases hi : i = m
  · subst hi
    rw [hp, hq]
    exact fun e => hne e.symm
  · exact h i h1 (by omega)
theorem apart_next {l : List UInt8} {k : Nat} (h : Apart l k) (h2 : ∀ i, 1 ≤ i → i < k → Tw.placeAt l i ≠ Tw.placeAt l k) : Apart l (k + 1) := fun i j h1 hij hj => by
  by_cases hjk : j = k
  · subst hjk
    exact h2 i h1 hij
  · exact h i j h1 hij (by omega)
theorem end_start {l : List UInt8} (h : Tw.closed l = true) : Tw.placeAt l l.length = Tw.placeAt l 0 := by
  rw [Tw.placeAt_all, Tw.placeAt_zero]
  unfold Tw.closed at h
  simp at h
  exact h.2
theorem simple_dup {l : List UInt8} {i j : Nat} (h1 : 1 ≤ i) (hij : i < j) (hj : j ≤ l.length) (h : Tw.placeAt l j = Tw.placeAt l i) : Tw.simple l = false := by
  rw [Bool.eq_false_iff]
  intro hs
  have hc : Tw.closed l = true := by unfold Tw.simple at hs; simp at hs; exact hs.1
  have hr := (Tw.simple_iff hc).1 hs
  by_cases hjl : j = l.length
  · rw [hjl, end_start hc] at h
    exact hr 0 i (by omega) (by omega) h
  · exact hr i j hij (by omega) h.symm
theorem simple_apart {l : List UInt8} (h : Apart l (l.length + 1)) : Tw.simple l = Tw.closed l := by
  cases hc : Tw.closed l
  · exact Tw.simple_open hc
  · refine (Tw.simple_iff hc).2 (fun i j hij hj e => ?_)
    by_cases hi : i = 0
    · subst hi
      rw [← end_start hc] at e
      exact h j l.length (by omega) hj (by omega) e.symm
    · exact h i j (by omega) hij (by omega) e

set_option maxRecDepth 100000 in
set_option maxHeartbeats 3200000 in
theorem specSimple_is (s : ByteArray) (w : World) (hs : s.size ≤ 1048576) (hok : Tw.walkOk s.data.toList = true) :
    Calls Tryz.prog 54 #[.string s] w fun e w' => e = .returned (.bool (Tw.simple s.data.toList)) ∧ Below w.heap.size w w' := by
  have HOK := Lib.hid hok
  clear hok
  have h40 : s.size ≤ 40 := by have := Tw.walkOk_len HOK.out; rwa [size_data] at this
  obtain ⟨ps, hps⟩ : ∃ ps, Tw.places s.data.toList = ps := ⟨_, rfl⟩
  obtain ⟨n, hn⟩ : ∃ n, ps.length = n := ⟨_, rfl⟩
  have hn41 : 1 ≤ n ∧ n ≤ 41 := by rw [← hn, ← hps, Tw.places_length, size_data]; omega
  have hpa : ∀ i, i < n → ps[i]? = some (Tw.placeAt s.data.toList i) := fun i hi => by
    rw [← hps]
    exact Tw.placesTo_get? _ _ _ (by rw [← hn, ← hps, Tw.places_length] at hi; exact hi)
  have hns : n = s.data.toList.length + 1 := by rw [← hn, ← hps, Tw.places_length]
  have HPA := Lib.hid hpa
  have HNS := Lib.hid hns
  have HPS := Lib.hid hps
  have HN := Lib.hid hn
  clear hps hn hpa hns
  have hcl := fun W => specClosedOk s W hs
  obtain ⟨c, hc⟩ : ∃ c, Tw.closed s.data.toList = c := ⟨_, rfl⟩
  rw [hc] at hcl
  have HCC := Lib.hid hc
  have HCL := Lib.hid hcl
  clear hcl hc
  go_enter Tryz.func54, Tryz.ntmps54
  go_wp2_with (first
    | (go_at_call 50; refine (specPlacesOf_n _ _ hs HOK.out ps n HPS.out HN.out).mono ?_; rintro e w1 ⟨g, cap, bs, rfl, hbl, hown, hrows, hb1⟩))
  have HBL := Lib.hid hbl
  clear hbl
  have hgb := hown.lt g rfl
  have hcell : Hid (∀ (i : Nat), i < n → ∃ (p : Int × Int) (b : Nat), Tw.placeAt s.data.toList i = p ∧ b < w1.heap.size ∧ w1.cell? ⟨g, i, none⟩ = some (.slice (some ⟨b, 0, none⟩) 2 2) ∧ w1.cell? ⟨b, 0, none⟩ = some (.int .i64 p.1) ∧ w1.cell? ⟨b, 1, none⟩ = some (.int .i64 p.2)) := by
    intro i hi
    have hp : ps[i]? = some (ps[i]'(by rw [HN.out]; exact hi)) := List.getElem?_eq_getElem _
    have hbb : bs[i]? = some (bs[i]'(by rw [HBL.out]; exact hi)) := List.getElem?_eq_getElem _
    have hh := hrows i _ _ hp hbb
    have he := HPA.out i hi
    rw [hp] at he
    exact ⟨_, _, (Option.some.inj he).symm, lt_of_heap hh, row_cell hown hbb, (pair_cells hh).1, (pair_cells hh).2⟩
  clear hrows
  go_loopw [4, 5] (fun i _ wr => ∃ k : Nat, 1 ≤ k ∧ k ≤ n ∧ i = .int .i64 k ∧ Below w1.heap.size w1 wr ∧ Hid (Apart s.data.toList k)) (fun i _ _ => n - (intOf i).toNat)
  case atStart => exact ⟨1, Nat.le_refl _, by omega, rfl, Below.refl _ _, fun i j h1 h2 h3 => by omega⟩
  case round =>
    obtain ⟨k, hk1, hk, rfl, hbr, HAP⟩ := hrel
    by_cases hlt : k < n
    · go_wp2_with fail
      obtain ⟨wo, hwo⟩ : ∃ wo : World, wo = wr := ⟨_, rfl⟩
      subst hwo
      go_loopw [5] (fun j wr => ∃ m : Nat, 1 ≤ m ∧ m ≤ k ∧ j = .int .i64 m ∧ Below w1.heap.size w1 wr ∧ Hid (∀ i, 1 ≤ i → i < m → Tw.placeAt s.data.toList i ≠ Tw.placeAt s.data.toList k)) (fun j _ => k - (intOf j).toNat)
      case atStart => exact ⟨1, Nat.le_refl _, hk1, rfl, hbr, fun i h1 h2 => by omega⟩
      case round =>
        obtain ⟨m, hm1, hm, rfl, hbr2, HAM⟩ := hrel
        by_cases hlt2 : m < k
        · obtain ⟨p, b, hpk, hb, c1, c2, c3⟩ := hcell.out k hlt
          obtain ⟨q, d, hqm, hd, e1, e2, e3⟩ := hcell.out m (by omega)
          have HPK := Lib.hid hpk
          have HQM := Lib.hid hqm
          clear hpk hqm
          have C1 := (hbr2.cell (p := ⟨g, k, none⟩) hgb.2).trans c1
          have C2 := (hbr2.cell (p := ⟨b, 0, none⟩) hb).trans c2
          have C3 := (hbr2.cell (p := ⟨b, 1, none⟩) hb).trans c3
          have E1 := (hbr2.cell (p := ⟨g, m, none⟩) hgb.2).trans e1
          have E2 := (hbr2.cell (p := ⟨d, 0, none⟩) hd).trans e2
          have E3 := (hbr2.cell (p := ⟨d, 1, none⟩) hd).trans e3
          clear c1 c2 c3 e1 e2 e3
          have i1 : (0 : Int) ≤ (k : Int) := by omega
          have i2 : (k : Int) < (n : Int) := by omega
          have i3 : (0 : Int) ≤ (m : Int) := by omega
          have i4 : (m : Int) < (n : Int) := by omega
          have i5 : (m : Int) < (k : Int) := by omega
          cases hx1 : (p.1 == q.1)
          · have HNE : Hid (¬ p = q) := fun e => by rw [e] at hx1; simp at hx1
            go_wp2_with fail
            go_quiet (fail)
            go_wp2
            go_roundw
            case rel => exact ⟨m + 1, by omega, by omega, by go_num, below_drewN hbr2 _, fun i h1 h2 => apart_more HAM.out HPK.out HQM.out HNE.out i h1 h2⟩
            case measure => simp [intOf]; omega
          · cases hy1 : (p.2 == q.2)
            · have HNE : Hid (¬ p = q) := fun e => by rw [e] at hy1; simp at hy1
              go_wp2_with fail
              go_quiet (fail)
              go_wp2
              go_roundw
              case rel => exact ⟨m + 1, by omega, by omega, by go_num, below_drewN hbr2 _, fun i h1 h2 => apart_more HAM.out HPK.out HQM.out HNE.out i h1 h2⟩
              case measure => simp [intOf]; omega
            · have HEQ : Hid (p = q) := Prod.ext (beq_iff_eq.1 hx1) (beq_iff_eq.1 hy1)
              go_wp2_with fail
              go_quiet (fail)
              go_wp2
              go_ret
              exact ⟨ret_bool (simple_dup hm1 hlt2 (by have := HNS.out; omega) (by rw [HPK.out, HQM.out, HEQ.out])).symm, below_drewN (hb1.trans (hbr2.mono hb1.size)) _⟩
        · obtain rfl : m = k := by omega
          go_wp2
          go_roundw
          case rel => exact ⟨m + 1, by omega, by omega, by go_num, hbr2, apart_next HAP.out HAM.out⟩
          case measure => simp [intOf]; omega
    · obtain rfl : k = n := by omega
      go_wp2_with (first | (go_at_call 53; refine (HCL.out _).mono ?_; rintro e w2 ⟨rfl, hb2⟩))
      go_ret
      exact ⟨ret_bool (by rw [← HCC.out]; exact (simple_apart (by rw [← HNS.out]; exact HAP.out)).symm), (hb1.trans (hbr.mono hb1.size)).trans (hb2.mono (hb1.trans (hbr.mono hb1.size)).size)⟩
set_option maxHeartbeats 800000 in
theorem specSimple_eq (s : ByteArray) (w : World) (hs : s.size ≤ 1048576) (hok : Tw.walkOk s.data.toList = true) (b : Bool) (h : Tw.simple s.data.toList = b) :
    Calls Tryz.prog 54 #[.string s] w fun e w' => e = .returned (.bool b) ∧ Below w.heap.size w w' := by
  rw [← h]
  exact specSimple_is s w hs hok

end Go.Proofs.YtccdfndnjjjgfaaGreatDoor

namespace Go.Proofs.YtccdfndnjjjgfaaGreatDoor
open Go.RowKit

/-- What the loops over the squares have seen. -/
def MostSeen (us : List (Int × Int × Int)) (M X Y : Int) : Prop := (∀ x y, -20 ≤ x → x < X → -20 ≤ y → y ≤ 20 → Tw.wind us x y ≤ M ∧ -Tw.wind us x y ≤ M) ∧ (∀ y, -20 ≤ y → y < Y → Tw.wind us X y ≤ M ∧ -Tw.wind us X y ≤ M) ∧ (M = 0 ∨ ∃ x y, Tw.wind us x y = M ∨ -Tw.wind us x y = M)
theorem MostSeen.step {us : List (Int × Int × Int)} {M X Y : Int} (h : MostSeen us M X Y) : MostSeen us (max M (max (Tw.wind us X Y) (-Tw.wind us X Y))) X (Y + 1) := by
  obtain ⟨h1, h2, h3⟩ := h
  refine ⟨fun x y a b c d => ?_, fun y a b => ?_, ?_⟩
  · have := h1 x y a b c d
    clear h1 h2 h3
    omega
  · by_cases hy : y = Y
    · subst hy
      clear h1 h2 h3
      omega
    · have := h2 y a (by omega)
      clear h1 h2 h3
      omega
  · by_cases hz : max (Tw.wind us X Y) (-Tw.wind us X Y) ≤ M
    · rw [Int.max_eq_left hz]
      exact h3
    · refine .inr ⟨X, Y, ?_⟩
      clear h1 h2 h3
      omega
theorem MostSeen.next {us : List (Int × Int × Int)} {M X : Int} (h : MostSeen us M X 21) : MostSeen us M (X + 1) (-20) := by
  obtain ⟨h1, h2, h3⟩ := h
  refine ⟨fun x y a b c d => ?_, fun y a b => absurd b (by omega), h3⟩
  by_cases hx : x = X
  · subst hx
    exact h2 y c (by omega)
  · exact h1 x y a (by omega) c d

set_option maxRecDepth 100000 in
set_option maxHeartbeats 3200000 in
theorem specMost (s : ByteArray) (w : World) (hs : s.size ≤ 1048576) :
    Calls Tryz.prog 59 #[.string s] w fun e w' => e = .returned (.int .i64 (Tw.mostRes s.data.toList)) ∧ Below w.heap.size w w' := by
  have HC := Lib.hid (fun W => specClosedOk s W hs)
  cases hcl : Tw.closed s.data.toList
  · rw [hcl] at HC
    have HCL := Lib.hid hcl
    clear hcl
    go_enter Tryz.func59, Tryz.ntmps59
    go_wp2
    refine wp_loop_rounds 1 ?_
    rw [rounds_succ]
    go_wp2_with (first
      | (go_at_call 53; first
          | (refine (HC.out w).mono ?_; rintro e w1 ⟨rfl, hb1⟩)
          | (refine (HC.out w1).mono ?_; rintro e w2 ⟨rfl, hb2⟩)))
    go_ret
    exact ⟨by unfold Tw.mostRes; rw [HCL.out]; rfl, hb1.trans (hb2.mono hb1.size)⟩
  · rw [hcl] at HC
    have HCL := Lib.hid hcl
    have HMO := Lib.hid (fun m => Tw.mostRes_is (m := m) hcl)
    have HWO : Hid (∀ x y, x < -20 ∨ 20 ≤ x ∨ y < -20 ∨ 20 ≤ y → Tw.wind (Tw.ups s.data.toList) x y = 0) := fun x y h => Tw.wind_out hcl h
    have HWB : Hid (∀ x y, -40 ≤ Tw.wind (Tw.ups s.data.toList) x y ∧ Tw.wind (Tw.ups s.data.toList) x y ≤ 40) := fun x y => by
      have h1 := Tw.wind_farther (Tw.ups s.data.toList) x y Tw.ups_signs
      have h2 := Tw.ups_len s.data.toList (0, 0)
      have h3 := Tw.walkOk_len (Tw.closed_ok hcl)
      have h4 : (Tw.ups s.data.toList).length ≤ s.data.toList.length := h2
      omega
    have HWI := Lib.hid (fun x y W => specWindingOf s x y W hs hcl)
    obtain ⟨us, hus⟩ : ∃ us, Tw.ups s.data.toList = us := ⟨_, rfl⟩
    rw [hus] at HMO HWO HWB HWI
    clear hcl hus
    go_enter Tryz.func59, Tryz.ntmps59
    go_wp2
    go_loopw [3, 4, 5, 6] (fun m xv _ _ wr => ∃ M X : Int, m = .int .i64 M ∧ xv = .int .i64 X ∧ -20 ≤ X ∧ X ≤ 21 ∧ 0 ≤ M ∧ M ≤ 40 ∧ Hid (MostSeen us M X (-20)) ∧ Below w.heap.size w wr) (fun _ xv _ _ _ => (21 - intOf xv).toNat)
    case atStart => exact ⟨0, -20, rfl, rfl, by omega, by omega, by omega, by omega, ⟨fun x y a b => absurd b (by omega), fun y a b => absurd b (by omega), .inl rfl⟩, Below.refl _ _⟩
    case round =>
      obtain ⟨M, X, rfl, rfl, hX0, hX1, hM0, hM1, HS, hbr⟩ := hrel
      by_cases hlt : X ≤ 20
      · go_wp2_with (first
          | (go_at_call 53; refine (HC.out _).mono ?_; rintro e w1 ⟨rfl, hb1⟩))
        have hbr1 := hbr.trans (hb1.mono hbr.size)
        go_loopw [3, 5, 6] (fun m yv _ wq => ∃ M Y : Int, m = .int .i64 M ∧ yv = .int .i64 Y ∧ -20 ≤ Y ∧ Y ≤ 21 ∧ 0 ≤ M ∧ M ≤ 40 ∧ Hid (MostSeen us M X Y) ∧ Below w.heap.size w wq) (fun _ yv _ _ => (21 - intOf yv).toNat)
        case atStart => exact ⟨M, -20, rfl, rfl, by omega, by omega, hM0, hM1, HS, hbr1⟩
        case round =>
          obtain ⟨M2, Y, rfl, rfl, hY0, hY1, hN0, hN1, HQ, hbq⟩ := hrel
          by_cases hlt2 : Y ≤ 20
          · have hwb := HWB.out X Y
            have hst := HQ.out.step
            have hwi := HWI.out X Y
            obtain ⟨v, hv⟩ : ∃ v, Tw.wind us X Y = v := ⟨_, rfl⟩
            rw [hv] at hwb hst hwi
            have HST := Lib.hid hst
            have HWV := Lib.hid hwi
            clear hst hwi hv
            go_wp2_with (first
              | (go_at_call 108; refine (HWV.out _).mono ?_; rintro e w2 ⟨rfl, hb2⟩))
            go_roundw
            case rel => exact ⟨max M2 (max v (-v)), Y + 1, rfl, rfl, by omega, by omega, by omega, by omega, HST, hbq.trans (hb2.mono hbq.size)⟩
            case measure => simp [intOf]; omega
          · obtain rfl : Y = 21 := by omega
            go_wp2_with fail
            go_roundw
            case rel => exact ⟨M2, X + 1, rfl, rfl, by omega, by omega, hN0, hN1, HQ.out.next, hbq⟩
            case measure => simp [intOf]; omega
      · obtain rfl : X = 21 := by omega
        go_wp2_with (first
          | (go_at_call 53; refine (HC.out _).mono ?_; rintro e w1 ⟨rfl, hb1⟩))
        go_ret
        refine ⟨?_, hbr.trans (hb1.mono hbr.size)⟩
        have hmost : Tw.Most us M := by
          refine ⟨hM0, fun x y => ?_, HS.out.2.2⟩
          by_cases hxy : x < -20 ∨ 20 ≤ x ∨ y < -20 ∨ 20 ≤ y
          · rw [HWO.out x y hxy]
            omega
          · exact HS.out.1 x y (by omega) (by omega) (by omega) (by omega)
        rw [HMO.out M hmost]
        rfl

set_option maxRecDepth 100000 in
set_option maxHeartbeats 3200000 in
theorem specSquares (s : ByteArray) (w : World) (hs : s.size ≤ 1048576) (hok : Tw.walkOk s.data.toList = true) :
    Calls Tryz.prog 60 #[.string s] w fun e w' => e = .returned (.int .i64 (Tw.squaresRes s.data.toList)) ∧ Below w.heap.size w w' := by
  have hc := specSimple_is s w hs hok
  cases hsm : Tw.simple s.data.toList
  · rw [hsm] at hc
    have HC := Lib.hid hc
    have HSM := Lib.hid hsm
    clear hc hsm
    go_enter Tryz.func60, Tryz.ntmps60
    go_wp2_with (first
      | (go_at_call 54; refine HC.out.mono ?_; rintro e w1 ⟨rfl, hb1⟩))
    go_ret
    exact ⟨by unfold Tw.squaresRes; rw [HSM.out]; rfl, hb1⟩
  · rw [hsm] at hc
    have HC := Lib.hid hc
    have HSR : Hid (Tw.squaresRes s.data.toList = (Tw.inside s.data.toList : Int)) := by show _ = _; unfold Tw.squaresRes; rw [if_pos hsm]
    have HWI := Lib.hid (fun x y W => specWithin s x y W hok)
    obtain ⟨us, hus⟩ : ∃ us, Tw.ups s.data.toList = us := ⟨_, rfl⟩
    have HIN : Hid (Tw.inside s.data.toList = Tw.sumTo (-40) 81 (fun x => Tw.sumTo (-40) 81 (fun y => Tw.odd1 us x y))) := by show _ = _; unfold Tw.inside; rw [hus]
    have HB1 : Hid (∀ x (j : Nat), j ≤ 81 → Tw.sumTo (-40) j (fun y => Tw.odd1 us x y) ≤ 81) := fun x j hj => by
      have := Tw.sumTo_le (a := -40) (n := j) (f := fun y => Tw.odd1 us x y) (c := 1) (fun y => by show Tw.farther _ _ _ % 2 ≤ 1; omega)
      omega
    have HB2 : Hid (∀ (i : Nat), i ≤ 81 → Tw.sumTo (-40) i (fun x => Tw.sumTo (-40) 81 (fun y => Tw.odd1 us x y)) ≤ 6561) := fun i hi => by
      have := Tw.sumTo_le (a := -40) (n := i) (f := fun x => Tw.sumTo (-40) 81 (fun y => Tw.odd1 us x y)) (c := 81) (fun x => HB1.out x 81 (by omega))
      omega
    rw [hus] at HWI
    clear hc hsm hus
    go_enter Tryz.func60, Tryz.ntmps60
    go_wp2_with (first
      | (go_at_call 54; refine HC.out.mono ?_; rintro e w1 ⟨rfl, hb1⟩))
    go_loop [3, 4, 5] (fun nv xv _ => ∃ (m i : Nat), nv = .int .i64 m ∧ xv = .int .i64 ((i : Int) - 40) ∧ i ≤ 81 ∧ m ≤ 10000 ∧ Hid (Tw.sumTo (-40) i (fun x => Tw.sumTo (-40) 81 (fun y => Tw.odd1 us x y)) = m)) (fun _ xv _ => (41 - intOf xv).toNat)
    case atStart => exact ⟨0, 0, rfl, rfl, by omega, by omega, rfl⟩
    case round =>
      obtain ⟨m, i, rfl, rfl, hi, hm, HM⟩ := hrel
      obtain ⟨X, hX⟩ : ∃ X : Int, (i : Int) - 40 = X := ⟨_, rfl⟩
      rw [hX]
      by_cases hlt : X ≤ 40
      · have hX0 : -40 ≤ X := by omega
        have HX := Lib.hid hX
        clear hX
        go_wp2_with fail
        go_loop [3, 5] (fun nv yv => ∃ (m2 j : Nat) (Y : Int), nv = .int .i64 m2 ∧ yv = .int .i64 Y ∧ Hid ((j : Int) - 40 = Y) ∧ -40 ≤ Y ∧ Y ≤ 41 ∧ m2 ≤ 10000 ∧ Hid (m + Tw.sumTo (-40) j (fun y => Tw.odd1 us X y) = m2)) (fun _ yv => (41 - intOf yv).toNat)
        case atStart => exact ⟨m, 0, -40, rfl, rfl, by show _ = _; omega, by omega, by omega, hm, rfl⟩
        case round =>
          obtain ⟨m2, j, Y, rfl, rfl, HY, hY0, hY1, hm2, HM2⟩ := hrel
          by_cases hlt2 : Y ≤ 40
          · have hwi := HWI.out X Y
            have hb := HB1.out X (j + 1) (by have := HY.out; omega)
            have hb2 := HB2.out i hi
            rw [HM.out] at hb2
            have hsu : Tw.sumTo (-40) (j + 1) (fun y => Tw.odd1 us X y) = Tw.sumTo (-40) j (fun y => Tw.odd1 us X y) + Tw.odd1 us X Y := by
              show Tw.sumTo (-40) j (fun y => Tw.odd1 us X y) + Tw.odd1 us X (-40 + (j : Int)) = _
              rw [show -40 + (j : Int) = Y from by have := HY.out; omega]
            rw [hsu] at hb
            have hm2' := HM2.out
            obtain ⟨o, ho⟩ : ∃ o, Tw.odd1 us X Y = o := ⟨_, rfl⟩
            have ho2 : o = 0 ∨ o = 1 := by rw [← ho]; show Tw.farther _ _ _ % 2 = 0 ∨ Tw.farther _ _ _ % 2 = 1; omega
            rw [ho] at hwi hb hsu
            have HSU := Lib.hid hsu
            have HWV := Lib.hid hwi
            have hmb : m2 + o ≤ 10000 := by omega
            clear hwi hb hb2 hsu hm2' ho
            rcases ho2 with rfl | rfl
            · go_wp2_with (first
                | (go_at_call 109; refine (HWV.out _).mono ?_; rintro e w2 ⟨rfl, rfl⟩))
              go_round
              case rel => exact ⟨m2, j + 1, Y + 1, rfl, rfl, by show _ = _; have := HY.out; omega, by omega, by omega, hm2, by show _ = _; rw [HSU.out]; exact HM2.out⟩
              case measure => simp [intOf]; omega
            · go_wp2_with (first
                | (go_at_call 109; refine (HWV.out _).mono ?_; rintro e w2 ⟨rfl, rfl⟩))
              go_round
              case rel => exact ⟨m2 + 1, j + 1, Y + 1, by go_num, rfl, by show _ = _; have := HY.out; omega, by omega, by omega, by omega, by show _ = _; rw [HSU.out, ← Nat.add_assoc, HM2.out]⟩
              case measure => simp [intOf]; omega
          · obtain rfl : Y = 41 := by omega
            obtain rfl : j = 81 := by have := HY.out; omega
            go_wp2_with fail
            go_round
            case rel =>
              refine ⟨m2, i + 1, rfl, ?_, by have := HX.out; omega, hm2, ?_⟩
              · have := HX.out
                exact congrArg (Value.int .i64) (by omega)
              · show Tw.sumTo (-40) i (fun x => Tw.sumTo (-40) 81 (fun y => Tw.odd1 us x y)) + Tw.sumTo (-40) 81 (fun y => Tw.odd1 us (-40 + (i : Int)) y) = m2
                rw [HM.out, show -40 + (i : Int) = X from by have := HX.out; omega]
                exact HM2.out
            case measure => simp [intOf]; omega
      · obtain rfl : i = 81 := by omega
        obtain rfl : X = 41 := by omega
        clear hX
        go_wp2_with fail
        go_ret
        refine ⟨?_, hb1⟩
        rw [HSR.out, HIN.out, HM.out]
        rfl

end Go.Proofs.YtccdfndnjjjgfaaGreatDoor

namespace Go.Proofs.YtccdfndnjjjgfaaGreatDoor
open Go.RowKit

set_option maxRecDepth 100000 in
set_option maxHeartbeats 1600000 in
theorem specLine_0 (s : ByteArray) (a : Option Addr) (c L : Nat) (zs : List ByteArray) (X : ByteArray) (w : World) (h : StrsAt w (.slice a L c) zs) (HL : Hid (zs.length = L)) (hok : Hid (deskOk s zs = true)) (hX : X.size ≤ 1048576) (hr : Hid (readOf X.data.toList = ((0, 0), false))) (hXe : X = ⟨#[119, 97, 108, 107]⟩) :
    Calls Tryz.prog 22 #[.agg #[.string s, .slice a L c], .string X] w (LineOut w s zs (askText 0 s)) := by
  have q0 : (X.toList == [119, 97, 108, 107]) = true := by rw [Lib.toList_data, hXe]; decide
  obtain ⟨h1, h8, hz⟩ := deskOk_parts hok.out
  have h40 : s.size ≤ 40 := by have := Tw.walkOk_len h1; rwa [size_data] at this
  obtain ⟨e0, hsz, r0, r1⟩ := desk2_in w s (.slice a L c)
  obtain ⟨W, hW⟩ : ∃ W, deskBox2 w s (.slice a L c) = W := ⟨_, rfl⟩
  rw [hW] at e0 hsz r0 r1
  unfold deskBox2 at hW
  have HW := Lib.hid hW
  have HDK := Lib.hid (deskOk_named s (.slice a L c) zs W (e0.strs h) (by have := ok_size h1; omega) (by omega) (fun z hz9 => by have := ok_size (hz z hz9); omega) true hok.out)
  have HRD : Hid (∀ Y : World, Calls Tryz.prog 48 #[.string X] Y fun e w' => e = .returned (.tuple #[.agg #[.int .i64 0, .int .i64 0], .bool false]) ∧ Below Y.heap.size Y w') := fun Y => by
    refine (specReadDeed X Y hX).mono ?_
    rintro e w' ⟨he, hb⟩
    rw [hr.out] at he
    exact ⟨he, hb⟩
  have HCP : Hid (∀ Y, Ext W Y → Calls Tryz.prog 38 #[.agg #[.string s, .slice a L c]] Y fun e w' => ∃ g2 c2, e = .returned (.agg #[.string s, .slice (some ⟨g2, 0, none⟩) L c2]) ∧ PastAt w' (.slice (some ⟨g2, 0, none⟩) L c2) zs ∧ W.heap.size ≤ g2 ∧ Ext W w') := fun Y hY => by
    refine (copy_named s (.slice a L c) zs Y ((e0.trans hY).strs h) L HL.out (by have := HL.out; omega)).mono ?_
    rintro e w' ⟨g2, c2, he, hown2, hp2, hb2⟩
    exact ⟨g2, c2, he, hp2, by have := (hown2.lt g2 rfl).1; have := hY.size; omega, hY.call hb2⟩
  have R0 := Lib.hid r0
  have R1 := Lib.hid r1
  have E0 := Lib.hid e0
  have c0 := cell_of_row _ _ 0 _ _ _ r0
  have c1 := cell_of_row _ _ 1 _ _ _ r0
  have HWS := Lib.hid hsz
  have hs : s.size ≤ 1048576 := by omega
  have f9 : ¬ 9223372036854775807 < 1 + s.size := by omega
  have HT : Hid (askText 0 s = ⟨#[58]⟩ ++ s) := rfl
  obtain ⟨t, ht⟩ : ∃ t, askText 0 s = t := ⟨_, rfl⟩
  rw [ht] at HT ⊢
  clear hW r0 r1 h hz h1 h8 e0 hsz hXe ht
  go_enter Tryz.func22, Tryz.ntmps22
  go_wp2_with fail
  rw [HW.out]
  go_upto_region 13 with (first
    | (go_at_call 24; refine HDK.out.mono ?_; rintro e w1 ⟨rfl, hb1⟩; have E1 : Ext W w1 := hb1; have hr1 := E1.row R0.out; have k0 := cell_of_row _ _ 0 _ _ _ hr1; have k1 := cell_of_row _ _ 1 _ _ _ hr1; clear hb1 hr1)
    | (go_at_call 38; refine (HCP.out w1 E1).mono ?_; rintro e w2 ⟨g2, c2, rfl, hp2, hg2, E2⟩; have hO : w.heap.size + 1 < w2.heap.size := (by have h8 := E2.size; have h9 := HWS.out; omega); have l3 := lin_new (x := s) E2 hp2 hg2; clear hp2 hg2)
    | (go_at_call 48; refine (HRD.out _).mono ?_; rintro e w4 ⟨rfl, hb4⟩; have l4 := (l3.call hb4).alloc (.cells #[.int .i64 0, .int .i64 0] 53); have hr4 := l4.ext.row R0.out; have l0 := cell_of_row _ _ 0 _ _ _ hr4; have hrr := l4.ext.row R1.out; have f0 := frozen_of_row _ _ 0 _ _ hrr; have f1 := frozen_of_row _ _ 1 _ _ hrr; have m0 := cell_of_row _ _ 0 _ _ _ hrr; have m1 := cell_of_row _ _ 1 _ _ _ hrr; have n0 := l4.cells.1; have n1 := l4.cells.2; have qq := pair_put hrr (.string s) (.slice (some ⟨g2, 0, none⟩) L c2); have rq0 := cell_of_row _ _ 0 _ _ _ qq; have rq1 := cell_of_row _ _ 1 _ _ _ qq; clear hrr qq; clear hb4 hr4))
  have HT2 : t = ⟨#[58]⟩ ++ s := HT.out
  subst HT2
  go_wp2
  refine bodyPost_ret (v := .tuple #[.agg #[.string s, .slice (some ⟨g2, 0, none⟩) L c2], .string (⟨#[58]⟩ ++ s)]) (by simp [results, Tryz.results22, go_sem, rq0, rq1]) rfl ?_
  exact lin_done E0.out l4 HWS.out
set_option maxRecDepth 100000 in
set_option maxHeartbeats 1600000 in
theorem specLine_2 (s : ByteArray) (a : Option Addr) (c L : Nat) (zs : List ByteArray) (X : ByteArray) (w : World) (h : StrsAt w (.slice a L c) zs) (HL : Hid (zs.length = L)) (hok : Hid (deskOk s zs = true)) (hX : X.size ≤ 1048576) (hr : Hid (readOf X.data.toList = ((0, 0), false))) (hXe : X = ⟨#[99, 108, 111, 115, 101, 100]⟩) :
    Calls Tryz.prog 22 #[.agg #[.string s, .slice a L c], .string X] w (LineOut w s zs (askText 2 s)) := by
  have q0 : (X.toList == [119, 97, 108, 107]) = false := by rw [Lib.toList_data, hXe]; decide
  have q1 : (X.toList == [101, 110, 100]) = false := by rw [Lib.toList_data, hXe]; decide
  have q2 : (X.toList == [99, 108, 111, 115, 101, 100]) = true := by rw [Lib.toList_data, hXe]; decide
  obtain ⟨h1, h8, hz⟩ := deskOk_parts hok.out
  have h40 : s.size ≤ 40 := by have := Tw.walkOk_len h1; rwa [size_data] at this
  obtain ⟨e0, hsz, r0, r1⟩ := desk2_in w s (.slice a L c)
  obtain ⟨W, hW⟩ : ∃ W, deskBox2 w s (.slice a L c) = W := ⟨_, rfl⟩
  rw [hW] at e0 hsz r0 r1
  unfold deskBox2 at hW
  have HW := Lib.hid hW
  have HDK := Lib.hid (deskOk_named s (.slice a L c) zs W (e0.strs h) (by have := ok_size h1; omega) (by omega) (fun z hz9 => by have := ok_size (hz z hz9); omega) true hok.out)
  have HRD : Hid (∀ Y : World, Calls Tryz.prog 48 #[.string X] Y fun e w' => e = .returned (.tuple #[.agg #[.int .i64 0, .int .i64 0], .bool false]) ∧ Below Y.heap.size Y w') := fun Y => by
    refine (specReadDeed X Y hX).mono ?_
    rintro e w' ⟨he, hb⟩
    rw [hr.out] at he
    exact ⟨he, hb⟩
  have HCP : Hid (∀ Y, Ext W Y → Calls Tryz.prog 38 #[.agg #[.string s, .slice a L c]] Y fun e w' => ∃ g2 c2, e = .returned (.agg #[.string s, .slice (some ⟨g2, 0, none⟩) L c2]) ∧ PastAt w' (.slice (some ⟨g2, 0, none⟩) L c2) zs ∧ W.heap.size ≤ g2 ∧ Ext W w') := fun Y hY => by
    refine (copy_named s (.slice a L c) zs Y ((e0.trans hY).strs h) L HL.out (by have := HL.out; omega)).mono ?_
    rintro e w' ⟨g2, c2, he, hown2, hp2, hb2⟩
    exact ⟨g2, c2, he, hp2, by have := (hown2.lt g2 rfl).1; have := hY.size; omega, hY.call hb2⟩
  have R0 := Lib.hid r0
  have R1 := Lib.hid r1
  have E0 := Lib.hid e0
  have c0 := cell_of_row _ _ 0 _ _ _ r0
  have c1 := cell_of_row _ _ 1 _ _ _ r0
  have HWS := Lib.hid hsz
  have hs : s.size ≤ 1048576 := by omega
  have hc := fun Y => specClosedOk s Y hs
  obtain ⟨b, hb⟩ : ∃ b, Tw.closed s.data.toList = b := ⟨_, rfl⟩
  have HT : Hid (askText 2 s = yesText b) := by show _ = _; rw [← hb]; rfl
  simp only [hb] at hc
  have HC := Lib.hid hc
  have hy := l12Yes_any b
  obtain ⟨t, ht⟩ : ∃ t, askText 2 s = t := ⟨_, rfl⟩
  rw [ht] at HT ⊢
  clear hW r0 r1 h hz h1 h8 e0 hsz hXe ht hc hb
  go_enter Tryz.func22, Tryz.ntmps22
  go_wp2_with fail
  rw [HW.out]
  go_upto_region 19 with (first
    | (go_at_call 24; refine HDK.out.mono ?_; rintro e w1 ⟨rfl, hb1⟩; have E1 : Ext W w1 := hb1; have hr1 := E1.row R0.out; have k0 := cell_of_row _ _ 0 _ _ _ hr1; have k1 := cell_of_row _ _ 1 _ _ _ hr1; clear hb1 hr1)
    | (go_at_call 38; refine (HCP.out w1 E1).mono ?_; rintro e w2 ⟨g2, c2, rfl, hp2, hg2, E2⟩; have hO : w.heap.size + 1 < w2.heap.size := (by have h8 := E2.size; have h9 := HWS.out; omega); have l3 := lin_new (x := s) E2 hp2 hg2; clear hp2 hg2)
    | (go_at_call 48; refine (HRD.out _).mono ?_; rintro e w4 ⟨rfl, hb4⟩; have l4 := (l3.call hb4).alloc (.cells #[.int .i64 0, .int .i64 0] 53); have hr4 := l4.ext.row R0.out; have l0 := cell_of_row _ _ 0 _ _ _ hr4; have hrr := l4.ext.row R1.out; have f0 := frozen_of_row _ _ 0 _ _ hrr; have f1 := frozen_of_row _ _ 1 _ _ hrr; have m0 := cell_of_row _ _ 0 _ _ _ hrr; have m1 := cell_of_row _ _ 1 _ _ _ hrr; have n0 := l4.cells.1; have n1 := l4.cells.2; have qq := pair_put hrr (.string s) (.slice (some ⟨g2, 0, none⟩) L c2); have rq0 := cell_of_row _ _ 0 _ _ _ qq; have rq1 := cell_of_row _ _ 1 _ _ _ qq; clear hrr qq; clear hb4 hr4))
  have HT2 : yesText b = t := HT.out.symm
  rw [HT2] at hy
  have HY := Lib.hid hy
  clear hy HT2
  go_region_held3 (fun w' => w'.cell? ⟨w2.heap.size, 0, none⟩ = some (.string s) ∧ w'.cell? ⟨w2.heap.size, 1, none⟩ = some (.slice (some ⟨g2, 0, none⟩) L c2))
    (first
      | exact Lin.cells (by assumption)
      | exact (Lin.drew (by assumption)).cells
      | exact other_cells (by omega) (Lin.cells (by assumption)).1 (Lin.cells (by assumption)).2)
    (first
      | (go_at_call 52; refine (HY.out _).mono ?_; rintro e wB ⟨rfl, rfl⟩)
      | (go_at_call 53; refine (HC.out _).mono ?_; rintro e wA ⟨rfl, hbA⟩; have lA : Lin W w2.heap.size s g2 c2 L zs wA := Lin.call (by first | assumption | exact Lin.drew (by assumption)) hbA; have hrr := lA.ext.row R1.out; have f0 := frozen_of_row _ _ 0 _ _ hrr; have f1 := frozen_of_row _ _ 1 _ _ hrr; have m0 := cell_of_row _ _ 0 _ _ _ hrr; have m1 := cell_of_row _ _ 1 _ _ _ hrr; have n0 := lA.cells.1; have n1 := lA.cells.2; have qq := pair_put hrr (.string s) (.slice (some ⟨g2, 0, none⟩) L c2); have rq0 := cell_of_row _ _ 0 _ _ _ qq; have rq1 := cell_of_row _ _ 1 _ _ _ qq; clear hrr qq))
  all_goals
    go_wp2
    refine bodyPost_ret (v := .tuple #[.agg #[.string s, .slice (some ⟨g2, 0, none⟩) L c2], .string t]) (by simp [results, Tryz.results22, go_sem, rq0, rq1]) rfl ?_
    exact lin_done E0.out (by first | assumption | exact Lin.drew (by assumption)) HWS.out
set_option maxRecDepth 100000 in
set_option maxHeartbeats 1600000 in
theorem specLine_3 (s : ByteArray) (a : Option Addr) (c L : Nat) (zs : List ByteArray) (X : ByteArray) (w : World) (h : StrsAt w (.slice a L c) zs) (HL : Hid (zs.length = L)) (hok : Hid (deskOk s zs = true)) (hX : X.size ≤ 1048576) (hr : Hid (readOf X.data.toList = ((0, 0), false))) (hXe : X = ⟨#[115, 105, 109, 112, 108, 101]⟩) :
    Calls Tryz.prog 22 #[.agg #[.string s, .slice a L c], .string X] w (LineOut w s zs (askText 3 s)) := by
  have q0 : (X.toList == [119, 97, 108, 107]) = false := by rw [Lib.toList_data, hXe]; decide
  have q1 : (X.toList == [101, 110, 100]) = false := by rw [Lib.toList_data, hXe]; decide
  have q2 : (X.toList == [99, 108, 111, 115, 101, 100]) = false := by rw [Lib.toList_data, hXe]; decide
  have q3 : (X.toList == [115, 105, 109, 112, 108, 101]) = true := by rw [Lib.toList_data, hXe]; decide
  obtain ⟨h1, h8, hz⟩ := deskOk_parts hok.out
  have h40 : s.size ≤ 40 := by have := Tw.walkOk_len h1; rwa [size_data] at this
  obtain ⟨e0, hsz, r0, r1⟩ := desk2_in w s (.slice a L c)
  obtain ⟨W, hW⟩ : ∃ W, deskBox2 w s (.slice a L c) = W := ⟨_, rfl⟩
  rw [hW] at e0 hsz r0 r1
  unfold deskBox2 at hW
  have HW := Lib.hid hW
  have HDK := Lib.hid (deskOk_named s (.slice a L c) zs W (e0.strs h) (by have := ok_size h1; omega) (by omega) (fun z hz9 => by have := ok_size (hz z hz9); omega) true hok.out)
  have HRD : Hid (∀ Y : World, Calls Tryz.prog 48 #[.string X] Y fun e w' => e = .returned (.tuple #[.agg #[.int .i64 0, .int .i64 0], .bool false]) ∧ Below Y.heap.size Y w') := fun Y => by
    refine (specReadDeed X Y hX).mono ?_
    rintro e w' ⟨he, hb⟩
    rw [hr.out] at he
    exact ⟨he, hb⟩
  have HCP : Hid (∀ Y, Ext W Y → Calls Tryz.prog 38 #[.agg #[.string s, .slice a L c]] Y fun e w' => ∃ g2 c2, e = .returned (.agg #[.string s, .slice (some ⟨g2, 0, none⟩) L c2]) ∧ PastAt w' (.slice (some ⟨g2, 0, none⟩) L c2) zs ∧ W.heap.size ≤ g2 ∧ Ext W w') := fun Y hY => by
    refine (copy_named s (.slice a L c) zs Y ((e0.trans hY).strs h) L HL.out (by have := HL.out; omega)).mono ?_
    rintro e w' ⟨g2, c2, he, hown2, hp2, hb2⟩
    exact ⟨g2, c2, he, hp2, by have := (hown2.lt g2 rfl).1; have := hY.size; omega, hY.call hb2⟩
  have R0 := Lib.hid r0
  have R1 := Lib.hid r1
  have E0 := Lib.hid e0
  have c0 := cell_of_row _ _ 0 _ _ _ r0
  have c1 := cell_of_row _ _ 1 _ _ _ r0
  have HWS := Lib.hid hsz
  have hs : s.size ≤ 1048576 := by omega
  have hc := fun Y => specSimple_is s Y hs h1
  obtain ⟨b, hb⟩ : ∃ b, Tw.simple s.data.toList = b := ⟨_, rfl⟩
  have HT : Hid (askText 3 s = yesText b) := by show _ = _; rw [← hb]; rfl
  simp only [hb] at hc
  have HC := Lib.hid hc
  have hy := l12Yes_any b
  obtain ⟨t, ht⟩ : ∃ t, askText 3 s = t := ⟨_, rfl⟩
  rw [ht] at HT ⊢
  clear hW r0 r1 h hz h1 h8 e0 hsz hXe ht hc hb
  go_enter Tryz.func22, Tryz.ntmps22
  go_wp2_with fail
  rw [HW.out]
  go_upto_region 21 with (first
    | (go_at_call 24; refine HDK.out.mono ?_; rintro e w1 ⟨rfl, hb1⟩; have E1 : Ext W w1 := hb1; have hr1 := E1.row R0.out; have k0 := cell_of_row _ _ 0 _ _ _ hr1; have k1 := cell_of_row _ _ 1 _ _ _ hr1; clear hb1 hr1)
    | (go_at_call 38; refine (HCP.out w1 E1).mono ?_; rintro e w2 ⟨g2, c2, rfl, hp2, hg2, E2⟩; have hO : w.heap.size + 1 < w2.heap.size := (by have h8 := E2.size; have h9 := HWS.out; omega); have l3 := lin_new (x := s) E2 hp2 hg2; clear hp2 hg2)
    | (go_at_call 48; refine (HRD.out _).mono ?_; rintro e w4 ⟨rfl, hb4⟩; have l4 := (l3.call hb4).alloc (.cells #[.int .i64 0, .int .i64 0] 53); have hr4 := l4.ext.row R0.out; have l0 := cell_of_row _ _ 0 _ _ _ hr4; have hrr := l4.ext.row R1.out; have f0 := frozen_of_row _ _ 0 _ _ hrr; have f1 := frozen_of_row _ _ 1 _ _ hrr; have m0 := cell_of_row _ _ 0 _ _ _ hrr; have m1 := cell_of_row _ _ 1 _ _ _ hrr; have n0 := l4.cells.1; have n1 := l4.cells.2; have qq := pair_put hrr (.string s) (.slice (some ⟨g2, 0, none⟩) L c2); have rq0 := cell_of_row _ _ 0 _ _ _ qq; have rq1 := cell_of_row _ _ 1 _ _ _ qq; clear hrr qq; clear hb4 hr4))
  have HT2 : yesText b = t := HT.out.symm
  rw [HT2] at hy
  have HY := Lib.hid hy
  clear hy HT2
  go_region_held3 (fun w' => w'.cell? ⟨w2.heap.size, 0, none⟩ = some (.string s) ∧ w'.cell? ⟨w2.heap.size, 1, none⟩ = some (.slice (some ⟨g2, 0, none⟩) L c2))
    (first
      | exact Lin.cells (by assumption)
      | exact (Lin.drew (by assumption)).cells
      | exact other_cells (by omega) (Lin.cells (by assumption)).1 (Lin.cells (by assumption)).2)
    (first
      | (go_at_call 52; refine (HY.out _).mono ?_; rintro e wB ⟨rfl, rfl⟩)
      | (go_at_call 54; refine (HC.out _).mono ?_; rintro e wA ⟨rfl, hbA⟩; have lA : Lin W w2.heap.size s g2 c2 L zs wA := Lin.call (by first | assumption | exact Lin.drew (by assumption)) hbA; have hrr := lA.ext.row R1.out; have f0 := frozen_of_row _ _ 0 _ _ hrr; have f1 := frozen_of_row _ _ 1 _ _ hrr; have m0 := cell_of_row _ _ 0 _ _ _ hrr; have m1 := cell_of_row _ _ 1 _ _ _ hrr; have n0 := lA.cells.1; have n1 := lA.cells.2; have qq := pair_put hrr (.string s) (.slice (some ⟨g2, 0, none⟩) L c2); have rq0 := cell_of_row _ _ 0 _ _ _ qq; have rq1 := cell_of_row _ _ 1 _ _ _ qq; clear hrr qq))
  all_goals
    go_wp2
    refine bodyPost_ret (v := .tuple #[.agg #[.string s, .slice (some ⟨g2, 0, none⟩) L c2], .string t]) (by simp [results, Tryz.results22, go_sem, rq0, rq1]) rfl ?_
    exact lin_done E0.out (by first | assumption | exact Lin.drew (by assumption)) HWS.out
set_option maxRecDepth 100000 in
set_option maxHeartbeats 1600000 in
theorem specLine_4 (s : ByteArray) (a : Option Addr) (c L : Nat) (zs : List ByteArray) (X : ByteArray) (w : World) (h : StrsAt w (.slice a L c) zs) (HL : Hid (zs.length = L)) (hok : Hid (deskOk s zs = true)) (hX : X.size ≤ 1048576) (hr : Hid (readOf X.data.toList = ((0, 0), false))) (hXe : X = ⟨#[97, 118, 111, 105, 100, 115]⟩) :
    Calls Tryz.prog 22 #[.agg #[.string s, .slice a L c], .string X] w (LineOut w s zs (askText 4 s)) := by
  have q0 : (X.toList == [119, 97, 108, 107]) = false := by rw [Lib.toList_data, hXe]; decide
  have q1 : (X.toList == [101, 110, 100]) = false := by rw [Lib.toList_data, hXe]; decide
  have q2 : (X.toList == [99, 108, 111, 115, 101, 100]) = false := by rw [Lib.toList_data, hXe]; decide
  have q3 : (X.toList == [115, 105, 109, 112, 108, 101]) = false := by rw [Lib.toList_data, hXe]; decide
  have q4 : (X.toList == [97, 118, 111, 105, 100, 115]) = true := by rw [Lib.toList_data, hXe]; decide
  obtain ⟨h1, h8, hz⟩ := deskOk_parts hok.out
  have h40 : s.size ≤ 40 := by have := Tw.walkOk_len h1; rwa [size_data] at this
  obtain ⟨e0, hsz, r0, r1⟩ := desk2_in w s (.slice a L c)
  obtain ⟨W, hW⟩ : ∃ W, deskBox2 w s (.slice a L c) = W := ⟨_, rfl⟩
  rw [hW] at e0 hsz r0 r1
  unfold deskBox2 at hW
  have HW := Lib.hid hW
  have HDK := Lib.hid (deskOk_named s (.slice a L c) zs W (e0.strs h) (by have := ok_size h1; omega) (by omega) (fun z hz9 => by have := ok_size (hz z hz9); omega) true hok.out)
  have HRD : Hid (∀ Y : World, Calls Tryz.prog 48 #[.string X] Y fun e w' => e = .returned (.tuple #[.agg #[.int .i64 0, .int .i64 0], .bool false]) ∧ Below Y.heap.size Y w') := fun Y => by
    refine (specReadDeed X Y hX).mono ?_
    rintro e w' ⟨he, hb⟩
    rw [hr.out] at he
    exact ⟨he, hb⟩
  have HCP : Hid (∀ Y, Ext W Y → Calls Tryz.prog 38 #[.agg #[.string s, .slice a L c]] Y fun e w' => ∃ g2 c2, e = .returned (.agg #[.string s, .slice (some ⟨g2, 0, none⟩) L c2]) ∧ PastAt w' (.slice (some ⟨g2, 0, none⟩) L c2) zs ∧ W.heap.size ≤ g2 ∧ Ext W w') := fun Y hY => by
    refine (copy_named s (.slice a L c) zs Y ((e0.trans hY).strs h) L HL.out (by have := HL.out; omega)).mono ?_
    rintro e w' ⟨g2, c2, he, hown2, hp2, hb2⟩
    exact ⟨g2, c2, he, hp2, by have := (hown2.lt g2 rfl).1; have := hY.size; omega, hY.call hb2⟩
  have R0 := Lib.hid r0
  have R1 := Lib.hid r1
  have E0 := Lib.hid e0
  have c0 := cell_of_row _ _ 0 _ _ _ r0
  have c1 := cell_of_row _ _ 1 _ _ _ r0
  have HWS := Lib.hid hsz
  have hs : s.size ≤ 1048576 := by omega
  have hc := fun Y => specAvoidsOk s Y hs
  obtain ⟨b, hb⟩ : ∃ b, Tw.avoids s.data.toList = b := ⟨_, rfl⟩
  have HT : Hid (askText 4 s = yesText b) := by show _ = _; rw [← hb]; rfl
  simp only [hb] at hc
  have HC := Lib.hid hc
  have hy := l12Yes_any b
  obtain ⟨t, ht⟩ : ∃ t, askText 4 s = t := ⟨_, rfl⟩
  rw [ht] at HT ⊢
  clear hW r0 r1 h hz h1 h8 e0 hsz hXe ht hc hb
  go_enter Tryz.func22, Tryz.ntmps22
  go_wp2_with fail
  rw [HW.out]
  go_upto_region 23 with (first
    | (go_at_call 24; refine HDK.out.mono ?_; rintro e w1 ⟨rfl, hb1⟩; have E1 : Ext W w1 := hb1; have hr1 := E1.row R0.out; have k0 := cell_of_row _ _ 0 _ _ _ hr1; have k1 := cell_of_row _ _ 1 _ _ _ hr1; clear hb1 hr1)
    | (go_at_call 38; refine (HCP.out w1 E1).mono ?_; rintro e w2 ⟨g2, c2, rfl, hp2, hg2, E2⟩; have hO : w.heap.size + 1 < w2.heap.size := (by have h8 := E2.size; have h9 := HWS.out; omega); have l3 := lin_new (x := s) E2 hp2 hg2; clear hp2 hg2)
    | (go_at_call 48; refine (HRD.out _).mono ?_; rintro e w4 ⟨rfl, hb4⟩; have l4 := (l3.call hb4).alloc (.cells #[.int .i64 0, .int .i64 0] 53); have hr4 := l4.ext.row R0.out; have l0 := cell_of_row _ _ 0 _ _ _ hr4; have hrr := l4.ext.row R1.out; have f0 := frozen_of_row _ _ 0 _ _ hrr; have f1 := frozen_of_row _ _ 1 _ _ hrr; have m0 := cell_of_row _ _ 0 _ _ _ hrr; have m1 := cell_of_row _ _ 1 _ _ _ hrr; have n0 := l4.cells.1; have n1 := l4.cells.2; have qq := pair_put hrr (.string s) (.slice (some ⟨g2, 0, none⟩) L c2); have rq0 := cell_of_row _ _ 0 _ _ _ qq; have rq1 := cell_of_row _ _ 1 _ _ _ qq; clear hrr qq; clear hb4 hr4))
  have HT2 : yesText b = t := HT.out.symm
  rw [HT2] at hy
  have HY := Lib.hid hy
  clear hy HT2
  go_region_held3 (fun w' => w'.cell? ⟨w2.heap.size, 0, none⟩ = some (.string s) ∧ w'.cell? ⟨w2.heap.size, 1, none⟩ = some (.slice (some ⟨g2, 0, none⟩) L c2))
    (first
      | exact Lin.cells (by assumption)
      | exact (Lin.drew (by assumption)).cells
      | exact other_cells (by omega) (Lin.cells (by assumption)).1 (Lin.cells (by assumption)).2)
    (first
      | (go_at_call 52; refine (HY.out _).mono ?_; rintro e wB ⟨rfl, rfl⟩)
      | (go_at_call 55; refine (HC.out _).mono ?_; rintro e wA ⟨rfl, hbA⟩; have lA : Lin W w2.heap.size s g2 c2 L zs wA := Lin.call (by first | assumption | exact Lin.drew (by assumption)) hbA; have hrr := lA.ext.row R1.out; have f0 := frozen_of_row _ _ 0 _ _ hrr; have f1 := frozen_of_row _ _ 1 _ _ hrr; have m0 := cell_of_row _ _ 0 _ _ _ hrr; have m1 := cell_of_row _ _ 1 _ _ _ hrr; have n0 := lA.cells.1; have n1 := lA.cells.2; have qq := pair_put hrr (.string s) (.slice (some ⟨g2, 0, none⟩) L c2); have rq0 := cell_of_row _ _ 0 _ _ _ qq; have rq1 := cell_of_row _ _ 1 _ _ _ qq; clear hrr qq))
  all_goals
    go_wp2
    refine bodyPost_ret (v := .tuple #[.agg #[.string s, .slice (some ⟨g2, 0, none⟩) L c2], .string t]) (by simp [results, Tryz.results22, go_sem, rq0, rq1]) rfl ?_
    exact lin_done E0.out (by first | assumption | exact Lin.drew (by assumption)) HWS.out
set_option maxRecDepth 100000 in
set_option maxHeartbeats 1600000 in
theorem specLine_5 (s : ByteArray) (a : Option Addr) (c L : Nat) (zs : List ByteArray) (X : ByteArray) (w : World) (h : StrsAt w (.slice a L c) zs) (HL : Hid (zs.length = L)) (hok : Hid (deskOk s zs = true)) (hX : X.size ≤ 1048576) (hr : Hid (readOf X.data.toList = ((0, 0), false))) (hXe : X = ⟨#[116, 117, 114, 110, 105, 110, 103]⟩) :
    Calls Tryz.prog 22 #[.agg #[.string s, .slice a L c], .string X] w (LineOut w s zs (askText 5 s)) := by
  have q0 : (X.toList == [119, 97, 108, 107]) = false := by rw [Lib.toList_data, hXe]; decide
  have q1 : (X.toList == [101, 110, 100]) = false := by rw [Lib.toList_data, hXe]; decide
  have q2 : (X.toList == [99, 108, 111, 115, 101, 100]) = false := by rw [Lib.toList_data, hXe]; decide
  have q3 : (X.toList == [115, 105, 109, 112, 108, 101]) = false := by rw [Lib.toList_data, hXe]; decide
  have q4 : (X.toList == [97, 118, 111, 105, 100, 115]) = false := by rw [Lib.toList_data, hXe]; decide
  have q5 : (X.toList == [116, 117, 114, 110, 105, 110, 103]) = true := by rw [Lib.toList_data, hXe]; decide
  obtain ⟨h1, h8, hz⟩ := deskOk_parts hok.out
  have h40 : s.size ≤ 40 := by have := Tw.walkOk_len h1; rwa [size_data] at this
  obtain ⟨e0, hsz, r0, r1⟩ := desk2_in w s (.slice a L c)
  obtain ⟨W, hW⟩ : ∃ W, deskBox2 w s (.slice a L c) = W := ⟨_, rfl⟩
  rw [hW] at e0 hsz r0 r1
  unfold deskBox2 at hW
  have HW := Lib.hid hW
  have HDK := Lib.hid (deskOk_named s (.slice a L c) zs W (e0.strs h) (by have := ok_size h1; omega) (by omega) (fun z hz9 => by have := ok_size (hz z hz9); omega) true hok.out)
  have HRD : Hid (∀ Y : World, Calls Tryz.prog 48 #[.string X] Y fun e w' => e = .returned (.tuple #[.agg #[.int .i64 0, .int .i64 0], .bool false]) ∧ Below Y.heap.size Y w') := fun Y => by
    refine (specReadDeed X Y hX).mono ?_
    rintro e w' ⟨he, hb⟩
    rw [hr.out] at he
    exact ⟨he, hb⟩
  have HCP : Hid (∀ Y, Ext W Y → Calls Tryz.prog 38 #[.agg #[.string s, .slice a L c]] Y fun e w' => ∃ g2 c2, e = .returned (.agg #[.string s, .slice (some ⟨g2, 0, none⟩) L c2]) ∧ PastAt w' (.slice (some ⟨g2, 0, none⟩) L c2) zs ∧ W.heap.size ≤ g2 ∧ Ext W w') := fun Y hY => by
    refine (copy_named s (.slice a L c) zs Y ((e0.trans hY).strs h) L HL.out (by have := HL.out; omega)).mono ?_
    rintro e w' ⟨g2, c2, he, hown2, hp2, hb2⟩
    exact ⟨g2, c2, he, hp2, by have := (hown2.lt g2 rfl).1; have := hY.size; omega, hY.call hb2⟩
  have R0 := Lib.hid r0
  have R1 := Lib.hid r1
  have E0 := Lib.hid e0
  have c0 := cell_of_row _ _ 0 _ _ _ r0
  have c1 := cell_of_row _ _ 1 _ _ _ r0
  have HWS := Lib.hid hsz
  have hs : s.size ≤ 1048576 := by omega
  have hc := fun Y => specTurningOf s Y hs
  have hn := turn_bound s.data.toList (by rw [size_data]; exact hs)
  obtain ⟨n, hnn⟩ : ∃ n, (if Tw.closed s.data.toList then turningOf s.data.toList else 0) = n := ⟨_, rfl⟩
  obtain ⟨b, hb⟩ : ∃ b, Tw.closed s.data.toList = b := ⟨_, rfl⟩
  have HT : Hid (askText 5 s = toldText n b) := by show _ = _; rw [← hnn, ← hb]; rfl
  simp only [hnn] at hc hn
  simp only [hb] at hc
  have HC := Lib.hid hc
  have hy := l12Told_any n b (by omega) (by omega)
  obtain ⟨t, ht⟩ : ∃ t, askText 5 s = t := ⟨_, rfl⟩
  rw [ht] at HT ⊢
  clear hW r0 r1 h hz h1 h8 e0 hsz hXe ht hc hb hnn hn
  go_enter Tryz.func22, Tryz.ntmps22
  go_wp2_with fail
  rw [HW.out]
  go_upto_region 25 with (first
    | (go_at_call 24; refine HDK.out.mono ?_; rintro e w1 ⟨rfl, hb1⟩; have E1 : Ext W w1 := hb1; have hr1 := E1.row R0.out; have k0 := cell_of_row _ _ 0 _ _ _ hr1; have k1 := cell_of_row _ _ 1 _ _ _ hr1; clear hb1 hr1)
    | (go_at_call 38; refine (HCP.out w1 E1).mono ?_; rintro e w2 ⟨g2, c2, rfl, hp2, hg2, E2⟩; have hO : w.heap.size + 1 < w2.heap.size := (by have h8 := E2.size; have h9 := HWS.out; omega); have l3 := lin_new (x := s) E2 hp2 hg2; clear hp2 hg2)
    | (go_at_call 48; refine (HRD.out _).mono ?_; rintro e w4 ⟨rfl, hb4⟩; have l4 := (l3.call hb4).alloc (.cells #[.int .i64 0, .int .i64 0] 53); have hr4 := l4.ext.row R0.out; have l0 := cell_of_row _ _ 0 _ _ _ hr4; have hrr := l4.ext.row R1.out; have f0 := frozen_of_row _ _ 0 _ _ hrr; have f1 := frozen_of_row _ _ 1 _ _ hrr; have m0 := cell_of_row _ _ 0 _ _ _ hrr; have m1 := cell_of_row _ _ 1 _ _ _ hrr; have n0 := l4.cells.1; have n1 := l4.cells.2; have qq := pair_put hrr (.string s) (.slice (some ⟨g2, 0, none⟩) L c2); have rq0 := cell_of_row _ _ 0 _ _ _ qq; have rq1 := cell_of_row _ _ 1 _ _ _ qq; clear hrr qq; clear hb4 hr4))
  have HT2 : toldText n b = t := HT.out.symm
  rw [HT2] at hy
  have HY := Lib.hid hy
  clear hy HT2
  go_region_held3 (fun w' => w'.cell? ⟨w2.heap.size, 0, none⟩ = some (.string s) ∧ w'.cell? ⟨w2.heap.size, 1, none⟩ = some (.slice (some ⟨g2, 0, none⟩) L c2))
    (first
      | exact Lin.cells (by assumption)
      | exact (Lin.drew (by assumption)).cells
      | exact other_cells (by omega) (Lin.cells (by assumption)).1 (Lin.cells (by assumption)).2)
    (first
      | (go_at_call 56; refine (HY.out _).mono ?_; rintro e wB ⟨rfl, hbB⟩; have lB : Lin W w2.heap.size s g2 c2 L zs wB := Lin.call (by first | assumption | exact Lin.drew (by assumption)) hbB; have hrr := lB.ext.row R1.out; have f0 := frozen_of_row _ _ 0 _ _ hrr; have f1 := frozen_of_row _ _ 1 _ _ hrr; have m0 := cell_of_row _ _ 0 _ _ _ hrr; have m1 := cell_of_row _ _ 1 _ _ _ hrr; have n0 := lB.cells.1; have n1 := lB.cells.2; have qq := pair_put hrr (.string s) (.slice (some ⟨g2, 0, none⟩) L c2); have rq0 := cell_of_row _ _ 0 _ _ _ qq; have rq1 := cell_of_row _ _ 1 _ _ _ qq; clear hrr qq)
      | (go_at_call 57; refine (HC.out _).mono ?_; rintro e wA ⟨rfl, hbA⟩; have lA : Lin W w2.heap.size s g2 c2 L zs wA := Lin.call (by first | assumption | exact Lin.drew (by assumption)) hbA; have hrr := lA.ext.row R1.out; have f0 := frozen_of_row _ _ 0 _ _ hrr; have f1 := frozen_of_row _ _ 1 _ _ hrr; have m0 := cell_of_row _ _ 0 _ _ _ hrr; have m1 := cell_of_row _ _ 1 _ _ _ hrr; have n0 := lA.cells.1; have n1 := lA.cells.2; have qq := pair_put hrr (.string s) (.slice (some ⟨g2, 0, none⟩) L c2); have rq0 := cell_of_row _ _ 0 _ _ _ qq; have rq1 := cell_of_row _ _ 1 _ _ _ qq; clear hrr qq))
  all_goals
    go_wp2
    refine bodyPost_ret (v := .tuple #[.agg #[.string s, .slice (some ⟨g2, 0, none⟩) L c2], .string t]) (by simp [results, Tryz.results22, go_sem, rq0, rq1]) rfl ?_
    exact lin_done E0.out (by first | assumption | exact Lin.drew (by assumption)) HWS.out
set_option maxRecDepth 100000 in
set_option maxHeartbeats 1600000 in
theorem specLine_6 (s : ByteArray) (a : Option Addr) (c L : Nat) (zs : List ByteArray) (X : ByteArray) (w : World) (h : StrsAt w (.slice a L c) zs) (HL : Hid (zs.length = L)) (hok : Hid (deskOk s zs = true)) (hX : X.size ≤ 1048576) (hr : Hid (readOf X.data.toList = ((0, 0), false))) (hXe : X = ⟨#[97, 114, 101, 97]⟩) :
    Calls Tryz.prog 22 #[.agg #[.string s, .slice a L c], .string X] w (LineOut w s zs (askText 6 s)) := by
  have q0 : (X.toList == [119, 97, 108, 107]) = false := by rw [Lib.toList_data, hXe]; decide
  have q1 : (X.toList == [101, 110, 100]) = false := by rw [Lib.toList_data, hXe]; decide
  have q2 : (X.toList == [99, 108, 111, 115, 101, 100]) = false := by rw [Lib.toList_data, hXe]; decide
  have q3 : (X.toList == [115, 105, 109, 112, 108, 101]) = false := by rw [Lib.toList_data, hXe]; decide
  have q4 : (X.toList == [97, 118, 111, 105, 100, 115]) = false := by rw [Lib.toList_data, hXe]; decide
  have q5 : (X.toList == [116, 117, 114, 110, 105, 110, 103]) = false := by rw [Lib.toList_data, hXe]; decide
  have q6 : (X.toList == [97, 114, 101, 97]) = true := by rw [Lib.toList_data, hXe]; decide
  obtain ⟨h1, h8, hz⟩ := deskOk_parts hok.out
  have h40 : s.size ≤ 40 := by have := Tw.walkOk_len h1; rwa [size_data] at this
  obtain ⟨e0, hsz, r0, r1⟩ := desk2_in w s (.slice a L c)
  obtain ⟨W, hW⟩ : ∃ W, deskBox2 w s (.slice a L c) = W := ⟨_, rfl⟩
  rw [hW] at e0 hsz r0 r1
  unfold deskBox2 at hW
  have HW := Lib.hid hW
  have HDK := Lib.hid (deskOk_named s (.slice a L c) zs W (e0.strs h) (by have := ok_size h1; omega) (by omega) (fun z hz9 => by have := ok_size (hz z hz9); omega) true hok.out)
  have HRD : Hid (∀ Y : World, Calls Tryz.prog 48 #[.string X] Y fun e w' => e = .returned (.tuple #[.agg #[.int .i64 0, .int .i64 0], .bool false]) ∧ Below Y.heap.size Y w') := fun Y => by
    refine (specReadDeed X Y hX).mono ?_
    rintro e w' ⟨he, hb⟩
    rw [hr.out] at he
    exact ⟨he, hb⟩
  have HCP : Hid (∀ Y, Ext W Y → Calls Tryz.prog 38 #[.agg #[.string s, .slice a L c]] Y fun e w' => ∃ g2 c2, e = .returned (.agg #[.string s, .slice (some ⟨g2, 0, none⟩) L c2]) ∧ PastAt w' (.slice (some ⟨g2, 0, none⟩) L c2) zs ∧ W.heap.size ≤ g2 ∧ Ext W w') := fun Y hY => by
    refine (copy_named s (.slice a L c) zs Y ((e0.trans hY).strs h) L HL.out (by have := HL.out; omega)).mono ?_
    rintro e w' ⟨g2, c2, he, hown2, hp2, hb2⟩
    exact ⟨g2, c2, he, hp2, by have := (hown2.lt g2 rfl).1; have := hY.size; omega, hY.call hb2⟩
  have R0 := Lib.hid r0
  have R1 := Lib.hid r1
  have E0 := Lib.hid e0
  have c0 := cell_of_row _ _ 0 _ _ _ r0
  have c1 := cell_of_row _ _ 1 _ _ _ r0
  have HWS := Lib.hid hsz
  have hs : s.size ≤ 1048576 := by omega
  have hc := fun Y => specAreaOf s Y hs
  have hn := line_res_bound s.data.toList
  obtain ⟨n, hnn⟩ : ∃ n, areaRes s.data.toList = n := ⟨_, rfl⟩
  obtain ⟨b, hb⟩ : ∃ b, Tw.closed s.data.toList = b := ⟨_, rfl⟩
  have HT : Hid (askText 6 s = toldText n b) := by show _ = _; rw [← hnn, ← hb]; rfl
  simp only [hnn] at hc hn
  simp only [hb] at hc
  have HC := Lib.hid hc
  have hy := l12Told_any n b (by omega) (by omega)
  obtain ⟨t, ht⟩ : ∃ t, askText 6 s = t := ⟨_, rfl⟩
  rw [ht] at HT ⊢
  clear hW r0 r1 h hz h1 h8 e0 hsz hXe ht hc hb hnn hn
  go_enter Tryz.func22, Tryz.ntmps22
  go_wp2_with fail
  rw [HW.out]
  go_upto_region 27 with (first
    | (go_at_call 24; refine HDK.out.mono ?_; rintro e w1 ⟨rfl, hb1⟩; have E1 : Ext W w1 := hb1; have hr1 := E1.row R0.out; have k0 := cell_of_row _ _ 0 _ _ _ hr1; have k1 := cell_of_row _ _ 1 _ _ _ hr1; clear hb1 hr1)
    | (go_at_call 38; refine (HCP.out w1 E1).mono ?_; rintro e w2 ⟨g2, c2, rfl, hp2, hg2, E2⟩; have hO : w.heap.size + 1 < w2.heap.size := (by have h8 := E2.size; have h9 := HWS.out; omega); have l3 := lin_new (x := s) E2 hp2 hg2; clear hp2 hg2)
    | (go_at_call 48; refine (HRD.out _).mono ?_; rintro e w4 ⟨rfl, hb4⟩; have l4 := (l3.call hb4).alloc (.cells #[.int .i64 0, .int .i64 0] 53); have hr4 := l4.ext.row R0.out; have l0 := cell_of_row _ _ 0 _ _ _ hr4; have hrr := l4.ext.row R1.out; have f0 := frozen_of_row _ _ 0 _ _ hrr; have f1 := frozen_of_row _ _ 1 _ _ hrr; have m0 := cell_of_row _ _ 0 _ _ _ hrr; have m1 := cell_of_row _ _ 1 _ _ _ hrr; have n0 := l4.cells.1; have n1 := l4.cells.2; have qq := pair_put hrr (.string s) (.slice (some ⟨g2, 0, none⟩) L c2); have rq0 := cell_of_row _ _ 0 _ _ _ qq; have rq1 := cell_of_row _ _ 1 _ _ _ qq; clear hrr qq; clear hb4 hr4))
  have HT2 : toldText n b = t := HT.out.symm
  rw [HT2] at hy
  have HY := Lib.hid hy
  clear hy HT2
  go_region_held3 (fun w' => w'.cell? ⟨w2.heap.size, 0, none⟩ = some (.string s) ∧ w'.cell? ⟨w2.heap.size, 1, none⟩ = some (.slice (some ⟨g2, 0, none⟩) L c2))
    (first
      | exact Lin.cells (by assumption)
      | exact (Lin.drew (by assumption)).cells
      | exact other_cells (by omega) (Lin.cells (by assumption)).1 (Lin.cells (by assumption)).2)
    (first
      | (go_at_call 56; refine (HY.out _).mono ?_; rintro e wB ⟨rfl, hbB⟩; have lB : Lin W w2.heap.size s g2 c2 L zs wB := Lin.call (by first | assumption | exact Lin.drew (by assumption)) hbB; have hrr := lB.ext.row R1.out; have f0 := frozen_of_row _ _ 0 _ _ hrr; have f1 := frozen_of_row _ _ 1 _ _ hrr; have m0 := cell_of_row _ _ 0 _ _ _ hrr; have m1 := cell_of_row _ _ 1 _ _ _ hrr; have n0 := lB.cells.1; have n1 := lB.cells.2; have qq := pair_put hrr (.string s) (.slice (some ⟨g2, 0, none⟩) L c2); have rq0 := cell_of_row _ _ 0 _ _ _ qq; have rq1 := cell_of_row _ _ 1 _ _ _ qq; clear hrr qq)
      | (go_at_call 58; refine (HC.out _).mono ?_; rintro e wA ⟨rfl, hbA⟩; have lA : Lin W w2.heap.size s g2 c2 L zs wA := Lin.call (by first | assumption | exact Lin.drew (by assumption)) hbA; have hrr := lA.ext.row R1.out; have f0 := frozen_of_row _ _ 0 _ _ hrr; have f1 := frozen_of_row _ _ 1 _ _ hrr; have m0 := cell_of_row _ _ 0 _ _ _ hrr; have m1 := cell_of_row _ _ 1 _ _ _ hrr; have n0 := lA.cells.1; have n1 := lA.cells.2; have qq := pair_put hrr (.string s) (.slice (some ⟨g2, 0, none⟩) L c2); have rq0 := cell_of_row _ _ 0 _ _ _ qq; have rq1 := cell_of_row _ _ 1 _ _ _ qq; clear hrr qq))
  all_goals
    go_wp2
    refine bodyPost_ret (v := .tuple #[.agg #[.string s, .slice (some ⟨g2, 0, none⟩) L c2], .string t]) (by simp [results, Tryz.results22, go_sem, rq0, rq1]) rfl ?_
    exact lin_done E0.out (by first | assumption | exact Lin.drew (by assumption)) HWS.out
set_option maxRecDepth 100000 in
set_option maxHeartbeats 1600000 in
theorem specLine_7 (s : ByteArray) (a : Option Addr) (c L : Nat) (zs : List ByteArray) (X : ByteArray) (w : World) (h : StrsAt w (.slice a L c) zs) (HL : Hid (zs.length = L)) (hok : Hid (deskOk s zs = true)) (hX : X.size ≤ 1048576) (hr : Hid (readOf X.data.toList = ((0, 0), false))) (hXe : X = ⟨#[119, 105, 110, 100, 105, 110, 103]⟩) :
    Calls Tryz.prog 22 #[.agg #[.string s, .slice a L c], .string X] w (LineOut w s zs (askText 7 s)) := by
  have q0 : (X.toList == [119, 97, 108, 107]) = false := by rw [Lib.toList_data, hXe]; decide
  have q1 : (X.toList == [101, 110, 100]) = false := by rw [Lib.toList_data, hXe]; decide
  have q2 : (X.toList == [99, 108, 111, 115, 101, 100]) = false := by rw [Lib.toList_data, hXe]; decide
  have q3 : (X.toList == [115, 105, 109, 112, 108, 101]) = false := by rw [Lib.toList_data, hXe]; decide
  have q4 : (X.toList == [97, 118, 111, 105, 100, 115]) = false := by rw [Lib.toList_data, hXe]; decide
  have q5 : (X.toList == [116, 117, 114, 110, 105, 110, 103]) = false := by rw [Lib.toList_data, hXe]; decide
  have q6 : (X.toList == [97, 114, 101, 97]) = false := by rw [Lib.toList_data, hXe]; decide
  have q7 : (X.toList == [119, 105, 110, 100, 105, 110, 103]) = true := by rw [Lib.toList_data, hXe]; decide
  obtain ⟨h1, h8, hz⟩ := deskOk_parts hok.out
  have h40 : s.size ≤ 40 := by have := Tw.walkOk_len h1; rwa [size_data] at this
  obtain ⟨e0, hsz, r0, r1⟩ := desk2_in w s (.slice a L c)
  obtain ⟨W, hW⟩ : ∃ W, deskBox2 w s (.slice a L c) = W := ⟨_, rfl⟩
  rw [hW] at e0 hsz r0 r1
  unfold deskBox2 at hW
  have HW := Lib.hid hW
  have HDK := Lib.hid (deskOk_named s (.slice a L c) zs W (e0.strs h) (by have := ok_size h1; omega) (by omega) (fun z hz9 => by have := ok_size (hz z hz9); omega) true hok.out)
  have HRD : Hid (∀ Y : World, Calls Tryz.prog 48 #[.string X] Y fun e w' => e = .returned (.tuple #[.agg #[.int .i64 0, .int .i64 0], .bool false]) ∧ Below Y.heap.size Y w') := fun Y => by
    refine (specReadDeed X Y hX).mono ?_
    rintro e w' ⟨he, hb⟩
    rw [hr.out] at he
    exact ⟨he, hb⟩
  have HCP : Hid (∀ Y, Ext W Y → Calls Tryz.prog 38 #[.agg #[.string s, .slice a L c]] Y fun e w' => ∃ g2 c2, e = .returned (.agg #[.string s, .slice (some ⟨g2, 0, none⟩) L c2]) ∧ PastAt w' (.slice (some ⟨g2, 0, none⟩) L c2) zs ∧ W.heap.size ≤ g2 ∧ Ext W w') := fun Y hY => by
    refine (copy_named s (.slice a L c) zs Y ((e0.trans hY).strs h) L HL.out (by have := HL.out; omega)).mono ?_
    rintro e w' ⟨g2, c2, he, hown2, hp2, hb2⟩
    exact ⟨g2, c2, he, hp2, by have := (hown2.lt g2 rfl).1; have := hY.size; omega, hY.call hb2⟩
  have R0 := Lib.hid r0
  have R1 := Lib.hid r1
  have E0 := Lib.hid e0
  have c0 := cell_of_row _ _ 0 _ _ _ r0
  have c1 := cell_of_row _ _ 1 _ _ _ r0
  have HWS := Lib.hid hsz
  have hs : s.size ≤ 1048576 := by omega
  have hc := fun Y => specMost s Y hs
  have hc2 := fun Y => specClosedOk s Y hs
  have hn := Tw.mostRes_range (l := s.data.toList)
  obtain ⟨n, hnn⟩ : ∃ n, Tw.mostRes s.data.toList = n := ⟨_, rfl⟩
  obtain ⟨b, hb⟩ : ∃ b, Tw.closed s.data.toList = b := ⟨_, rfl⟩
  have HT : Hid (askText 7 s = toldText n b) := by show _ = _; rw [← hnn, ← hb]; rfl
  simp only [hnn] at hc hn
  simp only [hb] at hc2
  have HC := Lib.hid hc
  have HC2 := Lib.hid hc2
  have hy := l12Told_any n b (by omega) (by omega)
  obtain ⟨t, ht⟩ : ∃ t, askText 7 s = t := ⟨_, rfl⟩
  rw [ht] at HT ⊢
  clear hW r0 r1 h hz h1 h8 e0 hsz hXe ht hc hc2 hb hnn hn
  go_enter Tryz.func22, Tryz.ntmps22
  go_wp2_with fail
  rw [HW.out]
  go_upto_region 29 with (first
    | (go_at_call 24; refine HDK.out.mono ?_; rintro e w1 ⟨rfl, hb1⟩; have E1 : Ext W w1 := hb1; have hr1 := E1.row R0.out; have k0 := cell_of_row _ _ 0 _ _ _ hr1; have k1 := cell_of_row _ _ 1 _ _ _ hr1; clear hb1 hr1)
    | (go_at_call 38; refine (HCP.out w1 E1).mono ?_; rintro e w2 ⟨g2, c2, rfl, hp2, hg2, E2⟩; have hO : w.heap.size + 1 < w2.heap.size := (by have h8 := E2.size; have h9 := HWS.out; omega); have l3 := lin_new (x := s) E2 hp2 hg2; clear hp2 hg2)
    | (go_at_call 48; refine (HRD.out _).mono ?_; rintro e w4 ⟨rfl, hb4⟩; have l4 := (l3.call hb4).alloc (.cells #[.int .i64 0, .int .i64 0] 53); have hr4 := l4.ext.row R0.out; have l0 := cell_of_row _ _ 0 _ _ _ hr4; have hrr := l4.ext.row R1.out; have f0 := frozen_of_row _ _ 0 _ _ hrr; have f1 := frozen_of_row _ _ 1 _ _ hrr; have m0 := cell_of_row _ _ 0 _ _ _ hrr; have m1 := cell_of_row _ _ 1 _ _ _ hrr; have n0 := l4.cells.1; have n1 := l4.cells.2; have qq := pair_put hrr (.string s) (.slice (some ⟨g2, 0, none⟩) L c2); have rq0 := cell_of_row _ _ 0 _ _ _ qq; have rq1 := cell_of_row _ _ 1 _ _ _ qq; clear hrr qq; clear hb4 hr4))
  have HT2 : toldText n b = t := HT.out.symm
  rw [HT2] at hy
  have HY := Lib.hid hy
  clear hy HT2
  go_region_held3 (fun w' => w'.cell? ⟨w2.heap.size, 0, none⟩ = some (.string s) ∧ w'.cell? ⟨w2.heap.size, 1, none⟩ = some (.slice (some ⟨g2, 0, none⟩) L c2))
    (first
      | exact Lin.cells (by assumption)
      | exact (Lin.drew (by assumption)).cells
      | exact other_cells (by omega) (Lin.cells (by assumption)).1 (Lin.cells (by assumption)).2)
    (first
      | (go_at_call 56; refine (HY.out _).mono ?_; rintro e wB ⟨rfl, hbB⟩; have lB : Lin W w2.heap.size s g2 c2 L zs wB := Lin.call (by first | assumption | exact Lin.drew (by assumption)) hbB; have hrr := lB.ext.row R1.out; have f0 := frozen_of_row _ _ 0 _ _ hrr; have f1 := frozen_of_row _ _ 1 _ _ hrr; have m0 := cell_of_row _ _ 0 _ _ _ hrr; have m1 := cell_of_row _ _ 1 _ _ _ hrr; have n0 := lB.cells.1; have n1 := lB.cells.2; have qq := pair_put hrr (.string s) (.slice (some ⟨g2, 0, none⟩) L c2); have rq0 := cell_of_row _ _ 0 _ _ _ qq; have rq1 := cell_of_row _ _ 1 _ _ _ qq; clear hrr qq)
      | (go_at_call 59; refine (HC.out _).mono ?_; rintro e wA ⟨rfl, hbA⟩; have lA : Lin W w2.heap.size s g2 c2 L zs wA := Lin.call (by first | assumption | exact Lin.drew (by assumption)) hbA; have hrr := lA.ext.row R1.out; have f0 := frozen_of_row _ _ 0 _ _ hrr; have f1 := frozen_of_row _ _ 1 _ _ hrr; have m0 := cell_of_row _ _ 0 _ _ _ hrr; have m1 := cell_of_row _ _ 1 _ _ _ hrr; have n0 := lA.cells.1; have n1 := lA.cells.2; have qq := pair_put hrr (.string s) (.slice (some ⟨g2, 0, none⟩) L c2); have rq0 := cell_of_row _ _ 0 _ _ _ qq; have rq1 := cell_of_row _ _ 1 _ _ _ qq; clear hrr qq)
      | (go_at_call 53; refine (HC2.out _).mono ?_; rintro e wD ⟨rfl, hbD⟩; have lD : Lin W w2.heap.size s g2 c2 L zs wD := Lin.call (by first | assumption | exact Lin.drew (by assumption)) hbD; have hrr := lD.ext.row R1.out; have f0 := frozen_of_row _ _ 0 _ _ hrr; have f1 := frozen_of_row _ _ 1 _ _ hrr; have m0 := cell_of_row _ _ 0 _ _ _ hrr; have m1 := cell_of_row _ _ 1 _ _ _ hrr; have n0 := lD.cells.1; have n1 := lD.cells.2; have qq := pair_put hrr (.string s) (.slice (some ⟨g2, 0, none⟩) L c2); have rq0 := cell_of_row _ _ 0 _ _ _ qq; have rq1 := cell_of_row _ _ 1 _ _ _ qq; clear hrr qq))
  all_goals
    go_wp2
    refine bodyPost_ret (v := .tuple #[.agg #[.string s, .slice (some ⟨g2, 0, none⟩) L c2], .string t]) (by simp [results, Tryz.results22, go_sem, rq0, rq1]) rfl ?_
    exact lin_done E0.out (by first | assumption | exact Lin.drew (by assumption)) HWS.out
set_option maxRecDepth 100000 in
set_option maxHeartbeats 1600000 in
theorem specLine_8 (s : ByteArray) (a : Option Addr) (c L : Nat) (zs : List ByteArray) (X : ByteArray) (w : World) (h : StrsAt w (.slice a L c) zs) (HL : Hid (zs.length = L)) (hok : Hid (deskOk s zs = true)) (hX : X.size ≤ 1048576) (hr : Hid (readOf X.data.toList = ((0, 0), false))) (hXe : X = ⟨#[115, 113, 117, 97, 114, 101, 115]⟩) :
    Calls Tryz.prog 22 #[.agg #[.string s, .slice a L c], .string X] w (LineOut w s zs (askText 8 s)) := by
  have q0 : (X.toList == [119, 97, 108, 107]) = false := by rw [Lib.toList_data, hXe]; decide
  have q1 : (X.toList == [101, 110, 100]) = false := by rw [Lib.toList_data, hXe]; decide
  have q2 : (X.toList == [99, 108, 111, 115, 101, 100]) = false := by rw [Lib.toList_data, hXe]; decide
  have q3 : (X.toList == [115, 105, 109, 112, 108, 101]) = false := by rw [Lib.toList_data, hXe]; decide
  have q4 : (X.toList == [97, 118, 111, 105, 100, 115]) = false := by rw [Lib.toList_data, hXe]; decide
  have q5 : (X.toList == [116, 117, 114, 110, 105, 110, 103]) = false := by rw [Lib.toList_data, hXe]; decide
  have q6 : (X.toList == [97, 114, 101, 97]) = false := by rw [Lib.toList_data, hXe]; decide
  have q7 : (X.toList == [119, 105, 110, 100, 105, 110, 103]) = false := by rw [Lib.toList_data, hXe]; decide
  have q8 : (X.toList == [115, 113, 117, 97, 114, 101, 115]) = true := by rw [Lib.toList_data, hXe]; decide
  obtain ⟨h1, h8, hz⟩ := deskOk_parts hok.out
  have h40 : s.size ≤ 40 := by have := Tw.walkOk_len h1; rwa [size_data] at this
  obtain ⟨e0, hsz, r0, r1⟩ := desk2_in w s (.slice a L c)
  obtain ⟨W, hW⟩ : ∃ W, deskBox2 w s (.slice a L c) = W := ⟨_, rfl⟩
  rw [hW] at e0 hsz r0 r1
  unfold deskBox2 at hW
  have HW := Lib.hid hW
  have HDK := Lib.hid (deskOk_named s (.slice a L c) zs W (e0.strs h) (by have := ok_size h1; omega) (by omega) (fun z hz9 => by have := ok_size (hz z hz9); omega) true hok.out)
  have HRD : Hid (∀ Y : World, Calls Tryz.prog 48 #[.string X] Y fun e w' => e = .returned (.tuple #[.agg #[.int .i64 0, .int .i64 0], .bool false]) ∧ Below Y.heap.size Y w') := fun Y => by
    refine (specReadDeed X Y hX).mono ?_
    rintro e w' ⟨he, hb⟩
    rw [hr.out] at he
    exact ⟨he, hb⟩
  have HCP : Hid (∀ Y, Ext W Y → Calls Tryz.prog 38 #[.agg #[.string s, .slice a L c]] Y fun e w' => ∃ g2 c2, e = .returned (.agg #[.string s, .slice (some ⟨g2, 0, none⟩) L c2]) ∧ PastAt w' (.slice (some ⟨g2, 0, none⟩) L c2) zs ∧ W.heap.size ≤ g2 ∧ Ext W w') := fun Y hY => by
    refine (copy_named s (.slice a L c) zs Y ((e0.trans hY).strs h) L HL.out (by have := HL.out; omega)).mono ?_
    rintro e w' ⟨g2, c2, he, hown2, hp2, hb2⟩
    exact ⟨g2, c2, he, hp2, by have := (hown2.lt g2 rfl).1; have := hY.size; omega, hY.call hb2⟩
  have R0 := Lib.hid r0
  have R1 := Lib.hid r1
  have E0 := Lib.hid e0
  have c0 := cell_of_row _ _ 0 _ _ _ r0
  have c1 := cell_of_row _ _ 1 _ _ _ r0
  have HWS := Lib.hid hsz
  have hs : s.size ≤ 1048576 := by omega
  have hc := fun Y => specSquares s Y hs h1
  have hc2 := fun Y => specSimple_is s Y hs h1
  have hn := Tw.squaresRes_range (l := s.data.toList)
  obtain ⟨n, hnn⟩ : ∃ n, Tw.squaresRes s.data.toList = n := ⟨_, rfl⟩
  obtain ⟨b, hb⟩ : ∃ b, Tw.simple s.data.toList = b := ⟨_, rfl⟩
  have HT : Hid (askText 8 s = toldText n b) := by show _ = _; rw [← hnn, ← hb]; rfl
  simp only [hnn] at hc hn
  simp only [hb] at hc2
  have HC := Lib.hid hc
  have HC2 := Lib.hid hc2
  have hy := l12Told_any n b (by omega) (by omega)
  obtain ⟨t, ht⟩ : ∃ t, askText 8 s = t := ⟨_, rfl⟩
  rw [ht] at HT ⊢
  clear hW r0 r1 h hz h1 h8 e0 hsz hXe ht hc hc2 hb hnn hn
  go_enter Tryz.func22, Tryz.ntmps22
  go_wp2_with fail
  rw [HW.out]
  go_upto_region 31 with (first
    | (go_at_call 24; refine HDK.out.mono ?_; rintro e w1 ⟨rfl, hb1⟩; have E1 : Ext W w1 := hb1; have hr1 := E1.row R0.out; have k0 := cell_of_row _ _ 0 _ _ _ hr1; have k1 := cell_of_row _ _ 1 _ _ _ hr1; clear hb1 hr1)
    | (go_at_call 38; refine (HCP.out w1 E1).mono ?_; rintro e w2 ⟨g2, c2, rfl, hp2, hg2, E2⟩; have hO : w.heap.size + 1 < w2.heap.size := (by have h8 := E2.size; have h9 := HWS.out; omega); have l3 := lin_new (x := s) E2 hp2 hg2; clear hp2 hg2)
    | (go_at_call 48; refine (HRD.out _).mono ?_; rintro e w4 ⟨rfl, hb4⟩; have l4 := (l3.call hb4).alloc (.cells #[.int .i64 0, .int .i64 0] 53); have hr4 := l4.ext.row R0.out; have l0 := cell_of_row _ _ 0 _ _ _ hr4; have hrr := l4.ext.row R1.out; have f0 := frozen_of_row _ _ 0 _ _ hrr; have f1 := frozen_of_row _ _ 1 _ _ hrr; have m0 := cell_of_row _ _ 0 _ _ _ hrr; have m1 := cell_of_row _ _ 1 _ _ _ hrr; have n0 := l4.cells.1; have n1 := l4.cells.2; have qq := pair_put hrr (.string s) (.slice (some ⟨g2, 0, none⟩) L c2); have rq0 := cell_of_row _ _ 0 _ _ _ qq; have rq1 := cell_of_row _ _ 1 _ _ _ qq; clear hrr qq; clear hb4 hr4))
  have HT2 : toldText n b = t := HT.out.symm
  rw [HT2] at hy
  have HY := Lib.hid hy
  clear hy HT2
  go_region_held3 (fun w' => w'.cell? ⟨w2.heap.size, 0, none⟩ = some (.string s) ∧ w'.cell? ⟨w2.heap.size, 1, none⟩ = some (.slice (some ⟨g2, 0, none⟩) L c2))
    (first
      | exact Lin.cells (by assumption)
      | exact (Lin.drew (by assumption)).cells
      | exact other_cells (by omega) (Lin.cells (by assumption)).1 (Lin.cells (by assumption)).2)
    (first
      | (go_at_call 56; refine (HY.out _).mono ?_; rintro e wB ⟨rfl, hbB⟩; have lB : Lin W w2.heap.size s g2 c2 L zs wB := Lin.call (by first | assumption | exact Lin.drew (by assumption)) hbB; have hrr := lB.ext.row R1.out; have f0 := frozen_of_row _ _ 0 _ _ hrr; have f1 := frozen_of_row _ _ 1 _ _ hrr; have m0 := cell_of_row _ _ 0 _ _ _ hrr; have m1 := cell_of_row _ _ 1 _ _ _ hrr; have n0 := lB.cells.1; have n1 := lB.cells.2; have qq := pair_put hrr (.string s) (.slice (some ⟨g2, 0, none⟩) L c2); have rq0 := cell_of_row _ _ 0 _ _ _ qq; have rq1 := cell_of_row _ _ 1 _ _ _ qq; clear hrr qq)
      | (go_at_call 60; refine (HC.out _).mono ?_; rintro e wA ⟨rfl, hbA⟩; have lA : Lin W w2.heap.size s g2 c2 L zs wA := Lin.call (by first | assumption | exact Lin.drew (by assumption)) hbA; have hrr := lA.ext.row R1.out; have f0 := frozen_of_row _ _ 0 _ _ hrr; have f1 := frozen_of_row _ _ 1 _ _ hrr; have m0 := cell_of_row _ _ 0 _ _ _ hrr; have m1 := cell_of_row _ _ 1 _ _ _ hrr; have n0 := lA.cells.1; have n1 := lA.cells.2; have qq := pair_put hrr (.string s) (.slice (some ⟨g2, 0, none⟩) L c2); have rq0 := cell_of_row _ _ 0 _ _ _ qq; have rq1 := cell_of_row _ _ 1 _ _ _ qq; clear hrr qq)
      | (go_at_call 54; refine (HC2.out _).mono ?_; rintro e wD ⟨rfl, hbD⟩; have lD : Lin W w2.heap.size s g2 c2 L zs wD := Lin.call (by first | assumption | exact Lin.drew (by assumption)) hbD; have hrr := lD.ext.row R1.out; have f0 := frozen_of_row _ _ 0 _ _ hrr; have f1 := frozen_of_row _ _ 1 _ _ hrr; have m0 := cell_of_row _ _ 0 _ _ _ hrr; have m1 := cell_of_row _ _ 1 _ _ _ hrr; have n0 := lD.cells.1; have n1 := lD.cells.2; have qq := pair_put hrr (.string s) (.slice (some ⟨g2, 0, none⟩) L c2); have rq0 := cell_of_row _ _ 0 _ _ _ qq; have rq1 := cell_of_row _ _ 1 _ _ _ qq; clear hrr qq))
  all_goals
    go_wp2
    refine bodyPost_ret (v := .tuple #[.agg #[.string s, .slice (some ⟨g2, 0, none⟩) L c2], .string t]) (by simp [results, Tryz.results22, go_sem, rq0, rq1]) rfl ?_
    exact lin_done E0.out (by first | assumption | exact Lin.drew (by assumption)) HWS.out
theorem lastPlace (s : ByteArray) (w : World) (hs : s.size ≤ 1048576) (hok : Tw.walkOk s.data.toList = true) :
    Calls Tryz.prog 50 #[.string s] w fun e w' => ∃ g cap b, e = .returned (.slice (some ⟨g, 0, none⟩) (s.size + 1) cap) ∧ w'.cell? ⟨g, s.size, none⟩ = some (.slice (some ⟨b, 0, none⟩) 2 2) ∧ w'.heap[b]? = some (pairBlock (Tw.endOf s.data.toList)) ∧ Below w.heap.size w w' := by
  refine (specPlacesOf_n s w hs hok (Tw.places s.data.toList) (s.size + 1) rfl (by rw [Tw.places_length, size_data])).mono ?_
  rintro e w' ⟨g, cap, bs, he, hbl, hown, hrows, hb⟩
  have hbb : bs[s.size]? = some (bs[s.size]'(by omega)) := List.getElem?_eq_getElem _
  have hp : (Tw.places s.data.toList)[s.size]? = some (Tw.placeAt s.data.toList s.size) := Tw.placesTo_get? _ _ _ (by rw [size_data]; omega)
  have hh := hrows s.size _ _ hp hbb
  have e2 : Tw.placeAt s.data.toList s.size = Tw.endOf s.data.toList := by rw [← size_data]; exact Tw.placeAt_all _
  rw [e2] at hh
  exact ⟨g, cap, _, he, row_cell hown hbb, hh, hb⟩
set_option maxRecDepth 100000 in
set_option maxHeartbeats 1600000 in
theorem specLine_1 (s : ByteArray) (a : Option Addr) (c L : Nat) (zs : List ByteArray) (X : ByteArray) (w : World) (h : StrsAt w (.slice a L c) zs) (HL : Hid (zs.length = L)) (hok : Hid (deskOk s zs = true)) (hX : X.size ≤ 1048576) (hr : Hid (readOf X.data.toList = ((0, 0), false))) (hXe : X = ⟨#[101, 110, 100]⟩) :
    Calls Tryz.prog 22 #[.agg #[.string s, .slice a L c], .string X] w (LineOut w s zs (askText 1 s)) := by
  have q0 : (X.toList == [119, 97, 108, 107]) = false := by rw [Lib.toList_data, hXe]; decide
  have q1 : (X.toList == [101, 110, 100]) = true := by rw [Lib.toList_data, hXe]; decide
  obtain ⟨h1, h8, hz⟩ := deskOk_parts hok.out
  have h40 : s.size ≤ 40 := by have := Tw.walkOk_len h1; rwa [size_data] at this
  obtain ⟨e0, hsz, r0, r1⟩ := desk2_in w s (.slice a L c)
  obtain ⟨W, hW⟩ : ∃ W, deskBox2 w s (.slice a L c) = W := ⟨_, rfl⟩
  rw [hW] at e0 hsz r0 r1
  unfold deskBox2 at hW
  have HW := Lib.hid hW
  have HDK := Lib.hid (deskOk_named s (.slice a L c) zs W (e0.strs h) (by have := ok_size h1; omega) (by omega) (fun z hz9 => by have := ok_size (hz z hz9); omega) true hok.out)
  have HRD : Hid (∀ Y : World, Calls Tryz.prog 48 #[.string X] Y fun e w' => e = .returned (.tuple #[.agg #[.int .i64 0, .int .i64 0], .bool false]) ∧ Below Y.heap.size Y w') := fun Y => by
    refine (specReadDeed X Y hX).mono ?_
    rintro e w' ⟨he, hb⟩
    rw [hr.out] at he
    exact ⟨he, hb⟩
  have HCP : Hid (∀ Y, Ext W Y → Calls Tryz.prog 38 #[.agg #[.string s, .slice a L c]] Y fun e w' => ∃ g2 c2, e = .returned (.agg #[.string s, .slice (some ⟨g2, 0, none⟩) L c2]) ∧ PastAt w' (.slice (some ⟨g2, 0, none⟩) L c2) zs ∧ W.heap.size ≤ g2 ∧ Ext W w') := fun Y hY => by
    refine (copy_named s (.slice a L c) zs Y ((e0.trans hY).strs h) L HL.out (by have := HL.out; omega)).mono ?_
    rintro e w' ⟨g2, c2, he, hown2, hp2, hb2⟩
    exact ⟨g2, c2, he, hp2, by have := (hown2.lt g2 rfl).1; have := hY.size; omega, hY.call hb2⟩
  have R0 := Lib.hid r0
  have R1 := Lib.hid r1
  have E0 := Lib.hid e0
  have c0 := cell_of_row _ _ 0 _ _ _ r0
  have c1 := cell_of_row _ _ 1 _ _ _ r0
  have HWS := Lib.hid hsz
  have hs : s.size ≤ 1048576 := by omega
  have hbd := end_bound h1
  obtain ⟨x, hx⟩ : ∃ x, (Tw.endOf s.data.toList).1 = x := ⟨_, rfl⟩
  obtain ⟨y, hy⟩ : ∃ y, (Tw.endOf s.data.toList).2 = y := ⟨_, rfl⟩
  rw [hx, hy] at hbd
  obtain ⟨u, hu⟩ : ∃ u, numText x = u := ⟨_, rfl⟩
  obtain ⟨v, hv⟩ : ∃ u, numText y = u := ⟨_, rfl⟩
  have su := numText_len (n := x) (by omega) (by omega)
  have sv := numText_len (n := y) (by omega) (by omega)
  rw [hu] at su
  rw [hv] at sv
  have HT : Hid (askText 1 s = u ++ ⟨#[44]⟩ ++ v) := by show _ = _; rw [← hu, ← hv, ← hx, ← hy]; rfl
  have HNX : Hid (∀ Y : World, Calls Tryz.prog 51 #[.int .i64 x] Y fun e w' => e = .returned (.string u) ∧ Below Y.heap.size Y w') := fun Y => hu ▸ number_int x (by omega) (by omega) Y
  have HNY : Hid (∀ Y : World, Calls Tryz.prog 51 #[.int .i64 y] Y fun e w' => e = .returned (.string v) ∧ Below Y.heap.size Y w') := fun Y => hv ▸ number_int y (by omega) (by omega) Y
  have HPL := Lib.hid (fun Y => lastPlace s Y hs h1)
  have HEND : Hid (Tw.endOf s.data.toList = (x, y)) := by show _ = _; rw [← hx, ← hy]
  have fu : ¬ 9223372036854775807 < u.size + 1 := by omega
  have fv : ¬ 9223372036854775807 < u.size + 1 + v.size := by omega
  obtain ⟨t, ht⟩ : ∃ t, askText 1 s = t := ⟨_, rfl⟩
  rw [ht] at HT ⊢
  clear hW r0 r1 h hz h1 h8 e0 hsz hXe ht hx hy hu hv hbd
  go_enter Tryz.func22, Tryz.ntmps22
  go_wp2_with fail
  rw [HW.out]
  go_upto_region 17 with (first
    | (go_at_call 50; refine (HPL.out _).mono ?_; rintro e w6 ⟨g6, c6, b6, rfl, hc6, hrow6, hb6⟩; have l6 : Lin W w2.heap.size s g2 c2 L zs w6 := Lin.call l4 hb6; have hrr := l6.ext.row R1.out; have f0 := frozen_of_row _ _ 0 _ _ hrr; have f1 := frozen_of_row _ _ 1 _ _ hrr; have m0 := cell_of_row _ _ 0 _ _ _ hrr; have m1 := cell_of_row _ _ 1 _ _ _ hrr; have n0 := l6.cells.1; have n1 := l6.cells.2; have qq := pair_put hrr (.string s) (.slice (some ⟨g2, 0, none⟩) L c2); have rq0 := cell_of_row _ _ 0 _ _ _ qq; have rq1 := cell_of_row _ _ 1 _ _ _ qq; clear hrr qq; have HROW := Lib.hid hrow6; clear hrow6)
    | (go_at_call 24; refine HDK.out.mono ?_; rintro e w1 ⟨rfl, hb1⟩; have E1 : Ext W w1 := hb1; have hr1 := E1.row R0.out; have k0 := cell_of_row _ _ 0 _ _ _ hr1; have k1 := cell_of_row _ _ 1 _ _ _ hr1; clear hb1 hr1)
    | (go_at_call 38; refine (HCP.out w1 E1).mono ?_; rintro e w2 ⟨g2, c2, rfl, hp2, hg2, E2⟩; have hO : w.heap.size + 1 < w2.heap.size := (by have h8 := E2.size; have h9 := HWS.out; omega); have l3 := lin_new (x := s) E2 hp2 hg2; clear hp2 hg2)
    | (go_at_call 48; refine (HRD.out _).mono ?_; rintro e w4 ⟨rfl, hb4⟩; have l4 := (l3.call hb4).alloc (.cells #[.int .i64 0, .int .i64 0] 53); have hr4 := l4.ext.row R0.out; have l0 := cell_of_row _ _ 0 _ _ _ hr4; have hrr := l4.ext.row R1.out; have f0 := frozen_of_row _ _ 0 _ _ hrr; have f1 := frozen_of_row _ _ 1 _ _ hrr; have m0 := cell_of_row _ _ 0 _ _ _ hrr; have m1 := cell_of_row _ _ 1 _ _ _ hrr; have n0 := l4.cells.1; have n1 := l4.cells.2; have qq := pair_put hrr (.string s) (.slice (some ⟨g2, 0, none⟩) L c2); have rq0 := cell_of_row _ _ 0 _ _ _ qq; have rq1 := cell_of_row _ _ 1 _ _ _ qq; clear hrr qq; clear hb4 hr4))
  have HB6 : Hid (∀ Y, Ext w6 Y → Y.cell? ⟨b6, 0, none⟩ = some (.int .i64 x) ∧ Y.cell? ⟨b6, 1, none⟩ = some (.int .i64 y)) := fun Y hY => by
    have h9 := pair_cells (hY.row HROW.out)
    rwa [HEND.out] at h9
  have e6 : Ext w6 w6 := Ext.refl w6
  obtain ⟨p0, p1⟩ := HB6.out w6 e6
  have hbn : b6 ≠ w.heap.size + 1 := fun e9 => by
    have h9 := HROW.out
    rw [e9, l6.ext.row R1.out] at h9
    unfold pairBlock at h9
    simp at h9
  go_region_held3 (fun w' => (w'.cell? ⟨w2.heap.size, 0, none⟩ = some (.string s) ∧ w'.cell? ⟨w2.heap.size, 1, none⟩ = some (.slice (some ⟨g2, 0, none⟩) L c2)) ∧ w'.cell? ⟨b6, 0, none⟩ = some (.int .i64 x) ∧ w'.cell? ⟨b6, 1, none⟩ = some (.int .i64 y))
    (first
      | exact ⟨Lin.cells (by assumption), HB6.out _ (by assumption)⟩
      | exact ⟨(Lin.drew (by assumption)).cells, HB6.out _ (Ext.drew (by assumption))⟩
      | exact ⟨other_cells (by omega) (Lin.cells (by assumption)).1 (Lin.cells (by assumption)).2, other_cells hbn (HB6.out _ (by assumption)).1 (HB6.out _ (by assumption)).2⟩)
    (first
      | (go_at_call_of 51 (Value.int .i64 x); refine (HNX.out _).mono ?_; rintro e wx ⟨rfl, hbx⟩; have ex : Ext w6 wx := Ext.call (by first | assumption | exact Ext.drew (by assumption)) hbx; have lx := l6.call ex; have hrr := lx.ext.row R1.out; have f0 := frozen_of_row _ _ 0 _ _ hrr; have f1 := frozen_of_row _ _ 1 _ _ hrr; have m0 := cell_of_row _ _ 0 _ _ _ hrr; have m1 := cell_of_row _ _ 1 _ _ _ hrr; have n0 := lx.cells.1; have n1 := lx.cells.2; have qq := pair_put hrr (.string s) (.slice (some ⟨g2, 0, none⟩) L c2); have rq0 := cell_of_row _ _ 0 _ _ _ qq; have rq1 := cell_of_row _ _ 1 _ _ _ qq; clear hrr qq)
      | (go_at_call_of 51 (Value.int .i64 y); refine (HNY.out _).mono ?_; rintro e wy ⟨rfl, hby⟩; have ey : Ext w6 wy := Ext.call (by first | assumption | exact Ext.drew (by assumption)) hby; have ly := l6.call ey; have hrr := ly.ext.row R1.out; have f0 := frozen_of_row _ _ 0 _ _ hrr; have f1 := frozen_of_row _ _ 1 _ _ hrr; have m0 := cell_of_row _ _ 0 _ _ _ hrr; have m1 := cell_of_row _ _ 1 _ _ _ hrr; have n0 := ly.cells.1; have n1 := ly.cells.2; have qq := pair_put hrr (.string s) (.slice (some ⟨g2, 0, none⟩) L c2); have rq0 := cell_of_row _ _ 0 _ _ _ qq; have rq1 := cell_of_row _ _ 1 _ _ _ qq; clear hrr qq))
  all_goals
    have HT2 : t = u ++ ⟨#[44]⟩ ++ v := HT.out
    subst HT2
    go_wp2
    refine bodyPost_ret (v := .tuple #[.agg #[.string s, .slice (some ⟨g2, 0, none⟩) L c2], .string (u ++ ⟨#[44]⟩ ++ v)]) (by simp [results, Tryz.results22, go_sem, rq0, rq1]) rfl ?_
    exact lin_done E0.out (by first | assumption | exact Lin.drew (by assumption)) HWS.out
theorem specLine_ask (s : ByteArray) (a : Option Addr) (c L : Nat) (zs : List ByteArray) (X : ByteArray) (w : World) (h : StrsAt w (.slice a L c) zs) (HL : Hid (zs.length = L)) (hok : Hid (deskOk s zs = true)) (hX : X.size ≤ 1048576) (hr : Hid (readOf X.data.toList = ((0, 0), false))) (k : Nat) (hk : k < 9) (hXe : askWords.getD k ⟨#[]⟩ = X) :
    Calls Tryz.prog 22 #[.agg #[.string s, .slice a L c], .string X] w (LineOut w s zs (askText k s)) := by
  obtain rfl | rfl | rfl | rfl | rfl | rfl | rfl | rfl | rfl : k = 0 ∨ k = 1 ∨ k = 2 ∨ k = 3 ∨ k = 4 ∨ k = 5 ∨ k = 6 ∨ k = 7 ∨ k = 8 := by omega
  · exact specLine_0 s a c L zs X w h HL hok hX hr hXe.symm
  · exact specLine_1 s a c L zs X w h HL hok hX hr hXe.symm
  · exact specLine_2 s a c L zs X w h HL hok hX hr hXe.symm
  · exact specLine_3 s a c L zs X w h HL hok hX hr hXe.symm
  · exact specLine_4 s a c L zs X w h HL hok hX hr hXe.symm
  · exact specLine_5 s a c L zs X w h HL hok hX hr hXe.symm
  · exact specLine_6 s a c L zs X w h HL hok hX hr hXe.symm
  · exact specLine_7 s a c L zs X w h HL hok hX hr hXe.symm
  · exact specLine_8 s a c L zs X w h HL hok hX hr hXe.symm

end Go.Proofs.YtccdfndnjjjgfaaGreatDoor

namespace Go.Proofs.YtccdfndnjjjgfaaGreatDoor
open Go.RowKit

theorem ask_free {X : ByteArray} (h : askAt X = none) {i : Nat} (hi : i < 9) : askWords.getD i ⟨#[]⟩ ≠ X := fun e => by
  unfold askAt at h
  rw [List.findIdx?_eq_none_iff] at h
  have h2 := h (askWords.getD i ⟨#[]⟩) (by rw [List.getD_eq_getElem?_getD, List.getElem?_eq_getElem (by exact hi)]; exact List.getElem_mem _)
  rw [e] at h2
  exact absurd h2 (by simp)
theorem list_free {X : ByteArray} (h : askAt X = none) {i : Nat} (hi : i < 9) {l : List UInt8} (hl : (askWords.getD i ⟨#[]⟩).data.toList = l) : (X.toList == l) = false := by
  rw [Lib.toList_data, ← hl]
  refine beq_false_of_ne fun e => ask_free h hi ?_
  rw [← Tw.str_of X, e, Tw.str_of]
/-- At a part that is no number. -/
theorem curve_bad {p0 : List UInt8} {qs : List (List UInt8)} {p : List UInt8} (h : p ∈ qs) (hp : numOk p 4 = false) : curveOf (p0 :: qs) = whatText := by
  rcases qs with _ | ⟨a, _ | ⟨b, _ | ⟨d, _ | ⟨f, g⟩⟩⟩⟩
  · rfl
  · rfl
  · refine if_neg fun h9 => ?_
    rcases List.mem_cons.1 h with rfl | h
    · rw [h9.2.1] at hp
      cases hp
    · rw [List.mem_singleton] at h
      subst h
      rw [h9.2.2] at hp
      cases hp
  · refine if_neg fun h9 => ?_
    rcases List.mem_cons.1 h with rfl | h
    · rw [h9.2.1] at hp
      cases hp
    · rcases List.mem_cons.1 h with rfl | h
      · rw [h9.2.2.1] at hp
        cases hp
      · rw [List.mem_singleton] at h
        subst h
        rw [h9.2.2.2] at hp
        cases hp
  · rfl
theorem curve_not {p0 : List UInt8} {qs : List (List UInt8)} (h1 : ¬ (p0 = cellWord ∧ qs.length = 2)) (h2 : ¬ (p0 = numberWord ∧ qs.length = 3)) : curveOf (p0 :: qs) = whatText := by
  rcases qs with _ | ⟨a, _ | ⟨b, _ | ⟨d, _ | ⟨f, g⟩⟩⟩⟩
  · rfl
  · rfl
  · exact if_neg fun h9 => h1 ⟨h9.1, rfl⟩
  · exact if_neg fun h9 => h2 ⟨h9.1, rfl⟩
  · rfl
theorem str_is {p : List UInt8} {z : ByteArray} (hz : Tw.str p = z) (l : List UInt8) : (z.toList == l) = decide (p = l) := by
  rw [← hz, Lib.toList_data, Tw.str_data, Bool.eq_iff_iff, beq_iff_eq, decide_eq_true_iff]
theorem cutAll_cons_some (sep : UInt8) (l : List UInt8) : ∃ p0 qs, cutAll sep l = p0 :: qs := by
  unfold cutAll
  cases (cutState sep l).1 with
  | nil => exact ⟨_, _, rfl⟩
  | cons a b => exact ⟨_, _, rfl⟩

set_option maxRecDepth 100000 in
set_option maxHeartbeats 1600000 in
theorem specLine_deed (s : ByteArray) (a : Option Addr) (c L : Nat) (zs : List ByteArray) (X : ByteArray) (d1 d2 : Int) (w : World) (h : StrsAt w (.slice a L c) zs) (HL : Hid (zs.length = L)) (hok : Hid (deskOk s zs = true)) (hX : X.size ≤ 1048576) (hr : Hid (readOf X.data.toList = ((d1, d2), true)))
    (x : ByteArray) (ys : List ByteArray) (b : Bool) (hd : Hid (deskDone s zs d1 d2 = (x, ys, b))) (hkn : -9223372036854775808 ≤ d2 ∧ d2 ≤ 9223372036854775807) :
    Calls Tryz.prog 22 #[.agg #[.string s, .slice a L c], .string X] w (LineOut w x ys (okWord b)) := by
  obtain ⟨h1, h8, hz⟩ := deskOk_parts hok.out
  have h40 : s.size ≤ 40 := by have := Tw.walkOk_len h1; rwa [size_data] at this
  obtain ⟨e0, hsz, r0, r1⟩ := desk2_in w s (.slice a L c)
  obtain ⟨W, hW⟩ : ∃ W, deskBox2 w s (.slice a L c) = W := ⟨_, rfl⟩
  rw [hW] at e0 hsz r0 r1
  unfold deskBox2 at hW
  have HW := Lib.hid hW
  have HDK := Lib.hid (deskOk_named s (.slice a L c) zs W (e0.strs h) (by have := ok_size h1; omega) (by omega) (fun z hz9 => by have := ok_size (hz z hz9); omega) true hok.out)
  have HRD : Hid (∀ Y : World, Calls Tryz.prog 48 #[.string X] Y fun e w' => e = .returned (.tuple #[.agg #[.int .i64 d1, .int .i64 d2], .bool true]) ∧ Below Y.heap.size Y w') := fun Y => by
    refine (specReadDeed X Y hX).mono ?_
    rintro e w' ⟨he, hb⟩
    rw [hr.out] at he
    exact ⟨he, hb⟩
  have HCP : Hid (∀ Y, Ext W Y → Calls Tryz.prog 38 #[.agg #[.string s, .slice a L c]] Y fun e w' => ∃ g2 c2, e = .returned (.agg #[.string s, .slice (some ⟨g2, 0, none⟩) L c2]) ∧ PastAt w' (.slice (some ⟨g2, 0, none⟩) L c2) zs ∧ W.heap.size ≤ g2 ∧ Ext W w') := fun Y hY => by
    refine (copy_named s (.slice a L c) zs Y ((e0.trans hY).strs h) L HL.out (by have := HL.out; omega)).mono ?_
    rintro e w' ⟨g2, c2, he, hown2, hp2, hb2⟩
    exact ⟨g2, c2, he, hp2, by have := (hown2.lt g2 rfl).1; have := hY.size; omega, hY.call hb2⟩
  have R0 := Lib.hid r0
  have R1 := Lib.hid r1
  have E0 := Lib.hid e0
  have c0 := cell_of_row _ _ 0 _ _ _ r0
  have c1 := cell_of_row _ _ 1 _ _ _ r0
  have HWS := Lib.hid hsz
  have HDO : Hid (∀ Y, Ext w Y → Calls Tryz.prog 49 #[.agg #[.string s, .slice a L c], .agg #[.int .i64 d1, .int .i64 d2]] Y (DeskOut Y x ys b)) := fun Y hY => by
    have := specDeskDone s (.slice a L c) zs d1 d2 Y (hY.strs h) hok.out hkn
    rw [hd.out] at this
    exact this
  clear hW r0 r1 h hz h1 h8 e0 hsz
  cases b
  all_goals
    go_enter Tryz.func22, Tryz.ntmps22
    go_wp2_with fail
    rw [HW.out]
    go_wp2_with (first
    | (go_at_call 24; refine HDK.out.mono ?_; rintro e w1 ⟨rfl, hb1⟩; have E1 : Ext W w1 := hb1; have hr1 := E1.row R0.out; have k0 := cell_of_row _ _ 0 _ _ _ hr1; have k1 := cell_of_row _ _ 1 _ _ _ hr1; clear hb1 hr1)
    | (go_at_call 38; refine (HCP.out w1 E1).mono ?_; rintro e w2 ⟨g2, c2, rfl, hp2, hg2, E2⟩; have hO : w.heap.size + 1 < w2.heap.size := (by have h8 := E2.size; have h9 := HWS.out; omega); have l3 := lin_new (x := s) E2 hp2 hg2; clear hp2 hg2)
    | (go_at_call 48; refine (HRD.out _).mono ?_; rintro e w4 ⟨rfl, hb4⟩; have l4 := (l3.call hb4).alloc (.cells #[.int .i64 d1, .int .i64 d2] 53); have hr4 := l4.ext.row R0.out; have l0 := cell_of_row _ _ 0 _ _ _ hr4; have l1 := cell_of_row _ _ 1 _ _ _ hr4; have hrr := l4.ext.row R1.out; have f0 := frozen_of_row _ _ 0 _ _ hrr; have f1 := frozen_of_row _ _ 1 _ _ hrr; have m0 := cell_of_row _ _ 0 _ _ _ hrr; have m1 := cell_of_row _ _ 1 _ _ _ hrr; have n0 := l4.cells.1; have n1 := l4.cells.2; have qq := pair_put hrr (.string s) (.slice (some ⟨g2, 0, none⟩) L c2); have rq0 := cell_of_row _ _ 0 _ _ _ qq; have rq1 := cell_of_row _ _ 1 _ _ _ qq; clear hrr qq; clear hb4 hr4)
    | (go_at_call 49; refine (HDO.out _ (E0.out.trans l4.ext)).mono ?_; rintro e w5 ⟨v5, rfl, hp5, hf5, hb5⟩; obtain ⟨a5, c5, hv5⟩ := past_slice hp5 rfl; subst hv5; have E5 : Ext W w5 := Ext.call l4.ext hb5; have P5 := Lib.hid hp5; have F5 := Lib.hid (fresh_ext l4.ext hf5); have E5A : Hid (Ext W (w5.alloc (.cells #[.string x, .slice a5 ys.length c5] 27))) := E5.alloc _; have hrb := E5A.out.row R1.out; have f0 := frozen_of_row _ _ 0 _ _ hrb; have f1 := frozen_of_row _ _ 1 _ _ hrb; have m0 := cell_of_row _ _ 0 _ _ _ hrb; have m1 := cell_of_row _ _ 1 _ _ _ hrb; have q := pair_put hrb (.string x) (.slice a5 ys.length c5); have q0 := cell_of_row _ _ 0 _ _ _ q; have q1 := cell_of_row _ _ 1 _ _ _ q; clear hp5 hf5 hb5 hrb q))
  · refine bodyPost_ret (v := .tuple #[.agg #[.string x, .slice a5 ys.length c5], .string ⟨#[110, 111, 116]⟩]) (by simp [results, Tryz.results22, go_sem, q0, q1]) rfl ?_
    exact line_done (R := w.heap.size + 1) (t := ⟨#[110, 111, 116]⟩) (E0.out.trans E5A.out) (((Ext.refl _).alloc _).past P5.out) (fresh_ext E0.out F5.out) (fun h9 => by have := F5.out _ h9; have := HWS.out; omega) (by omega)
  · refine bodyPost_ret (v := .tuple #[.agg #[.string x, .slice a5 ys.length c5], .string ⟨#[111, 107]⟩]) (by simp [results, Tryz.results22, go_sem, q0, q1]) rfl ?_
    exact line_done (R := w.heap.size + 1) (t := ⟨#[111, 107]⟩) (E0.out.trans E5A.out) (((Ext.refl _).alloc _).past P5.out) (fresh_ext E0.out F5.out) (fun h9 => by have := F5.out _ h9; have := HWS.out; omega) (by omega)
set_option maxRecDepth 100000 in
set_option maxHeartbeats 800000 in
theorem specLine_none (s : ByteArray) (a : Option Addr) (c L : Nat) (zs : List ByteArray) (X : ByteArray) (w : World) (h : StrsAt w (.slice a L c) zs) (HL : Hid (zs.length = L)) (hs : s.size ≤ 1048576) (hL : L ≤ 1048576) (hz : ∀ z ∈ zs, z.size ≤ 1048576) (hok : deskOk s zs = false) :
    Calls Tryz.prog 22 #[.agg #[.string s, .slice a L c], .string X] w (LineOut w ⟨#[]⟩ [] ⟨#[]⟩) := by
  obtain ⟨e0, hsz, r0, r1⟩ := desk2_in w s (.slice a L c)
  obtain ⟨W, hW⟩ : ∃ W, deskBox2 w s (.slice a L c) = W := ⟨_, rfl⟩
  rw [hW] at e0 hsz r0 r1
  unfold deskBox2 at hW
  have HW := Lib.hid hW
  have HDK := Lib.hid (deskOk_named s (.slice a L c) zs W (e0.strs h) hs (by rw [HL.out]; exact hL) hz false hok)
  have R1 := Lib.hid r1
  have c0 := cell_of_row _ _ 0 _ _ _ r0
  have c1 := cell_of_row _ _ 1 _ _ _ r0
  clear hW r0 r1 h hok hz
  go_enter Tryz.func22, Tryz.ntmps22
  go_wp2_with fail
  rw [HW.out]
  go_wp2_with (first
    | (go_at_call 24; refine HDK.out.mono ?_; rintro e w1 ⟨rfl, hb1⟩; have e1 : Ext W w1 := hb1; have hr := e1.row R1.out; have f0 := frozen_of_row _ _ 0 _ _ hr; have f1 := frozen_of_row _ _ 1 _ _ hr; have k0 := cell_of_row _ _ 0 _ _ _ hr; have k1 := cell_of_row _ _ 1 _ _ _ hr; have q := pair_put hr (.string ⟨#[]⟩) (.slice none 0 0); have q0 := cell_of_row _ _ 0 _ _ _ q; have q1 := cell_of_row _ _ 1 _ _ _ q; clear hr q hb1))
  refine bodyPost_ret (v := .tuple #[.agg #[.string ⟨#[]⟩, .slice none 0 0], .string ⟨#[]⟩]) (by simp [results, Tryz.results22, go_sem, q0, q1]) rfl ?_
  exact line_done (R := w.heap.size + 1) (e0.trans e1) (.inl ⟨rfl, rfl⟩) (Fresh.none _) (fun h9 => by cases h9) (by omega)
set_option maxRecDepth 100000 in
set_option maxHeartbeats 3200000 in
theorem specLine_curve (s : ByteArray) (a : Option Addr) (c L : Nat) (zs : List ByteArray) (X : ByteArray) (w : World) (h : StrsAt w (.slice a L c) zs) (HL : Hid (zs.length = L)) (hok : Hid (deskOk s zs = true)) (hX : X.size ≤ 1048576) (hr : Hid (readOf X.data.toList = ((0, 0), false))) (hat : askAt X = none) :
    Calls Tryz.prog 22 #[.agg #[.string s, .slice a L c], .string X] w (LineOut w s zs (curveText X.data.toList)) := by
  have q0 : (X.toList == [119, 97, 108, 107]) = false := list_free hat (i := 0) (by omega) rfl
  have q1 : (X.toList == [101, 110, 100]) = false := list_free hat (i := 1) (by omega) rfl
  have q2 : (X.toList == [99, 108, 111, 115, 101, 100]) = false := list_free hat (i := 2) (by omega) rfl
  have q3 : (X.toList == [115, 105, 109, 112, 108, 101]) = false := list_free hat (i := 3) (by omega) rfl
  have q4 : (X.toList == [97, 118, 111, 105, 100, 115]) = false := list_free hat (i := 4) (by omega) rfl
  have q5 : (X.toList == [116, 117, 114, 110, 105, 110, 103]) = false := list_free hat (i := 5) (by omega) rfl
  have q6 : (X.toList == [97, 114, 101, 97]) = false := list_free hat (i := 6) (by omega) rfl
  have q7 : (X.toList == [119, 105, 110, 100, 105, 110, 103]) = false := list_free hat (i := 7) (by omega) rfl
  have q8 : (X.toList == [115, 113, 117, 97, 114, 101, 115]) = false := list_free hat (i := 8) (by omega) rfl
  obtain ⟨h1, h8, hz⟩ := deskOk_parts hok.out
  have h40 : s.size ≤ 40 := by have := Tw.walkOk_len h1; rwa [size_data] at this
  obtain ⟨e0, hsz, r0, r1⟩ := desk2_in w s (.slice a L c)
  obtain ⟨W, hW⟩ : ∃ W, deskBox2 w s (.slice a L c) = W := ⟨_, rfl⟩
  rw [hW] at e0 hsz r0 r1
  unfold deskBox2 at hW
  have HW := Lib.hid hW
  have HDK := Lib.hid (deskOk_named s (.slice a L c) zs W (e0.strs h) (by have := ok_size h1; omega) (by omega) (fun z hz9 => by have := ok_size (hz z hz9); omega) true hok.out)
  have HRD : Hid (∀ Y : World, Calls Tryz.prog 48 #[.string X] Y fun e w' => e = .returned (.tuple #[.agg #[.int .i64 0, .int .i64 0], .bool false]) ∧ Below Y.heap.size Y w') := fun Y => by
    refine (specReadDeed X Y hX).mono ?_
    rintro e w' ⟨he, hb⟩
    rw [hr.out] at he
    exact ⟨he, hb⟩
  have HCP : Hid (∀ Y, Ext W Y → Calls Tryz.prog 38 #[.agg #[.string s, .slice a L c]] Y fun e w' => ∃ g2 c2, e = .returned (.agg #[.string s, .slice (some ⟨g2, 0, none⟩) L c2]) ∧ PastAt w' (.slice (some ⟨g2, 0, none⟩) L c2) zs ∧ W.heap.size ≤ g2 ∧ Ext W w') := fun Y hY => by
    refine (copy_named s (.slice a L c) zs Y ((e0.trans hY).strs h) L HL.out (by have := HL.out; omega)).mono ?_
    rintro e w' ⟨g2, c2, he, hown2, hp2, hb2⟩
    exact ⟨g2, c2, he, hp2, by have := (hown2.lt g2 rfl).1; have := hY.size; omega, hY.call hb2⟩
  have R0 := Lib.hid r0
  have R1 := Lib.hid r1
  have E0 := Lib.hid e0
  have c0 := cell_of_row _ _ 0 _ _ _ r0
  have c1 := cell_of_row _ _ 1 _ _ _ r0
  have HWS := Lib.hid hsz
  have hsz2 : s.size ≤ 1048576 := by omega
  have hcut := fun Y => cut_any X 32 Y hX
  have hwf := words_few 32 X
  obtain ⟨p0, qs, hps⟩ := cutAll_cons_some 32 X.data.toList
  have HTX : Hid (curveText X.data.toList = curveOf (p0 :: qs)) := by show _ = _; unfold curveText; rw [hps]
  have hwd : words 32 X = (p0 :: qs).map Tw.str := by unfold words; rw [hps]
  have hpz : ∀ p ∈ p0 :: qs, p.length ≤ 1048576 := fun p hp => by
    rw [← hps] at hp
    have := part_size hp
    rw [size_data] at this
    omega
  rw [hwd] at hcut hwf
  obtain ⟨n, hn⟩ : ∃ n, qs.length = n := ⟨_, rfl⟩
  have hn1 : ((p0 :: qs).map Tw.str).length = n + 1 := by rw [List.length_map, List.length_cons, hn]
  rw [hn1] at hcut hwf
  have HCUT : Hid (∀ Y : World, Calls Tryz.prog 61 #[.string X, .int .u8 32] Y fun e w' => ∃ g cap, e = .returned (.slice (some ⟨g, 0, none⟩) (n + 1) cap) ∧ w'.ownsRow Y.heap.size 9 1 (.slice (some ⟨g, 0, none⟩) (n + 1) cap) (n + 1) (strVals ((p0 :: qs).map Tw.str)) ∧ Below Y.heap.size Y w') := fun Y => hcut Y
  have HPZ := Lib.hid hpz
  have HN := Lib.hid hn
  obtain ⟨i0, hi0, hz0, hz1, hz2⟩ := info_parts lineIntInfo
  clear hW r0 r1 h hz h1 h8 e0 hsz hcut hps hwd hpz hn hn1 hat
  go_enter Tryz.func22, Tryz.ntmps22
  go_wp2_with fail
  rw [HW.out]
  go_wp2_with (first
    | (go_at_call 61; refine (HCUT.out _).mono ?_; rintro e w7 ⟨g7, c7, rfl, hown7, hb7⟩; have l7 : Lin W w2.heap.size s g2 c2 L zs w7 := Lin.call l4 hb7; have HO7 := Lib.hid hown7; clear hown7)
    | (go_at_call 24; refine HDK.out.mono ?_; rintro e w1 ⟨rfl, hb1⟩; have E1 : Ext W w1 := hb1; have hr1 := E1.row R0.out; have k0 := cell_of_row _ _ 0 _ _ _ hr1; have k1 := cell_of_row _ _ 1 _ _ _ hr1; clear hb1 hr1)
    | (go_at_call 38; refine (HCP.out w1 E1).mono ?_; rintro e w2 ⟨g2, c2, rfl, hp2, hg2, E2⟩; have hO : w.heap.size + 1 < w2.heap.size := (by have h8 := E2.size; have h9 := HWS.out; omega); have l3 := lin_new (x := s) E2 hp2 hg2; clear hp2 hg2)
    | (go_at_call 48; refine (HRD.out _).mono ?_; rintro e w4 ⟨rfl, hb4⟩; have l4 := (l3.call hb4).alloc (.cells #[.int .i64 0, .int .i64 0] 53); have hr4 := l4.ext.row R0.out; have l0 := cell_of_row _ _ 0 _ _ _ hr4; have hrr := l4.ext.row R1.out; have f0 := frozen_of_row _ _ 0 _ _ hrr; have f1 := frozen_of_row _ _ 1 _ _ hrr; have m0 := cell_of_row _ _ 0 _ _ _ hrr; have m1 := cell_of_row _ _ 1 _ _ _ hrr; have n0 := l4.cells.1; have n1 := l4.cells.2; have qq := pair_put hrr (.string s) (.slice (some ⟨g2, 0, none⟩) L c2); have rq0 := cell_of_row _ _ 0 _ _ _ qq; have rq1 := cell_of_row _ _ 1 _ _ _ qq; clear hrr qq; clear hb4 hr4))
  have HCELL : Hid (∀ (k : Nat) (p : List UInt8), (p0 :: qs)[k]? = some p → w7.cell? ⟨g7, k, none⟩ = some (.string (Tw.str p))) := fun k p hk => by
    have hlt : k < n + 1 := by have := (List.getElem?_eq_some_iff.1 hk).1; rw [List.length_cons, HN.out] at this; exact this
    rw [HO7.out.cellAt k (by omega)]
    unfold strVals
    rw [List.getElem?_map, List.getElem?_map, hk]
    rfl
  have hg7 := (HO7.out.lt g7 rfl).1
  have HO1 := Lib.hid (own_none w7 3 w7.heap.size (Nat.le_refl _))
  have hO2 := l7.high
  clear m0 m1 f0 f1 n0 n1 rq0 rq1 k0 k1 l0
  go_loopw [15, 16] (fun o i wr => ∃ (j k g cap : Nat), i = .int .i64 k ∧ Hid (k = j + 1) ∧ j ≤ n ∧ o = .slice (some ⟨g, 0, none⟩) j cap ∧ wr.ownsRow w7.heap.size 3 1 (.slice (some ⟨g, 0, none⟩) j cap) j (intVals (qs.take j)) ∧ Hid ((qs.take j).all (fun p => numOk p 4) = true) ∧ Lin W w2.heap.size s g2 c2 L zs wr ∧ Ext w7 wr)
    (fun _ i _ => n + 1 - (intOf i).toNat)
  case atStart => exact ⟨0, 1, _, _, rfl, rfl, Nat.zero_le _, rfl, HO1.out, rfl, l7.alloc _, (Ext.refl w7).alloc _⟩
  case round =>
    obtain ⟨j, k, g, cap, rfl, HK, hj, rfl, hown, HAL, lr, e7⟩ := hrel
    have hrr := lr.ext.row R1.out
    have f0 := frozen_of_row _ _ 0 _ _ hrr
    have f1 := frozen_of_row _ _ 1 _ _ hrr
    have m0 := cell_of_row _ _ 0 _ _ _ hrr
    have m1 := cell_of_row _ _ 1 _ _ _ hrr
    have n0 := lr.cells.1
    have n1 := lr.cells.2
    have qq := pair_put hrr (.string s) (.slice (some ⟨g2, 0, none⟩) L c2)
    have rq0 := cell_of_row _ _ 0 _ _ _ qq
    have rq1 := cell_of_row _ _ 1 _ _ _ qq
    clear hrr qq
    have hk1 : k = j + 1 := HK.out
    have hkI : (k : Int) = (j : Int) + 1 := by omega
    have HKI := Lib.hid hkI
    by_cases hlt : j < n
    · have hkn : (k : Int) < (n : Int) + 1 := by omega
      have hk0 : (0 : Int) ≤ (k : Int) := by omega
      obtain ⟨p, hp⟩ : ∃ p, qs[j]? = some p := ⟨qs[j]'(by rw [HN.out]; exact hlt), List.getElem?_eq_getElem (by rw [HN.out]; exact hlt)⟩
      have hpk : (p0 :: qs)[k]? = some p := by rw [hk1, List.getElem?_cons_succ]; exact hp
      have d0 := cell_keep e7 (HCELL.out k p hpk)
      have hrn := digits_any (Tw.str p) wr (by have := HPZ.out p (List.mem_of_getElem? hpk); rw [Tw.str_size]; omega)
      rw [Tw.str_data] at hrn
      unfold digitsRes at hrn
      obtain ⟨x, hx⟩ : ∃ x, Tw.str p = x := ⟨_, rfl⟩
      rw [hx] at d0 hrn
      have HP := Lib.hid hp
      have hgb := (hown.lt g rfl).1
      have hsz7 := e7.size
      have hj2 : j < 2000000 := by omega
      cases hnp : numOk p 4
      · rw [hnp] at hrn
        have HRN := Lib.hid hrn
        have HT2 : Hid (curveText X.data.toList = whatText) := HTX.out.trans (curve_bad (List.mem_of_getElem? hp) hnp)
        clear hx hrn hnp hp hpk hkI hk1 hown
        go_wp2_with (first
          | (go_at_call 62; refine HRN.out.mono ?_; rintro e w3 ⟨rfl, rfl⟩))
        refine bodyPost_ret (v := .tuple #[.agg #[.string s, .slice (some ⟨g2, 0, none⟩) L c2], .string ⟨#[119, 104, 97, 116]⟩]) (by simp [results, Tryz.results22, go_sem, rq0, rq1]) rfl ?_
        rw [HT2.out]
        exact lin_done E0.out lr HWS.out
      · rw [hnp, if_pos rfl] at hrn
        have HNP := Lib.hid hnp
        have hm9 := num_four hnp
        obtain ⟨m, hmv⟩ : ∃ m, numVal p = m := ⟨_, rfl⟩
        rw [hmv] at hrn hm9
        have HMV := Lib.hid hmv
        have HRN := Lib.hid hrn
        clear hx hrn hnp hp hpk hmv hkI hk1
        go_wp2_with (first
          | (go_at_call 62; refine HRN.out.mono ?_; rintro e w3 ⟨rfl, rfl⟩)
          | (at_builtin; refine wpList_append_lies _ rfl _ _ 77 rfl w7.heap.size 3 i0 _ 1 8 Tryz.underlying77 hi0 hz0 hz1 hz2 rfl (by omega) _ j _ rfl (hown.alloc _) ⟨wr.heap.size, 0, none⟩ 1 1 [.int .i64 (m : Int)] rfl rfl (World.news_of_block (cs := #[.int .i64 (m : Int)]) (t := 3) (fr := (0, 0)) (heap_alloc_new wr _)) (by simp [Value.oneCell']) (by omega) (by unfold maxLen; omega) (by omega) (by simp; omega) (wr.heap.size + 1) (by simp) ?_; intro g4 cap4 w4' hown4 hgrow4 hat4 hlt4))
        have hb9 : Below w7.heap.size wr w4' := (((Ext.refl wr).alloc (.cells #[.int .i64 (m : Int)] 3)).mono hsz7).grown hgrow4 (by simp; omega) (fun j9 hj9 => by have h9 : g = j9 := Option.some.inj hj9; omega)
        go_roundw
        case rel =>
          refine ⟨j + 1, k + 1, g4, cap4, by go_num, (by show _ = _; rw [HK.out]), by omega, rfl, ?_, all_more HP.out HAL.out HNP.out, lin_grown lr hb9 l7 (Nat.le_refl _), ?_⟩
          · rw [intVals_snoc HP.out, HMV.out]
            exact hown4
          · exact Below.trans e7 hb9
        case measure => have := HKI.out; simp [intOf]; omega
    · obtain rfl : j = n := by omega
      have hg1 := (hown.lt g rfl).1
      have hall := HAL.out
      rw [List.take_of_length_le (by rw [HN.out]; exact Nat.le_refl _)] at hall hown
      have hkn : ¬ (k : Int) < (j : Int) + 1 := by omega
      have d0 := cell_keep e7 (HCELL.out 0 p0 rfl)
      obtain ⟨z, hz⟩ : ∃ z, Tw.str p0 = z := ⟨_, rfl⟩
      rw [hz] at d0
      have zc := str_is hz [99, 101, 108, 108]
      have zn := str_is hz [110, 117, 109, 98, 101, 114]
      have hj0 : (0 : Int) < (j : Int) + 1 := by omega
      have HALL := Lib.hid hall
      have HTX1 := HTX.out
      have HLEN := HN.out
      clear hall hz hkI hk1 HTX HN
      by_cases hA : p0 = cellWord ∧ j = 2
      · obtain ⟨hA1, rfl⟩ := hA
        rw [show decide (p0 = [99, 101, 108, 108]) = true from decide_eq_true hA1] at zc
        match qs, HLEN, HALL, HTX1, hown with
        | [pa, pb], _, HALL, HTX1, hown =>
          have hok2 := HALL.out
          simp only [List.all_cons, List.all_nil, Bool.and_true, Bool.and_eq_true] at hok2
          have hT1 : curveOf [p0, pa, pb] = cellText (numVal pa) (numVal pb) := if_pos ⟨hA1, hok2.1, hok2.2⟩
          have HT2 := HTX1.trans hT1
          have l00 := hown.cellAt 0 (by omega)
          have l01 := hown.cellAt 1 (by omega)
          have ha9 := num_four hok2.1
          have e0a : (intVals [pa, pb])[0]? = some (.int .i64 (numVal pa : Nat)) := rfl
          have e1a : (intVals [pa, pb])[1]? = some (.int .i64 (numVal pb : Nat)) := rfl
          rw [e0a] at l00
          rw [e1a] at l01
          obtain ⟨ia, hia⟩ : ∃ i, numVal pa = i := ⟨_, rfl⟩
          obtain ⟨ib, hib⟩ : ∃ i, numVal pb = i := ⟨_, rfl⟩
          rw [hia] at l00 HT2 ha9
          rw [hib] at l01 HT2
          have hc := fun Y => specCellOf ia ib ha9 Y
          unfold CellOut at hc
          have hsm := cell_small ia ib
          unfold cellText at HT2
          obtain ⟨c1', hc1⟩ : ∃ c, (cellRes ia ib).1.1 = c := ⟨_, rfl⟩
          obtain ⟨c2', hc2⟩ : ∃ c, (cellRes ia ib).1.2 = c := ⟨_, rfl⟩
          obtain ⟨t, htt⟩ : ∃ t, (cellRes ia ib).2 = t := ⟨_, rfl⟩
          rw [hc1, hc2, htt] at HT2
          simp only [hc1, hc2, htt] at hc
          rw [hc1, hc2] at hsm
          have HC := Lib.hid hc
          clear hc hc1 hc2 htt hia hib e0a e1a hT1 hok2 HTX1 HALL hown zn
          cases t
          · have HT3 : Hid (curveText X.data.toList = ⟨#[110, 111, 110, 101]⟩) := HT2
            clear HT2
            go_upto_region 42 with (fail)
            go_region_held3 (fun w' => w'.cell? ⟨g, 0, none⟩ = some (.int .i64 (ia : Int)) ∧ w'.cell? ⟨g, 1, none⟩ = some (.int .i64 (ib : Int)))
              (exact ⟨l00, l01⟩)
              (first
                | (go_at_call 63; refine (HC.out _).mono ?_; rintro e w9 ⟨rfl, rfl⟩))
            all_goals
              go_wp2
              refine bodyPost_ret (v := .tuple #[.agg #[.string s, .slice (some ⟨g2, 0, none⟩) L c2], .string ⟨#[110, 111, 110, 101]⟩]) (by simp [results, Tryz.results22, go_sem, rq0, rq1]) rfl ?_
              rw [HT3.out]
              first | exact lin_done E0.out (by first | assumption | exact Lin.drew (by assumption)) HWS.out | exact line_drew (lin_done E0.out (by first | assumption | exact Lin.drew (by assumption)) HWS.out)
          · obtain ⟨u, hu⟩ : ∃ u, numText (c1' : Int) = u := ⟨_, rfl⟩
            obtain ⟨v, hv⟩ : ∃ u, numText (c2' : Int) = u := ⟨_, rfl⟩
            have su := numText_len (n := (c1' : Int)) (by omega) (by omega)
            have sv := numText_len (n := (c2' : Int)) (by omega) (by omega)
            rw [hu] at su
            rw [hv] at sv
            have HT3 : Hid (curveText X.data.toList = u ++ ⟨#[44]⟩ ++ v) := by show _ = _; rw [HT2, ← hu, ← hv]; rfl
            have HNX : Hid (∀ Y : World, Calls Tryz.prog 51 #[.int .i64 (c1' : Int)] Y fun e w' => e = .returned (.string u) ∧ Below Y.heap.size Y w') := fun Y => hu ▸ number_int (c1' : Int) (by omega) (by omega) Y
            have HNY : Hid (∀ Y : World, Calls Tryz.prog 51 #[.int .i64 (c2' : Int)] Y fun e w' => e = .returned (.string v) ∧ Below Y.heap.size Y w') := fun Y => hv ▸ number_int (c2' : Int) (by omega) (by omega) Y
            have fu : ¬ 9223372036854775807 < u.size + 1 := by omega
            have fv : ¬ 9223372036854775807 < u.size + 1 + v.size := by omega
            clear HT2 hu hv
            go_upto_region 42 with (fail)
            go_region_held3 (fun w' => w'.cell? ⟨g, 0, none⟩ = some (.int .i64 (ia : Int)) ∧ w'.cell? ⟨g, 1, none⟩ = some (.int .i64 (ib : Int)))
              (exact ⟨l00, l01⟩)
              (first
                | (go_at_call 63; refine (HC.out _).mono ?_; rintro e w9 ⟨rfl, rfl⟩))
            all_goals
              go_upto_region 45 with (fail)
              go_region_held3 (fun w' => w'.cell? ⟨w2.heap.size, 0, none⟩ = some (.string s) ∧ w'.cell? ⟨w2.heap.size, 1, none⟩ = some (.slice (some ⟨g2, 0, none⟩) L c2))
                (first
                  | exact Lin.cells (by assumption)
                  | exact (Lin.drew (by assumption)).cells
                  | exact (Lin.drew (Lin.drew (by assumption))).cells
                  | exact other_cells (by omega) (Lin.cells (by assumption)).1 (Lin.cells (by assumption)).2)
                (first
                  | (go_at_call_of 51 (Value.int .i64 (c1' : Int)); refine (HNX.out _).mono ?_; rintro e wc1' ⟨rfl, hbc1'⟩; have lc1' : Lin W w2.heap.size s g2 c2 L zs wc1' := Lin.call (by first | assumption | exact Lin.drew (by assumption) | exact Lin.drew (Lin.drew (by assumption))) hbc1'; have hrr := lc1'.ext.row R1.out; have f0 := frozen_of_row _ _ 0 _ _ hrr; have f1 := frozen_of_row _ _ 1 _ _ hrr; have m0 := cell_of_row _ _ 0 _ _ _ hrr; have m1 := cell_of_row _ _ 1 _ _ _ hrr; have n0 := lc1'.cells.1; have n1 := lc1'.cells.2; have qq := pair_put hrr (.string s) (.slice (some ⟨g2, 0, none⟩) L c2); have rq0 := cell_of_row _ _ 0 _ _ _ qq; have rq1 := cell_of_row _ _ 1 _ _ _ qq; clear hrr qq)
                  | (go_at_call_of 51 (Value.int .i64 (c2' : Int)); refine (HNY.out _).mono ?_; rintro e wc2' ⟨rfl, hbc2'⟩; have lc2' : Lin W w2.heap.size s g2 c2 L zs wc2' := Lin.call (by first | assumption | exact Lin.drew (by assumption) | exact Lin.drew (Lin.drew (by assumption))) hbc2'; have hrr := lc2'.ext.row R1.out; have f0 := frozen_of_row _ _ 0 _ _ hrr; have f1 := frozen_of_row _ _ 1 _ _ hrr; have m0 := cell_of_row _ _ 0 _ _ _ hrr; have m1 := cell_of_row _ _ 1 _ _ _ hrr; have n0 := lc2'.cells.1; have n1 := lc2'.cells.2; have qq := pair_put hrr (.string s) (.slice (some ⟨g2, 0, none⟩) L c2); have rq0 := cell_of_row _ _ 0 _ _ _ qq; have rq1 := cell_of_row _ _ 1 _ _ _ qq; clear hrr qq))
            all_goals
              go_wp2
              refine bodyPost_ret (v := .tuple #[.agg #[.string s, .slice (some ⟨g2, 0, none⟩) L c2], .string (u ++ ⟨#[44]⟩ ++ v)]) (by simp [results, Tryz.results22, go_sem, rq0, rq1]) rfl ?_
              rw [HT3.out]
              first | exact lin_done E0.out (by first | assumption | exact Lin.drew (by assumption)) HWS.out | exact line_drew (lin_done E0.out (by first | assumption | exact Lin.drew (by assumption)) HWS.out)
      · by_cases hB : p0 = numberWord ∧ j = 3
        · obtain ⟨hB1, rfl⟩ := hB
          rw [show decide (p0 = [99, 101, 108, 108]) = false from decide_eq_false (by rw [hB1]; decide)] at zc
          rw [show decide (p0 = [110, 117, 109, 98, 101, 114]) = true from decide_eq_true hB1] at zn
          match qs, HLEN, HALL, HTX1, hown with
          | [pa, pb, pd], _, HALL, HTX1, hown =>
            have hok2 := HALL.out
            simp only [List.all_cons, List.all_nil, Bool.and_true, Bool.and_eq_true] at hok2
            have hT1 : curveOf [p0, pa, pb, pd] = numbText (numVal pa) (numVal pb) (numVal pd) := if_pos ⟨hB1, hok2.1, hok2.2.1, hok2.2.2⟩
            have HT2 := HTX1.trans hT1
            have l00 := hown.cellAt 0 (by omega)
            have l01 := hown.cellAt 1 (by omega)
            have l02 := hown.cellAt 2 (by omega)
            have ha9 := num_four hok2.1
            have e0a : (intVals [pa, pb, pd])[0]? = some (.int .i64 (numVal pa : Nat)) := rfl
            have e1a : (intVals [pa, pb, pd])[1]? = some (.int .i64 (numVal pb : Nat)) := rfl
            have e2a : (intVals [pa, pb, pd])[2]? = some (.int .i64 (numVal pd : Nat)) := rfl
            rw [e0a] at l00
            rw [e1a] at l01
            rw [e2a] at l02
            obtain ⟨ia, hia⟩ : ∃ i, numVal pa = i := ⟨_, rfl⟩
            obtain ⟨ib, hib⟩ : ∃ i, numVal pb = i := ⟨_, rfl⟩
            obtain ⟨id', hid'⟩ : ∃ i, numVal pd = i := ⟨_, rfl⟩
            rw [hia] at l00 HT2 ha9
            rw [hib] at l01 HT2
            rw [hid'] at l02 HT2
            have hc := fun Y => specNumberOf ia ib id' ha9 Y
            unfold NumbOut at hc
            have hsm := numb_small ia ib id'
            unfold numbText at HT2
            obtain ⟨m, hmm⟩ : ∃ c, numbRes ia ib id' = c := ⟨_, rfl⟩
            rw [hmm] at HT2 hsm
            simp only [hmm] at hc
            have HC := Lib.hid hc
            obtain ⟨t, htt⟩ : ∃ t, toldText m (decide (0 ≤ m)) = t := ⟨_, rfl⟩
            have hy := fun Y => l12Told_any m (decide (0 ≤ m)) (by omega) (by omega) Y
            rw [htt] at HT2
            simp only [htt] at hy
            have HY := Lib.hid hy
            have HT3 := Lib.hid HT2
            clear hc hmm hia hib hid' e0a e1a e2a hT1 hok2 HTX1 HALL hown htt hy HT2
            go_upto_region 47 with (fail)
            go_region_held3 (fun w' => w'.cell? ⟨g, 0, none⟩ = some (.int .i64 (ia : Int)) ∧ w'.cell? ⟨g, 1, none⟩ = some (.int .i64 (ib : Int)) ∧ w'.cell? ⟨g, 2, none⟩ = some (.int .i64 (id' : Int)))
              (first
                | exact ⟨l00, l01, l02⟩
                | exact ⟨cell_keep hbA l00, cell_keep hbA l01, cell_keep hbA l02⟩)
              (first
                | (go_at_call 64; refine (HC.out _).mono ?_; rintro e wA ⟨rfl, hbA⟩; have lA : Lin W w2.heap.size s g2 c2 L zs wA := Lin.call (by first | assumption | exact Lin.drew (by assumption)) hbA; have hrr := lA.ext.row R1.out; have f0 := frozen_of_row _ _ 0 _ _ hrr; have f1 := frozen_of_row _ _ 1 _ _ hrr; have m0 := cell_of_row _ _ 0 _ _ _ hrr; have m1 := cell_of_row _ _ 1 _ _ _ hrr; have n0 := lA.cells.1; have n1 := lA.cells.2; have qq := pair_put hrr (.string s) (.slice (some ⟨g2, 0, none⟩) L c2); have rq0 := cell_of_row _ _ 0 _ _ _ qq; have rq1 := cell_of_row _ _ 1 _ _ _ qq; clear hrr qq))
            all_goals
              go_upto_region 48 with (fail)
              go_region_held3 (fun w' => w'.cell? ⟨w2.heap.size, 0, none⟩ = some (.string s) ∧ w'.cell? ⟨w2.heap.size, 1, none⟩ = some (.slice (some ⟨g2, 0, none⟩) L c2))
                (first
                  | exact Lin.cells (by assumption)
                  | exact (Lin.drew (by assumption)).cells
                  | exact (Lin.drew (Lin.drew (by assumption))).cells
                  | exact other_cells (by omega) (Lin.cells (by assumption)).1 (Lin.cells (by assumption)).2)
                (first
                  | (go_at_call 56; refine (HY.out _).mono ?_; rintro e wB ⟨rfl, hbB⟩; have lB : Lin W w2.heap.size s g2 c2 L zs wB := Lin.call (by first | assumption | exact Lin.drew (by assumption)) hbB; have hrr := lB.ext.row R1.out; have f0 := frozen_of_row _ _ 0 _ _ hrr; have f1 := frozen_of_row _ _ 1 _ _ hrr; have m0 := cell_of_row _ _ 0 _ _ _ hrr; have m1 := cell_of_row _ _ 1 _ _ _ hrr; have n0 := lB.cells.1; have n1 := lB.cells.2; have qq := pair_put hrr (.string s) (.slice (some ⟨g2, 0, none⟩) L c2); have rq0 := cell_of_row _ _ 0 _ _ _ qq; have rq1 := cell_of_row _ _ 1 _ _ _ qq; clear hrr qq))
            all_goals
              go_wp2
              refine bodyPost_ret (v := .tuple #[.agg #[.string s, .slice (some ⟨g2, 0, none⟩) L c2], .string t]) (by simp [results, Tryz.results22, go_sem, rq0, rq1]) rfl ?_
              rw [HT3.out]
              first | exact lin_done E0.out (by first | assumption | exact Lin.drew (by assumption)) HWS.out | exact line_drew (lin_done E0.out (by first | assumption | exact Lin.drew (by assumption)) HWS.out)
        · have HT2 := HTX1.trans (curve_not (fun h9 => hA ⟨h9.1, HLEN ▸ h9.2⟩) (fun h9 => hB ⟨h9.1, HLEN ▸ h9.2⟩))
          have HT3 : Hid (curveText X.data.toList = ⟨#[119, 104, 97, 116]⟩) := HT2
          clear HT2 HTX1 HALL hown
          by_cases hC : p0 = cellWord
          · have hj2 : ((j : Int) == 2) = false := beq_false_of_ne (fun e => hA ⟨hC, by omega⟩)
            have hj2' : ¬ (j : Int) = 2 := fun e => hA ⟨hC, by omega⟩
            rw [show decide (p0 = [99, 101, 108, 108]) = true from decide_eq_true hC] at zc
            rw [show decide (p0 = [110, 117, 109, 98, 101, 114]) = false from decide_eq_false (by rw [hC]; decide)] at zn
            go_wp2
            refine bodyPost_ret (v := .tuple #[.agg #[.string s, .slice (some ⟨g2, 0, none⟩) L c2], .string ⟨#[119, 104, 97, 116]⟩]) (by simp [results, Tryz.results22, go_sem, rq0, rq1]) rfl ?_
            rw [HT3.out]
            first | exact lin_done E0.out (by first | assumption | exact Lin.drew (by assumption)) HWS.out | exact line_drew (lin_done E0.out (by first | assumption | exact Lin.drew (by assumption)) HWS.out)
          · rw [show decide (p0 = [99, 101, 108, 108]) = false from decide_eq_false hC] at zc
            by_cases hD : p0 = numberWord
            · have hj2 : ((j : Int) == 3) = false := beq_false_of_ne (fun e => hB ⟨hD, by omega⟩)
              have hj2' : ¬ (j : Int) = 3 := fun e => hB ⟨hD, by omega⟩
              rw [show decide (p0 = [110, 117, 109, 98, 101, 114]) = true from decide_eq_true hD] at zn
              go_wp2
              refine bodyPost_ret (v := .tuple #[.agg #[.string s, .slice (some ⟨g2, 0, none⟩) L c2], .string ⟨#[119, 104, 97, 116]⟩]) (by simp [results, Tryz.results22, go_sem, rq0, rq1]) rfl ?_
              rw [HT3.out]
              first | exact lin_done E0.out (by first | assumption | exact Lin.drew (by assumption)) HWS.out | exact line_drew (lin_done E0.out (by first | assumption | exact Lin.drew (by assumption)) HWS.out)
            · rw [show decide (p0 = [110, 117, 109, 98, 101, 114]) = false from decide_eq_false hD] at zn
              go_wp2
              refine bodyPost_ret (v := .tuple #[.agg #[.string s, .slice (some ⟨g2, 0, none⟩) L c2], .string ⟨#[119, 104, 97, 116]⟩]) (by simp [results, Tryz.results22, go_sem, rq0, rq1]) rfl ?_
              rw [HT3.out]
              first | exact lin_done E0.out (by first | assumption | exact Lin.drew (by assumption)) HWS.out | exact line_drew (lin_done E0.out (by first | assumption | exact Lin.drew (by assumption)) HWS.out)

end Go.Proofs.YtccdfndnjjjgfaaGreatDoor

namespace Go.Proofs.YtccdfndnjjjgfaaGreatDoor
open Go.RowKit

noncomputable def sayStep (st : (ByteArray × List ByteArray) × List ByteArray) (X : ByteArray) : (ByteArray × List ByteArray) × List ByteArray := ((lineOf st.1.1 st.1.2 X).1, st.2 ++ [(lineOf st.1.1 st.1.2 X).2])
noncomputable def sayTo (s : ByteArray) (zs : List ByteArray) (ls : List ByteArray) : (ByteArray × List ByteArray) × List ByteArray := ls.foldl sayStep ((s, zs), [])
noncomputable def deskSay (s : ByteArray) (zs : List ByteArray) (ls : List ByteArray) : (ByteArray × List ByteArray) × List ByteArray := if deskOk s zs = true ∧ ls.length ≤ 40 then sayTo s zs ls else ((⟨#[]⟩, []), [])
theorem line_ok {s : ByteArray} {zs : List ByteArray} (h : deskOk s zs = true) (X : ByteArray) : deskOk (lineOf s zs X).1.1 (lineOf s zs X).1.2 = true := by
  unfold lineOf
  split
  · exact deskOk_done h _ _
  · exact h
theorem sayTo_succ {s : ByteArray} {zs : List ByteArray} {ls : List ByteArray} {j : Nat} {d : ByteArray} (h : ls[j]? = some d) : sayTo s zs (ls.take (j + 1)) = sayStep (sayTo s zs (ls.take j)) d := by
  unfold sayTo
  have hj : j < ls.length := by
    rcases Nat.lt_or_ge j ls.length with h1 | h1
    · exact h1
    · rw [List.getElem?_eq_none h1] at h
      cases h
  have hg : ls[j] = d := by
    rw [List.getElem?_eq_getElem hj] at h
    exact Option.some.inj h
  rw [List.take_succ_eq_append_getElem hj, List.foldl_append, hg]
  rfl
theorem say_from (ls : List ByteArray) : ∀ (st : (ByteArray × List ByteArray) × List ByteArray), ls.foldl sayStep st = ((ls.foldl sayStep (st.1, [])).1, st.2 ++ (ls.foldl sayStep (st.1, [])).2) := by
  induction ls with
  | nil => intro st; simp
  | cons X ls ih =>
    intro st
    rw [List.foldl_cons, List.foldl_cons, ih (sayStep st X), ih (sayStep (st.1, []) X)]
    unfold sayStep
    simp
/-- Two parts of the lines, one after the other. -/
theorem say_parts (s : ByteArray) (zs : List ByteArray) (xs ys : List ByteArray) : sayTo s zs (xs ++ ys) = ((sayTo (sayTo s zs xs).1.1 (sayTo s zs xs).1.2 ys).1, (sayTo s zs xs).2 ++ (sayTo (sayTo s zs xs).1.1 (sayTo s zs xs).1.2 ys).2) := by
  unfold sayTo
  rw [List.foldl_append, say_from ys]
theorem say_ok {s : ByteArray} {zs : List ByteArray} (h : deskOk s zs = true) (ls : List ByteArray) : deskOk (sayTo s zs ls).1.1 (sayTo s zs ls).1.2 = true ∧ (sayTo s zs ls).2.length = ls.length := by
  have gen : ∀ (ls : List ByteArray) (st : (ByteArray × List ByteArray) × List ByteArray), deskOk st.1.1 st.1.2 = true → deskOk (ls.foldl sayStep st).1.1 (ls.foldl sayStep st).1.2 = true ∧ (ls.foldl sayStep st).2.length = st.2.length + ls.length := by
    intro ls
    induction ls with
    | nil => intro st hst; exact ⟨hst, rfl⟩
    | cons X ls ih =>
      intro st hst
      have h2 := ih (sayStep st X) (line_ok hst X)
      rw [List.foldl_cons]
      refine ⟨h2.1, ?_⟩
      rw [h2.2]
      unfold sayStep
      simp
      omega
  have := gen ls ((s, zs), []) h
  unfold sayTo
  simpa using this
/-- No answer is empty, and none is long. -/
theorem num_some (n : Int) : 0 < (numText n).size := by
  unfold numText
  rw [Tw.str_size]
  unfold Lib.itoa
  split
  · simp
  · have : Lib.decDigits n.toNat ≠ [] := by
      rw [Lib.decDigits]
      split <;> simp
    exact List.length_pos_iff.2 this
theorem told_some (n : Int) (b : Bool) : 0 < (toldText n b).size := by
  unfold toldText
  split
  · exact num_some n
  · exact (by decide : 0 < noneText.size)
theorem pair_some (a b : Int) : 0 < (pairText a b).size := by
  unfold pairText
  have := num_some a
  simp only [ByteArray.size_append]
  omega
theorem yes_some (b : Bool) : 0 < (yesText b).size := by cases b <;> decide
theorem okWord_some (b : Bool) : 0 < (okWord b).size := by cases b <;> decide
theorem ask_some (k : Nat) (s : ByteArray) : 0 < (askText k s).size := by
  unfold askText
  repeat' split
  all_goals first
    | exact told_some _ _
    | exact yes_some _
    | exact pair_some _ _
    | (rw [ByteArray.size_append]; have : (⟨#[58]⟩ : ByteArray).size = 1 := rfl; omega)
theorem cellText_some (a b : Nat) : 0 < (cellText a b).size := by
  unfold cellText
  split
  · exact pair_some _ _
  · decide
theorem curve_some (ps : List (List UInt8)) : 0 < (curveOf ps).size := by
  unfold curveOf
  split
  · split
    · exact cellText_some _ _
    · decide
  · split
    · exact told_some _ _
    · decide
  · decide
theorem line_some (s : ByteArray) (zs : List ByteArray) (X : ByteArray) : 0 < (lineOf s zs X).2.size := by
  unfold lineOf
  split
  · exact okWord_some _
  · show 0 < (answerOf s X).size
    unfold answerOf
    split
    · exact ask_some _ _
    · exact curve_some _
theorem say_some (s : ByteArray) (zs ls : List ByteArray) : ∀ t ∈ (sayTo s zs ls).2, 0 < t.size := by
  have gen : ∀ (ls : List ByteArray) (st : (ByteArray × List ByteArray) × List ByteArray), (∀ t ∈ st.2, 0 < t.size) → ∀ t ∈ (ls.foldl sayStep st).2, 0 < t.size := by
    intro ls
    induction ls with
    | nil => intro st hst; exact hst
    | cons X ls ih =>
      intro st hst
      rw [List.foldl_cons]
      refine ih (sayStep st X) fun t ht => ?_
      rcases List.mem_append.1 ht with ht | ht
      · exact hst t ht
      · rw [List.mem_singleton.1 ht]
        exact line_some _ _ _
  exact gen ls ((s, zs), []) (by simp)
end Go.Proofs.YtccdfndnjjjgfaaGreatDoor

namespace Go.Proofs.YtccdfndnjjjgfaaGreatDoor
open Go.RowKit

theorem askAt_lt {X : ByteArray} {k : Nat} (h : askAt X = some k) : k < 9 ∧ askWords.getD k ⟨#[]⟩ = X := by
  unfold askAt at h
  obtain ⟨hk, h2, _⟩ := List.findIdx?_eq_some_iff_getElem.1 h
  exact ⟨hk, by rw [List.getD_eq_getElem?_getD, List.getElem?_eq_getElem hk]; exact of_decide_eq_true h2⟩
theorem readOf_false {l : List UInt8} (h : (readOf l).2 = false) : readOf l = ((0, 0), false) := by
  unfold readOf at *
  split at h
  · cases h
  · rename_i hx
    rw [dif_neg hx]
theorem readOf_small {l : List UInt8} (h : (readOf l).2 = true) : -9223372036854775808 ≤ (readOf l).1.2 ∧ (readOf l).1.2 ≤ 9223372036854775807 := by
  obtain ⟨h0, h1⟩ := readOf_text h
  have h2 := told_of (k := (readOf l).1.1) (n := (readOf l).1.2) (by rw [h1]; exact h0)
  unfold told at h2
  omega
theorem lineOf_deed {s : ByteArray} {zs : List ByteArray} {X : ByteArray} (h : (readOf X.data.toList).2 = true) : lineOf s zs X = (((deskDone s zs (readOf X.data.toList).1.1 (readOf X.data.toList).1.2).1, (deskDone s zs (readOf X.data.toList).1.1 (readOf X.data.toList).1.2).2.1), okWord (deskDone s zs (readOf X.data.toList).1.1 (readOf X.data.toList).1.2).2.2) := if_pos h
theorem lineOf_else {s : ByteArray} {zs : List ByteArray} {X : ByteArray} (h : (readOf X.data.toList).2 = false) : lineOf s zs X = ((s, zs), answerOf s X) := if_neg (by rw [h]; simp)
theorem answer_ask {s X : ByteArray} {k : Nat} (h : askAt X = some k) : answerOf s X = askText k s := by unfold answerOf; rw [h]
theorem answer_curve {s X : ByteArray} (h : askAt X = none) : answerOf s X = curveText X.data.toList := by unfold answerOf; rw [h]

/-- The tables, as laid. -/
structure TabsAt (w : World) : Prop where
  ways : WaysAt w
  dirs : DirsAt w
  words : WordsAt w
  max : MaxAt w
  pow : PowAt w
theorem TabsAt.below' {w w' : World} (h : TabsAt w) (hb : Below w.heap.size w w') : TabsAt w' := ⟨h.ways.below' hb, h.dirs.below' hb, h.words.below' hb, h.max.below' hb, h.pow.below' hb⟩
theorem implLine_ok (s : ByteArray) (v : Value) (zs : List ByteArray) (X : ByteArray) (w : World) (h : PastAt w v zs) (hok : deskOk s zs = true) (hX : X.size ≤ 1048576) (ht : TabsAt w) :
    Calls Tryz.prog 21 #[.agg #[.string s, v], .string X] w (LineOut w (lineOf s zs X).1.1 (lineOf s zs X).1.2 (lineOf s zs X).2) := by
  obtain ⟨a, c, rfl⟩ := past_value h
  cases hr : (readOf X.data.toList).2
  · rw [lineOf_else hr]
    cases hat : askAt X with
    | none =>
      rw [answer_curve hat]
      exact implLine_curve s a c zs.length zs X w h (Lib.hid rfl) (Lib.hid hok) hX (Lib.hid (readOf_false hr)) ht.words ht.max ht.pow hat _ rfl
    | some k =>
      rw [answer_ask hat]
      exact implLine_ask s a c zs.length zs X w h (Lib.hid rfl) (Lib.hid hok) hX (Lib.hid (readOf_false hr)) ht.dirs ht.words ht.max ht.pow k (askAt_lt hat).1 hat _ rfl
  · rw [lineOf_deed hr]
    exact implLine_deed s a c zs.length zs X _ _ w h (Lib.hid hok) hX (Lib.hid (Prod.ext (Prod.ext rfl rfl) hr)) _ _ _ (Lib.hid rfl) ht.ways ht.dirs ht.words ht.max
set_option maxRecDepth 100000 in
set_option maxHeartbeats 800000 in
theorem implLine_none (s : ByteArray) (a : Option Addr) (c L : Nat) (zs : List ByteArray) (X : ByteArray) (w : World) (h : StrsAt w (.slice a L c) zs) (HL : Hid (zs.length = L)) (hs : s.size ≤ 1048576) (hL : L ≤ 1048576) (hz : ∀ z ∈ zs, z.size ≤ 1048576) (hok : deskOk s zs = false) :
    Calls Tryz.prog 21 #[.agg #[.string s, .slice a L c], .string X] w (LineOut w ⟨#[]⟩ [] ⟨#[]⟩) := by
  obtain ⟨e0, hsz, r0, r1⟩ := desk2_in w s (.slice a L c)
  obtain ⟨W, hW⟩ : ∃ W, deskBox2 w s (.slice a L c) = W := ⟨_, rfl⟩
  rw [hW] at e0 hsz r0 r1
  unfold deskBox2 at hW
  have HW := Lib.hid hW
  have HDK := Lib.hid (deskOk_namedI s (.slice a L c) zs W (e0.strs h) hs (by rw [HL.out]; exact hL) hz false hok)
  have R1 := Lib.hid r1
  have c0 := cell_of_row _ _ 0 _ _ _ r0
  have c1 := cell_of_row _ _ 1 _ _ _ r0
  clear hW r0 r1 h hok hz
  go_enter Tryz.func21, Tryz.ntmps21
  go_wp2_with fail
  rw [HW.out]
  go_wp2_with (first
    | (go_at_call 27; refine HDK.out.mono ?_; rintro e w1 ⟨rfl, hb1⟩; have e1 : Ext W w1 := hb1; have hr := e1.row R1.out; have f0 := frozen_of_row _ _ 0 _ _ hr; have f1 := frozen_of_row _ _ 1 _ _ hr; have k0 := cell_of_row _ _ 0 _ _ _ hr; have k1 := cell_of_row _ _ 1 _ _ _ hr; have q := pair_put hr (.string ⟨#[]⟩) (.slice none 0 0); have q0 := cell_of_row _ _ 0 _ _ _ q; have q1 := cell_of_row _ _ 1 _ _ _ q; clear hr q hb1))
  refine bodyPost_ret (v := .tuple #[.agg #[.string ⟨#[]⟩, .slice none 0 0], .string ⟨#[]⟩]) (by simp [results, Tryz.results21, go_sem, q0, q1]) rfl ?_
  exact line_done (R := w.heap.size + 1) (e0.trans e1) (.inl ⟨rfl, rfl⟩) (Fresh.none _) (fun h9 => by cases h9) (by omega)
theorem implLine (s : ByteArray) (v : Value) (zs : List ByteArray) (X : ByteArray) (w : World) (h : PastAt w v zs) (hs : s.size ≤ 1048576) (hL : zs.length ≤ 1048576) (hz : ∀ z ∈ zs, z.size ≤ 1048576) (hX : X.size ≤ 1048576) (ht : TabsAt w) :
    Calls Tryz.prog 21 #[.agg #[.string s, v], .string X] w (LineOut w (deskLine s zs X).1.1 (deskLine s zs X).1.2 (deskLine s zs X).2) := by
  cases hok : deskOk s zs
  · obtain ⟨a, c, rfl⟩ := past_value h
    rw [show deskLine s zs X = ((⟨#[]⟩, []), ⟨#[]⟩) from if_neg (by rw [hok]; simp)]
    exact implLine_none s a c zs.length zs X w h.strs (Lib.hid rfl) hs hL hz hok
  · rw [show deskLine s zs X = lineOf s zs X from if_pos hok]
    exact implLine_ok s v zs X w h hok hX ht
theorem specLine_ok (s : ByteArray) (v : Value) (zs : List ByteArray) (X : ByteArray) (w : World) (h : StrsAt w v zs) (hok : deskOk s zs = true) (hX : X.size ≤ 1048576) :
    Calls Tryz.prog 22 #[.agg #[.string s, v], .string X] w (LineOut w (lineOf s zs X).1.1 (lineOf s zs X).1.2 (lineOf s zs X).2) := by
  obtain ⟨a, c, rfl⟩ := strs_value h
  cases hr : (readOf X.data.toList).2
  · rw [lineOf_else hr]
    cases hat : askAt X with
    | none =>
      rw [answer_curve hat]
      exact specLine_curve s a c zs.length zs X w h (Lib.hid rfl) (Lib.hid hok) hX (Lib.hid (readOf_false hr)) hat
    | some k =>
      rw [answer_ask hat]
      exact specLine_ask s a c zs.length zs X w h (Lib.hid rfl) (Lib.hid hok) hX (Lib.hid (readOf_false hr)) k (askAt_lt hat).1 (askAt_lt hat).2
  · rw [lineOf_deed hr]
    exact specLine_deed s a c zs.length zs X _ _ w h (Lib.hid rfl) (Lib.hid hok) hX (Lib.hid (Prod.ext (Prod.ext rfl rfl) hr)) _ _ _ (Lib.hid rfl) (readOf_small hr)
theorem specLine (s : ByteArray) (v : Value) (zs : List ByteArray) (X : ByteArray) (w : World) (h : StrsAt w v zs) (hs : s.size ≤ 1048576) (hL : zs.length ≤ 1048576) (hz : ∀ z ∈ zs, z.size ≤ 1048576) (hX : X.size ≤ 1048576) :
    Calls Tryz.prog 22 #[.agg #[.string s, v], .string X] w (LineOut w (deskLine s zs X).1.1 (deskLine s zs X).1.2 (deskLine s zs X).2) := by
  cases hok : deskOk s zs
  · obtain ⟨a, c, rfl⟩ := strs_value h
    rw [show deskLine s zs X = ((⟨#[]⟩, []), ⟨#[]⟩) from if_neg (by rw [hok]; simp)]
    exact specLine_none s a c zs.length zs X w h (Lib.hid rfl) hs hL hz hok
  · rw [show deskLine s zs X = lineOf s zs X from if_pos hok]
    exact specLine_ok s v zs X w h hok hX

end Go.Proofs.YtccdfndnjjjgfaaGreatDoor

namespace Go.Proofs.YtccdfndnjjjgfaaGreatDoor
open Go.RowKit

theorem past_grown2 {X X' : World} {v : Value} {zs : List ByteArray} {row : Option Nat} (h : PastAt X v zs) (hg : X.grownBy X' row) (hne : ∀ b, v.ownBlock = some b → row ≠ some b) : PastAt X' v zs := by
  rcases h with h | ⟨g, off, cap, cur, rfl, hl, hh, hc, hz⟩
  · exact .inl h
  · exact .inr ⟨g, off, cap, cur, rfl, hl, (hg.block g (lt_at hh) (fun e => hne g rfl e.symm)).trans hh, hc, hz⟩
/-- The box O holds a desk; o are answers. -/
structure Sy (W : World) (O : Nat) (x : ByteArray) (v : Value) (ys : List ByteArray) (o : Value) (ts : List ByteArray) (Y : World) : Prop where
  ext : Ext W Y
  row : Y.heap[O]? = some (.cells #[.string x, v] 27 (0, 0))
  past : PastAt Y v ys
  fresh : Fresh W.heap.size v
  high : W.heap.size ≤ O
  own : Y.ownsRow W.heap.size 9 1 o ts.length (strVals ts)
  nev : ∀ b, v.ownBlock = some b → o.ownBlock ≠ some b
  neo : o.ownBlock ≠ some O
variable {W Y Z : World} {O : Nat} {x : ByteArray} {v o : Value} {ys ts : List ByteArray}
theorem Sy.call (h : Sy W O x v ys o ts Y) (hb : Below Y.heap.size Y Z) : Sy W O x v ys o ts Z := ⟨h.ext.call hb, Ext.row hb h.row, Ext.past hb h.past, h.fresh, h.high, own_below h.own hb, h.nev, h.neo⟩
theorem Sy.cells (h : Sy W O x v ys o ts Y) : Y.cell? ⟨O, 0, none⟩ = some (.string x) ∧ Y.cell? ⟨O, 1, none⟩ = some v := ⟨cell_of_row _ _ 0 _ _ _ h.row, cell_of_row _ _ 1 _ _ _ h.row⟩
theorem sy_own_lt (h : Sy W O x v ys o ts Y) {b : Nat} (hb : o.ownBlock = some b) : b < Y.heap.size := (h.own.lt b hb).2
/-- Another desk is put into the box: its walks of before are younger than the answers. -/
theorem Sy.put {x1 : ByteArray} {v1 : Value} {y1 : List ByteArray} (h : Sy W O x v ys o ts Y) (hp : PastAt Y v1 y1) (hf : Fresh W.heap.size v1) (hn : ∀ b, v1.ownBlock = some b → o.ownBlock ≠ some b) (hO : v1.ownBlock ≠ some O) : Sy W O x1 v1 y1 o ts ((Y.setCell ⟨O, 0, none⟩ (.string x1)).setCell ⟨O, 1, none⟩ v1) :=
  ⟨h.ext.setCell2 h.high _ _, pair_put h.row _ _, past_put (past_put hp _ _ hO) _ _ hO, hf, h.high, own_put (own_put h.own _ _ h.neo) _ _ h.neo, hn, h.neo⟩
/-- One answer more. -/
theorem Sy.more {g c n : Nat} {t : ByteArray} (h : Sy W O x v ys o ts Y) (hg : Y.grownBy Z o.ownBlock) (hown : Z.ownsRow W.heap.size 9 1 (.slice (some ⟨g, 0, none⟩) n c) n (strVals ts ++ [.string t])) (hn : n = ts.length + 1) (hgg : o.ownBlock = some g ∨ g = Y.heap.size) : Sy W O x v ys (.slice (some ⟨g, 0, none⟩) n c) (ts ++ [t]) Z := by
  have hb : Below W.heap.size W Z := Below.grown h.ext hg h.ext.size (fun b e => (h.own.lt b e).1)
  have hO := lt_at h.row
  refine ⟨hb, (hg.block _ hO (fun e => h.neo e.symm)).trans h.row, ?_, h.fresh, h.high, ?_, ?_, ?_⟩
  · exact past_grown2 h.past hg h.nev
  · have e1 : (ts ++ [t]).length = n := by rw [List.length_append, hn]; rfl
    have e2 : strVals (ts ++ [t]) = strVals ts ++ [.string t] := by unfold strVals; rw [List.map_append]; rfl
    rw [e1, e2]
    exact hown
  · intro b e e2
    have e3 : g = b := Option.some.inj e2
    subst e3
    rcases hgg with hgg | hgg
    · exact h.nev _ e hgg
    · have := past_lt h.past e
      omega
  · intro e2
    have e3 : g = O := Option.some.inj e2
    subst e3
    rcases hgg with hgg | hgg
    · exact h.neo hgg
    · omega

end Go.Proofs.YtccdfndnjjjgfaaGreatDoor

namespace Go.Proofs.YtccdfndnjjjgfaaGreatDoor
open Go.RowKit

theorem strs_parts {w : World} {u : Value} {ls : List ByteArray} (h : StrsAt w u ls) : ∃ a c, u = .slice a ls.length c ∧ ls.length ≤ c ∧ ∀ (j : Nat) (z : ByteArray), ls[j]? = some z → ∃ b, a = some b ∧ w.cell? (b.add j) = some (.string z) := by
  rcases h with ⟨rfl, rfl⟩ | ⟨a, cap, rfl, hl, hc⟩
  · exact ⟨none, 0, rfl, Nat.le_refl _, fun j d h => by simp at h⟩
  · exact ⟨some a, cap, rfl, hl, fun j d h => ⟨a, rfl, hc j d h⟩⟩
def SayOut (w : World) (r : (ByteArray × List ByteArray) × List ByteArray) (e : Ending) (w' : World) : Prop := ∃ v' u', e = .returned (.tuple #[.agg #[.string r.1.1, v'], u']) ∧ PastAt w' v' r.1.2 ∧ Fresh w.heap.size v' ∧ PastAt w' u' r.2 ∧ Fresh w.heap.size u' ∧ (∀ b, v'.ownBlock = some b → u'.ownBlock ≠ some b) ∧ Below w.heap.size w w'
theorem say_fin {w X : World} {R : Nat} {x : ByteArray} {v u : Value} {ys ts : List ByteArray} {r : (ByteArray × List ByteArray) × List ByteArray} (e : Ext w X) (hp : PastAt X v ys) (hf : Fresh w.heap.size v) (hne : v.ownBlock ≠ some R) (hu : PastAt X u ts) (hfu : Fresh w.heap.size u) (hnu : u.ownBlock ≠ some R) (hR : w.heap.size ≤ R)
    (hn : ∀ b, v.ownBlock = some b → u.ownBlock ≠ some b) (hr : r = ((x, ys), ts)) : SayOut w r (.returned (.tuple #[.agg #[.string x, v], u])) ((X.setCell ⟨R, 0, none⟩ (.string x)).setCell ⟨R, 1, none⟩ v) := by
  subst hr
  exact ⟨_, _, rfl, past_put (past_put hp _ _ hne) _ _ hne, hf, past_put (past_put hu _ _ hnu) _ _ hnu, hfu, hn, (e.setCell hR _).setCell hR _⟩

set_option maxRecDepth 100000 in
set_option maxHeartbeats 800000 in
theorem implDeskSay_no (s : ByteArray) (a : Option Addr) (c L : Nat) (zs : List ByteArray) (b : Option Addr) (cb n : Nat) (w : World) (h : StrsAt w (.slice a L c) zs) (HL : Hid (zs.length = L)) (hs : s.size ≤ 1048576) (hL : L ≤ 1048576) (hz : ∀ z ∈ zs, z.size ≤ 1048576) (hn : n ≤ 1048576) (t : Bool) (hok : deskOk s zs = t) (hno : t = false ∨ (t = true ∧ 40 < n)) :
    Calls Tryz.prog 13 #[.agg #[.string s, .slice a L c], .slice b n cb] w (SayOut w ((⟨#[]⟩, []), [])) := by
  obtain ⟨e0, hsz, r0, r1⟩ := desk2_in w s (.slice a L c)
  obtain ⟨W, hW⟩ : ∃ W, deskBox2 w s (.slice a L c) = W := ⟨_, rfl⟩
  rw [hW] at e0 hsz r0 r1
  unfold deskBox2 at hW
  have HW := Lib.hid hW
  have HDK := Lib.hid (deskOk_namedI s (.slice a L c) zs W (e0.strs h) hs (by rw [HL.out]; exact hL) hz t hok)
  have R1 := Lib.hid r1
  have c0 := cell_of_row _ _ 0 _ _ _ r0
  have c1 := cell_of_row _ _ 1 _ _ _ r0
  clear hW r0 r1 h hok hz
  rcases hno with rfl | ⟨rfl, h40⟩
  all_goals
    go_enter Tryz.func13, Tryz.ntmps13
    go_wp2_with fail
    rw [HW.out]
    go_wp2_with (first
      | (go_at_call 27; refine HDK.out.mono ?_; rintro e w1 ⟨rfl, hb1⟩; have e1 : Ext W w1 := hb1; have hr := e1.row R1.out; have f0 := frozen_of_row _ _ 0 _ _ hr; have f1 := frozen_of_row _ _ 1 _ _ hr; have k0 := cell_of_row _ _ 0 _ _ _ hr; have k1 := cell_of_row _ _ 1 _ _ _ hr; have q := pair_put hr (.string ⟨#[]⟩) (.slice none 0 0); have q0 := cell_of_row _ _ 0 _ _ _ q; have q1 := cell_of_row _ _ 1 _ _ _ q; clear hr q hb1))
    refine bodyPost_ret (v := .tuple #[.agg #[.string ⟨#[]⟩, .slice none 0 0], .slice none 0 0]) (by simp [results, Tryz.results13, go_sem, q0, q1]) rfl ?_
    exact say_fin (e0.trans e1) (.inl ⟨rfl, rfl⟩) (Fresh.none _) (fun h9 => by cases h9) (.inl ⟨rfl, rfl⟩) (Fresh.none _) (fun h9 => by cases h9) (by omega) (fun b hb => by cases hb) rfl
set_option maxRecDepth 100000 in
set_option maxHeartbeats 3200000 in
theorem implDeskSay_yes (s : ByteArray) (a : Option Addr) (c L : Nat) (zs : List ByteArray) (b : Option Addr) (cb n : Nat) (w : World) (HL : Hid (zs.length = L)) (ls : List ByteArray) (HN : Hid (ls.length = n)) (hn : n ≤ 40) (hncb : n ≤ cb) (HC : Hid (∀ (j : Nat) (d : ByteArray), ls[j]? = some d → ∃ b', b = some b' ∧ w.cell? (b'.add j) = some (.string d))) (HLZ : Hid (∀ d ∈ ls, d.size ≤ 1048576)) (hok : Hid (deskOk s zs = true)) (ht : TabsAt w) (hp : PastAt w (.slice a L c) zs) :
    Calls Tryz.prog 13 #[.agg #[.string s, .slice a L c], .slice b n cb] w (SayOut w (sayTo s zs ls)) := by
  obtain ⟨i0, hi0, hz0, hz1, hz2⟩ := info_parts stringInfo
  obtain ⟨hs1, h8, hz⟩ := deskOk_parts hok.out
  have hL8 : L ≤ 8 := by have := HL.out; omega
  obtain ⟨e0, hsz, r0, r1⟩ := desk2_in w s (.slice a L c)
  obtain ⟨W, hW⟩ : ∃ W, deskBox2 w s (.slice a L c) = W := ⟨_, rfl⟩
  rw [hW] at e0 hsz r0 r1
  unfold deskBox2 at hW
  have HW := Lib.hid hW
  have HWS := Lib.hid hsz
  have HDK := Lib.hid (deskOk_namedI s (.slice a L c) zs W (e0.strs hp.strs) (by have := ok_size hs1; omega) (by omega) (fun z hz9 => by have := ok_size (hz z hz9); omega) true hok.out)
  have R0 := Lib.hid r0
  have R1 := Lib.hid r1
  have c0 := cell_of_row _ _ 0 _ _ _ r0
  have c1 := cell_of_row _ _ 1 _ _ _ r0
  have HT := Lib.hid (ht.below' e0)
  have HCP : Hid (∀ Y, Ext W Y → Calls Tryz.prog 39 #[.agg #[.string s, .slice a L c]] Y fun e w' => ∃ a2 c2, e = .returned (.agg #[.string s, .slice a2 L c2]) ∧ PastAt w' (.slice a2 L c2) zs ∧ Fresh W.heap.size (.slice a2 L c2) ∧ Ext W w') := fun Y hY => by
    refine (copied_any s (.slice a L c) zs Y ((e0.trans hY).past hp) (by omega)).mono ?_
    rw [HL.out]
    rintro e w' ⟨a2, c2, he, hp2, hf2, hb2⟩
    exact ⟨a2, c2, he, hp2, fresh_ext hY hf2, hY.call hb2⟩
  have E0 := Lib.hid e0
  clear hW r0 r1 hp ht hz h8 hs1 e0 hsz
  go_enter Tryz.func13, Tryz.ntmps13
  go_wp2_with fail
  rw [HW.out]
  go_wp2_with (first
    | (go_at_call 27; refine HDK.out.mono ?_; rintro e w1 ⟨rfl, hb1⟩; have e1 : Ext W w1 := hb1; have hr := e1.row R0.out; have k0 := cell_of_row _ _ 0 _ _ _ hr; have k1 := cell_of_row _ _ 1 _ _ _ hr; clear hr hb1)
    | (go_at_call 39; refine (HCP.out w1 e1).mono ?_; rintro e w2 ⟨a2, c2, rfl, hp2, hf2, e2⟩)
    | (at_make; refine wpList_make_own _ rfl _ _ 22 rfl (w2.heap.size + 1) 9 i0 _ 1 Tryz.underlying22 hi0 hz0 hz1 .i64 .i64 _ n rfl rfl rfl (by rw [hz2]; omega) (by unfold maxLen; omega) (by simp) ?_; intro w4 hown4 hg4))
  have hlow := Lib.hid (e2.size)
  have hsy : Sy W w2.heap.size s (.slice a2 L c2) zs (.slice (some ⟨w2.heap.size + 1, 0, none⟩) 0 n) [] w4 := by
    have e3 : Ext W (w2.alloc (.cells #[.string s, .slice a2 L c2] 27)) := e2.alloc _
    have e4 : Ext (w2.alloc (.cells #[.string s, .slice a2 L c2] 27)) w4 := (Ext.refl _).grown hg4 (Nat.le_refl _) (fun k hk => by cases hk)
    refine ⟨e3.trans e4, e4.row (heap_alloc_new w2 _), e4.past (((Ext.refl w2).alloc _).past hp2), hf2, e2.size, ?_, ?_, ?_⟩
    · exact World.ownsRow.mono (by simpa [strVals] using hown4) (by have := e2.size; omega)
    · intro b9 h9 h8
      have h7 : w2.heap.size + 1 = b9 := Option.some.inj h8
      have := past_lt hp2 h9
      omega
    · intro h8
      have h7 : w2.heap.size + 1 = w2.heap.size := Option.some.inj h8
      omega
  obtain ⟨O, hO⟩ : ∃ O, w2.heap.size = O := ⟨_, rfl⟩
  rw [hO] at hsy ⊢
  have HSY := Lib.hid hsy
  have hOl : w.heap.size + 1 < O := by have := hlow.out; have := HWS.out; omega
  clear hsy hO hown4 hg4 hp2 hf2 k0 k1
  go_loopw [7, 28] (fun o i wr => ∃ (k : Nat) (x : ByteArray) (v : Value) (ys ts : List ByteArray) (g cap : Nat), k ≤ n ∧ i = .int .i64 k ∧ o = .slice (some ⟨g, 0, none⟩) k cap ∧ Hid (ts.length = k) ∧ Hid (sayTo s zs (ls.take k) = ((x, ys), ts)) ∧ Hid (Sy W O x v ys o ts wr) ∧ Hid (deskOk x ys = true)) (fun _ i _ => n - (intOf i).toNat)
  case atStart => exact ⟨0, s, _, zs, [], _, _, Nat.zero_le _, rfl, rfl, rfl, rfl, HSY.out, hok.out⟩
  case round =>
    obtain ⟨k, x, vx, ys, ts, g, cap, hk, rfl, rfl, HTL, HSAY, HB, HOK⟩ := hrel
    obtain ⟨ax, cx, hvx⟩ := past_value HB.out.past
    subst hvx
    obtain ⟨o0, o1⟩ := HB.out.cells
    have er : Ext W wr := HB.out.ext
    have hrr := er.row R1.out
    have HRR := Lib.hid hrr
    clear hrr
    by_cases hlt : k < n
    · obtain ⟨d, hd⟩ : ∃ d, ls[k]? = some d := ⟨ls[k]'(by rw [HN.out]; exact hlt), List.getElem?_eq_getElem (by rw [HN.out]; exact hlt)⟩
      obtain ⟨b', rfl, hc0⟩ := HC.out k d hd
      have hk3 : (0 : Int) ≤ (k : Int) := by omega
      have hk4 : (k : Int) < (n : Int) := by omega
      have l0 := cell_keep (E0.out.trans er) hc0
      have HTN := Lib.hid (sayTo_succ (s := s) (zs := zs) hd)
      have hlok := line_ok HOK.out d
      obtain ⟨x1, h1⟩ : ∃ x1, (lineOf x ys d).1.1 = x1 := ⟨_, rfl⟩
      obtain ⟨y1, h2⟩ : ∃ x1, (lineOf x ys d).1.2 = x1 := ⟨_, rfl⟩
      obtain ⟨t1, h3⟩ : ∃ x1, (lineOf x ys d).2 = x1 := ⟨_, rfl⟩
      rw [h1, h2] at hlok
      have hstep : sayStep ((x, ys), ts) d = ((x1, y1), ts ++ [t1]) := by unfold sayStep; rw [h3, show (lineOf x ys d).1 = (x1, y1) from Prod.ext h1 h2]
      have hdl : Calls Tryz.prog 21 #[.agg #[.string x, .slice ax ys.length cx], .string d] wr (LineOut wr x1 y1 t1) := by
        have := implLine_ok x (.slice ax ys.length cx) ys d wr HB.out.past HOK.out (HLZ.out d (List.mem_of_getElem? hd)) (HT.out.below' er)
        rwa [h1, h2, h3] at this
      have HDL := Lib.hid hdl
      have HSTEP := Lib.hid hstep
      have HOK1 := Lib.hid hlok
      have hOlt := lt_at HB.out.row
      have hglt := sy_own_lt HB.out (b := g) rfl
      clear hstep hlok hdl h1 h2 h3 hd hc0
      go_upto_region 10 with (first
        | (go_at_call 21; refine HDL.out.mono ?_; rintro e wC ⟨vC, rfl, hpC, hfC, hbC⟩; obtain ⟨aC, cC, hvC⟩ := past_value hpC; subst hvC; have PC := Lib.hid hpC; have FC := Lib.hid hfC; have BC := Lib.hid hbC; have hN := heap_alloc_new wC (.cells #[.string x1, .slice aC y1.length cC] 27); have n0 := cell_of_row _ _ 0 _ _ _ hN; have n1 := cell_of_row _ _ 1 _ _ _ hN; have hSA : Sy W O x (.slice ax ys.length cx) ys (.slice (some ⟨g, 0, none⟩) k cap) ts (wC.alloc (.cells #[.string x1, .slice aC y1.length cC] 27)) := (HB.out.call hbC).call ((Ext.refl wC).alloc _); have HSA := Lib.hid hSA; obtain ⟨p0, p1⟩ := hSA.cells; have pf0 := frozen_of_row _ _ 0 _ _ hSA.row; have pf1 := frozen_of_row _ _ 1 _ _ hSA.row; clear hpC hfC hbC hN hSA))
      refine wp_at_world (F := Sy W O x1 (.slice aC y1.length cC) y1 (.slice (some ⟨g, 0, none⟩) k cap) ts) ?_ ?_
      · refine HSA.out.put (((Ext.refl wC).alloc _).past PC.out) (fresh_ext er FC.out) (fun b9 h9 h8 => ?_) (fun h9 => ?_)
        · have h7 : g = b9 := Option.some.inj h8
          have := FC.out _ h9
          omega
        · have := FC.out _ h9
          omega
      intro W9 h9
      have HS9 := Lib.hid h9
      have hown9 := h9.own
      rw [HTL.out] at hown9
      have hs9 := h9.ext.size
      have hgl9 := sy_own_lt h9 (b := g) rfl
      clear h9
      go_wp2_with (first
        | (at_builtin; refine wpList_append_lies _ rfl _ _ 22 rfl W.heap.size 9 i0 _ 1 16 Tryz.underlying22 hi0 hz0 hz1 hz2 rfl (by omega) _ k _ rfl (hown9.alloc _) ⟨W9.heap.size, 0, none⟩ 1 1 [.string t1] rfl rfl (World.news_of_block (cs := #[.string t1]) (t := 9) (fr := (0, 0)) (heap_alloc_new W9 _)) (by simp [Value.oneCell']) (by omega) (by unfold maxLen; omega) (by omega) (by simp; omega) (W9.heap.size + 1) (by simp) ?_; intro g4 cap4 w5 hown5 hgrow5 hat5 hlt5))
      go_roundw
      case rel =>
        refine ⟨k + 1, x1, .slice aC y1.length cC, y1, ts ++ [t1], g4, cap4, by omega, by go_num, rfl, ?_, ?_, ?_, HOK1.out⟩
        · show _ = _
          rw [List.length_append, HTL.out]
          rfl
        · show _ = _
          rw [HTN.out, HSAY.out, HSTEP.out]
        · refine Sy.more (HS9.out.call ((Ext.refl W9).alloc _)) hgrow5 hown5 (by rw [HTL.out]) ?_
          rcases hat5 with hat5 | hat5
          · exact .inl hat5
          · exact .inr (by rw [hat5]; simp)
      case measure => simp [intOf]; omega
    · obtain rfl : k = n := by omega
      have hall := HSAY.out
      rw [List.take_of_length_le (by rw [HN.out]; exact Nat.le_refl _)] at hall
      have HALL := Lib.hid hall
      have f0 := frozen_of_row _ _ 0 _ _ HRR.out
      have f1 := frozen_of_row _ _ 1 _ _ HRR.out
      have k0' := cell_of_row _ _ 0 _ _ _ HRR.out
      have k1' := cell_of_row _ _ 1 _ _ _ HRR.out
      have q := pair_put HRR.out (.string x) (.slice ax ys.length cx)
      have q0 := cell_of_row _ _ 0 _ _ _ q
      have q1 := cell_of_row _ _ 1 _ _ _ q
      clear hall q
      go_wp2_with fail
      refine bodyPost_ret (v := .tuple #[.agg #[.string x, .slice ax ys.length cx], .slice (some ⟨g, 0, none⟩) k cap]) (by simp [results, Tryz.results13, go_sem, q0, q1]) rfl ?_
      have hw2 := HWS.out
      have hgb := (HB.out.own.lt g rfl).1
      have hown := HB.out.own
      have hpo : PastAt wr (.slice (some ⟨g, 0, none⟩) k cap) ts := past_own hown
      exact say_fin (E0.out.trans er) HB.out.past (fresh_ext E0.out HB.out.fresh) (fun h9 => by have := HB.out.fresh _ h9; omega) hpo (fun b9 h9 => by have h8 : g = b9 := Option.some.inj h9; omega) (fun h9 => by have h8 : g = w.heap.size + 1 := Option.some.inj h9; omega) (by omega) HB.out.nev HALL.out
set_option maxRecDepth 100000 in
set_option maxHeartbeats 800000 in
theorem specDeskSay_no (s : ByteArray) (a : Option Addr) (c L : Nat) (zs : List ByteArray) (b : Option Addr) (cb n : Nat) (w : World) (h : StrsAt w (.slice a L c) zs) (HL : Hid (zs.length = L)) (hs : s.size ≤ 1048576) (hL : L ≤ 1048576) (hz : ∀ z ∈ zs, z.size ≤ 1048576) (hn : n ≤ 1048576) (t : Bool) (hok : deskOk s zs = t) (hno : t = false ∨ (t = true ∧ 40 < n)) :
    Calls Tryz.prog 10 #[.agg #[.string s, .slice a L c], .slice b n cb] w (SayOut w ((⟨#[]⟩, []), [])) := by
  obtain ⟨e0, hsz, r0, r1⟩ := desk2_in w s (.slice a L c)
  obtain ⟨W, hW⟩ : ∃ W, deskBox2 w s (.slice a L c) = W := ⟨_, rfl⟩
  rw [hW] at e0 hsz r0 r1
  unfold deskBox2 at hW
  have HW := Lib.hid hW
  have eA : Ext W (W.alloc (.cells #[] 9)) := (Ext.refl W).alloc _
  have HDK := Lib.hid (deskOk_named s (.slice a L c) zs (W.alloc (.cells #[] 9)) ((e0.trans eA).strs h) hs (by rw [HL.out]; exact hL) hz t hok)
  have HWS := Lib.hid hsz
  have HE := Lib.hid (heap_alloc_new W (.cells #[] 9))
  have EA := Lib.hid eA
  have R1 := Lib.hid r1
  have c0 := cell_of_row _ _ 0 _ _ _ r0
  have c1 := cell_of_row _ _ 1 _ _ _ r0
  clear hW r0 r1 h hok hz hsz eA
  rcases hno with rfl | ⟨rfl, h40⟩
  all_goals
    go_enter Tryz.func10, Tryz.ntmps10
    go_wp2_with fail
    rw [HW.out]
    go_wp2_with (first
      | (go_at_call 24; refine HDK.out.mono ?_; rintro e w1 ⟨rfl, hb1⟩; have e1 : Ext W w1 := EA.out.trans hb1; have HE1 := Lib.hid (Ext.row hb1 HE.out); have hr := e1.row R1.out; have f0 := frozen_of_row _ _ 0 _ _ hr; have f1 := frozen_of_row _ _ 1 _ _ hr; have k0 := cell_of_row _ _ 0 _ _ _ hr; have k1 := cell_of_row _ _ 1 _ _ _ hr; have q := pair_put hr (.string ⟨#[]⟩) (.slice none 0 0); have q0 := cell_of_row _ _ 0 _ _ _ q; have q1 := cell_of_row _ _ 1 _ _ _ q; clear hr q hb1))
    refine bodyPost_ret (v := .tuple #[.agg #[.string ⟨#[]⟩, .slice none 0 0], .slice (some ⟨w.heap.size + 1 + 1, 0, none⟩) 0 0]) (by simp [results, Tryz.results10, go_sem, q0, q1]) rfl ?_
    have hw2 := HWS.out
    have HE2 := HE1.out
    rw [show W.heap.size = w.heap.size + 1 + 1 from hw2] at HE2
    exact say_fin (R := w.heap.size + 1) (e0.trans e1) (.inl ⟨rfl, rfl⟩) (Fresh.none _) (fun h9 => by cases h9) (.inr ⟨w.heap.size + 1 + 1, 0, 0, #[], rfl, Nat.le_refl _, HE2, Nat.le_refl _, fun j z hj => by simp at hj⟩) (fun b9 h9 => by have h8 : w.heap.size + 1 + 1 = b9 := Option.some.inj h9; omega) (fun h9 => by have h8 : w.heap.size + 1 + 1 = w.heap.size + 1 := Option.some.inj h9; omega) (by omega) (fun b hb => by cases hb) rfl
set_option maxRecDepth 100000 in
set_option maxHeartbeats 3200000 in
theorem specDeskSay_yes (s : ByteArray) (a : Option Addr) (c L : Nat) (zs : List ByteArray) (b : Option Addr) (cb n : Nat) (w : World) (h : StrsAt w (.slice a L c) zs) (HL : Hid (zs.length = L)) (ls : List ByteArray) (HN : Hid (ls.length = n)) (hn : n ≤ 40) (hncb : n ≤ cb) (HC : Hid (∀ (j : Nat) (d : ByteArray), ls[j]? = some d → ∃ b', b = some b' ∧ w.cell? (b'.add j) = some (.string d))) (HLZ : Hid (∀ d ∈ ls, d.size ≤ 1048576)) (hok : Hid (deskOk s zs = true)) :
    Calls Tryz.prog 10 #[.agg #[.string s, .slice a L c], .slice b n cb] w (SayOut w (sayTo s zs ls)) := by
  obtain ⟨i0, hi0, hz0, hz1, hz2⟩ := info_parts stringInfo
  obtain ⟨hs1, h8, hz⟩ := deskOk_parts hok.out
  have hL8 : L ≤ 8 := by have := HL.out; omega
  obtain ⟨e0, hsz, r0, r1⟩ := desk2_in w s (.slice a L c)
  obtain ⟨W, hW⟩ : ∃ W, deskBox2 w s (.slice a L c) = W := ⟨_, rfl⟩
  rw [hW] at e0 hsz r0 r1
  unfold deskBox2 at hW
  have HW := Lib.hid hW
  have HWS := Lib.hid hsz
  have eA : Ext W (W.alloc (.cells #[] 9)) := (Ext.refl W).alloc _
  have HDK := Lib.hid (deskOk_named s (.slice a L c) zs (W.alloc (.cells #[] 9)) ((e0.trans eA).strs h) (by have := ok_size hs1; omega) (by omega) (fun z hz9 => by have := ok_size (hz z hz9); omega) true hok.out)
  have HOW := Lib.hid (own_none W 9 W.heap.size (Nat.le_refl _))
  have EA := Lib.hid eA
  have R0 := Lib.hid r0
  have R1 := Lib.hid r1
  have c0 := cell_of_row _ _ 0 _ _ _ r0
  have c1 := cell_of_row _ _ 1 _ _ _ r0
  have HCP : Hid (∀ Y, Ext W Y → Calls Tryz.prog 38 #[.agg #[.string s, .slice a L c]] Y fun e w' => ∃ g2 c2, e = .returned (.agg #[.string s, .slice (some ⟨g2, 0, none⟩) L c2]) ∧ PastAt w' (.slice (some ⟨g2, 0, none⟩) L c2) zs ∧ Y.heap.size ≤ g2 ∧ Below Y.heap.size Y w') := fun Y hY => by
    refine (copy_named s (.slice a L c) zs Y ((e0.trans hY).strs h) L HL.out (by have := HL.out; omega)).mono ?_
    rintro e w' ⟨g2, c2, he, hown2, hp2, hb2⟩
    exact ⟨g2, c2, he, hp2, by have := (hown2.lt g2 rfl).1; omega, hb2⟩
  have E0 := Lib.hid e0
  clear hW r0 r1 h hz h8 hs1 e0 hsz eA
  go_enter Tryz.func10, Tryz.ntmps10
  go_wp2_with fail
  rw [HW.out]
  go_wp2_with (first
    | (go_at_call 24; refine HDK.out.mono ?_; rintro e w1 ⟨rfl, hb1⟩; have e1 : Ext W w1 := EA.out.trans hb1; have ho1 := own_below HOW.out hb1; have hr := e1.row R0.out; have k0 := cell_of_row _ _ 0 _ _ _ hr; have k1 := cell_of_row _ _ 1 _ _ _ hr; have HO1 := Lib.hid ho1; have HB1 := Lib.hid hb1; clear hr hb1 ho1)
    | (go_at_call 38; refine (HCP.out w1 e1).mono ?_; rintro e w2 ⟨g2, c2, rfl, hp2, hg2, hb2⟩; have e2 : Ext W w2 := e1.call hb2; have HO2 := Lib.hid (own_below HO1.out hb2)))
  have hs1 := Lib.hid (show W.heap.size + 1 ≤ w1.heap.size by have := HB1.out.size; simp at this; omega)
  have hsy : Sy W w2.heap.size s (.slice (some ⟨g2, 0, none⟩) L c2) zs (.slice (some ⟨W.heap.size, 0, none⟩) 0 0) [] (w2.alloc (.cells #[.string s, .slice (some ⟨g2, 0, none⟩) L c2] 27)) := by
    have h1 := hs1.out
    have h2 := hb2.size
    refine ⟨e2.alloc _, heap_alloc_new w2 _, ((Ext.refl w2).alloc _).past hp2, fun b9 h9 => ?_, e2.size, own_below HO2.out ((Ext.refl w2).alloc _), ?_, ?_⟩
    · have h8 : g2 = b9 := Option.some.inj h9
      omega
    · intro b9 h9 h8
      have h7 : g2 = b9 := Option.some.inj h9
      have h6 : W.heap.size = b9 := Option.some.inj h8
      omega
    · intro h8
      have h7 : W.heap.size = w2.heap.size := Option.some.inj h8
      omega
  rw [show W.heap.size = w.heap.size + 1 + 1 from HWS.out] at hsy
  have hlow := Lib.hid (e2.size)
  obtain ⟨w3, hw3⟩ : ∃ w3, w2.alloc (.cells #[.string s, .slice (some ⟨g2, 0, none⟩) L c2] 27) = w3 := ⟨_, rfl⟩
  rw [hw3] at hsy ⊢
  obtain ⟨O, hO⟩ : ∃ O, w2.heap.size = O := ⟨_, rfl⟩
  rw [hO] at hsy ⊢
  have HSY := Lib.hid hsy
  have hOl : w.heap.size + 1 < O := by have := hlow.out; have := HWS.out; omega
  clear hsy hO hw3 hp2 hg2 hb2 k0 k1
  go_loopw [6, 8] (fun o i wr => ∃ (k : Nat) (x : ByteArray) (v : Value) (ys ts : List ByteArray) (g cap : Nat), k ≤ n ∧ i = .int .i64 k ∧ o = .slice (some ⟨g, 0, none⟩) k cap ∧ Hid (ts.length = k) ∧ Hid (sayTo s zs (ls.take k) = ((x, ys), ts)) ∧ Hid (Sy W O x v ys o ts wr) ∧ Hid (deskOk x ys = true)) (fun _ i _ => n - (intOf i).toNat)
  case atStart => exact ⟨0, s, _, zs, [], _, _, Nat.zero_le _, rfl, rfl, rfl, rfl, HSY.out, hok.out⟩
  case round =>
    obtain ⟨k, x, vx, ys, ts, g, cap, hk, rfl, rfl, HTL, HSAY, HB, HOK⟩ := hrel
    obtain ⟨ax, cx, hvx⟩ := past_value HB.out.past
    subst hvx
    obtain ⟨o0, o1⟩ := HB.out.cells
    have er : Ext W wr := HB.out.ext
    have hrr := er.row R1.out
    have HRR := Lib.hid hrr
    clear hrr
    by_cases hlt : k < n
    · obtain ⟨d, hd⟩ : ∃ d, ls[k]? = some d := ⟨ls[k]'(by rw [HN.out]; exact hlt), List.getElem?_eq_getElem (by rw [HN.out]; exact hlt)⟩
      obtain ⟨b', rfl, hc0⟩ := HC.out k d hd
      have hk3 : (0 : Int) ≤ (k : Int) := by omega
      have hk4 : (k : Int) < (n : Int) := by omega
      have l0 := cell_keep (E0.out.trans er) hc0
      have HTN := Lib.hid (sayTo_succ (s := s) (zs := zs) hd)
      have hlok := line_ok HOK.out d
      obtain ⟨x1, h1⟩ : ∃ x1, (lineOf x ys d).1.1 = x1 := ⟨_, rfl⟩
      obtain ⟨y1, h2⟩ : ∃ x1, (lineOf x ys d).1.2 = x1 := ⟨_, rfl⟩
      obtain ⟨t1, h3⟩ : ∃ x1, (lineOf x ys d).2 = x1 := ⟨_, rfl⟩
      rw [h1, h2] at hlok
      have hstep : sayStep ((x, ys), ts) d = ((x1, y1), ts ++ [t1]) := by unfold sayStep; rw [h3, show (lineOf x ys d).1 = (x1, y1) from Prod.ext h1 h2]
      have hdl : ∀ X, Ext wr X → Calls Tryz.prog 22 #[.agg #[.string x, .slice ax ys.length cx], .string d] X (LineOut X x1 y1 t1) := fun X hX => by
        have := specLine_ok x (.slice ax ys.length cx) ys d X (hX.strs HB.out.past.strs) HOK.out (HLZ.out d (List.mem_of_getElem? hd))
        rwa [h1, h2, h3] at this
      have HDL := Lib.hid hdl
      have HSTEP := Lib.hid hstep
      have HOK1 := Lib.hid hlok
      have hOlt := lt_at HB.out.row
      have hglt := sy_own_lt HB.out (b := g) rfl
      have hS : ∀ X, Ext wr X → X.cell? ⟨O, 0, none⟩ = some (.string x) ∧ X.cell? ⟨O, 1, none⟩ = some (.slice ax ys.length cx) ∧ X.cell? (b'.add k) = some (.string d) := fun X hX => ⟨(HB.out.call hX).cells.1, (HB.out.call hX).cells.2, cell_keep hX l0⟩
      have HS := Lib.hid hS
      clear hstep hlok hdl h1 h2 h3 hd hc0 hS
      go_wp2_with fail
      go_region_held3 (fun w' => w'.cell? ⟨O, 0, none⟩ = some (.string x) ∧ w'.cell? ⟨O, 1, none⟩ = some (.slice ax ys.length cx) ∧ w'.cell? (b'.add k) = some (.string d))
        (exact HS.out _ (by (first | assumption | exact Ext.refl _ | exact (Ext.refl _).drew | (refine Ext.alloc ?_ _; first | assumption | exact Ext.refl _ | exact (Ext.refl _).drew) | (refine Ext.drew ?_; first | assumption | exact Ext.refl _ | exact (Ext.refl _).drew) | (refine Ext.drew ?_; refine Ext.alloc ?_ _; first | assumption | exact Ext.refl _ | exact (Ext.refl _).drew) | (refine Ext.setCell (Ext.setCell ?_ ?_ _) ?_ _ <;> first | assumption | omega | (simp <;> omega)))))
        (first
          | (go_at_call 22; refine (HDL.out _ (by (first | assumption | exact Ext.refl _ | exact (Ext.refl _).drew | (refine Ext.alloc ?_ _; first | assumption | exact Ext.refl _ | exact (Ext.refl _).drew) | (refine Ext.drew ?_; first | assumption | exact Ext.refl _ | exact (Ext.refl _).drew) | (refine Ext.drew ?_; refine Ext.alloc ?_ _; first | assumption | exact Ext.refl _ | exact (Ext.refl _).drew) | (refine Ext.setCell (Ext.setCell ?_ ?_ _) ?_ _ <;> first | assumption | omega | (simp <;> omega))))).mono ?_; rintro e wC ⟨vC, rfl, hpC, hfC, hbC⟩; obtain ⟨aC, cC, hvC⟩ := past_value hpC; subst hvC; have gC := fresh_ext (show Ext wr _ by (first | assumption | exact Ext.refl _ | exact (Ext.refl _).drew | (refine Ext.alloc ?_ _; first | assumption | exact Ext.refl _ | exact (Ext.refl _).drew) | (refine Ext.drew ?_; first | assumption | exact Ext.refl _ | exact (Ext.refl _).drew) | (refine Ext.drew ?_; refine Ext.alloc ?_ _; first | assumption | exact Ext.refl _ | exact (Ext.refl _).drew) | (refine Ext.setCell (Ext.setCell ?_ ?_ _) ?_ _ <;> first | assumption | omega | (simp <;> omega)))) hfC; have eC : Ext wr wC := Ext.call (by (first | assumption | exact Ext.refl _ | exact (Ext.refl _).drew | (refine Ext.alloc ?_ _; first | assumption | exact Ext.refl _ | exact (Ext.refl _).drew) | (refine Ext.drew ?_; first | assumption | exact Ext.refl _ | exact (Ext.refl _).drew) | (refine Ext.drew ?_; refine Ext.alloc ?_ _; first | assumption | exact Ext.refl _ | exact (Ext.refl _).drew) | (refine Ext.setCell (Ext.setCell ?_ ?_ _) ?_ _ <;> first | assumption | omega | (simp <;> omega)))) hbC; (first | (have hN := box_keep hbC; have nN := box_ne hfC) | (have hN := box_keep_drew hbC; have nN := box_ne_drew hfC) | (have nN := fresh_ne hfC hN; have hN := Ext.row hbC hN) | skip); have PC := Lib.hid hpC; have FC := Lib.hid gC; have sC := Ext.size eC; (first | (have zN := frozen_of_row _ _ 0 _ _ hN; have zN1 := frozen_of_row _ _ 1 _ _ hN; have yN := cell_of_row _ _ 0 _ _ _ hN; have yN1 := cell_of_row _ _ 1 _ _ _ hN; have HN2 := Lib.hid hN; clear hN) | skip); clear hpC hfC hbC gC))
      all_goals
        first
          | (have hBN := box_set (x := x1) HN2.out PC.out FC.out nN (by first | omega | (simp <;> omega)))
          | (have hBN := box_new (x := x1) PC.out FC.out sC)
        (first | (have eX := ext_new hBN eC) | (have eX := ext_set hBN eC (by first | omega | (simp <;> omega))))
        have hSX := HB.out.call eX
        obtain ⟨n0, n1⟩ := hBN.cells
        obtain ⟨p0, p1⟩ := hSX.cells
        have pf0 := frozen_of_row _ _ 0 _ _ hSX.row
        have pf1 := frozen_of_row _ _ 1 _ _ hSX.row
        have HBN := Lib.hid hBN
        have HSX := Lib.hid hSX
        clear hBN hSX
        go_upto_region 10 with (fail)
        refine wp_at_world (F := Sy W O x1 (.slice aC y1.length cC) y1 (.slice (some ⟨g, 0, none⟩) k cap) ts) ?_ ?_
        · refine HSX.out.put HBN.out.past (fresh_ext er FC.out) (fun b9 h9 h8 => ?_) (fun h9 => ?_)
          · have h7 : g = b9 := Option.some.inj h8
            have := FC.out _ h9
            omega
          · have := FC.out _ h9
            omega
        intro W9 h9
        have HS9 := Lib.hid h9
        have hown9 := h9.own
        rw [HTL.out] at hown9
        have hs9 := h9.ext.size
        have hgl9 := sy_own_lt h9 (b := g) rfl
        clear h9
        go_wp2_with (first
          | (at_builtin; refine wpList_append_lies _ rfl _ _ 22 rfl W.heap.size 9 i0 _ 1 16 Tryz.underlying22 hi0 hz0 hz1 hz2 rfl (by omega) _ k _ rfl (hown9.alloc _) ⟨W9.heap.size, 0, none⟩ 1 1 [.string t1] rfl rfl (World.news_of_block (cs := #[.string t1]) (t := 9) (fr := (0, 0)) (heap_alloc_new W9 _)) (by simp [Value.oneCell']) (by omega) (by unfold maxLen; omega) (by omega) (by simp; omega) (W9.heap.size + 1) (by simp) ?_; intro g4 cap4 w5 hown5 hgrow5 hat5 hlt5))
        go_roundw
        case rel =>
          refine ⟨k + 1, x1, .slice aC y1.length cC, y1, ts ++ [t1], g4, cap4, by omega, by go_num, rfl, ?_, ?_, ?_, HOK1.out⟩
          · show _ = _
            rw [List.length_append, HTL.out]
            rfl
          · show _ = _
            rw [HTN.out, HSAY.out, HSTEP.out]
          · refine Sy.more (HS9.out.call ((Ext.refl W9).alloc _)) hgrow5 hown5 (by rw [HTL.out]) ?_
            rcases hat5 with hat5 | hat5
            · exact .inl hat5
            · exact .inr (by rw [hat5]; simp)
        case measure => simp [intOf]; omega
    · obtain rfl : k = n := by omega
      have hall := HSAY.out
      rw [List.take_of_length_le (by rw [HN.out]; exact Nat.le_refl _)] at hall
      have HALL := Lib.hid hall
      have f0 := frozen_of_row _ _ 0 _ _ HRR.out
      have f1 := frozen_of_row _ _ 1 _ _ HRR.out
      have k0' := cell_of_row _ _ 0 _ _ _ HRR.out
      have k1' := cell_of_row _ _ 1 _ _ _ HRR.out
      have q := pair_put HRR.out (.string x) (.slice ax ys.length cx)
      have q0 := cell_of_row _ _ 0 _ _ _ q
      have q1 := cell_of_row _ _ 1 _ _ _ q
      clear hall q
      go_wp2_with fail
      refine bodyPost_ret (v := .tuple #[.agg #[.string x, .slice ax ys.length cx], .slice (some ⟨g, 0, none⟩) k cap]) (by simp [results, Tryz.results10, go_sem, q0, q1]) rfl ?_
      have hw2 := HWS.out
      have hgb := (HB.out.own.lt g rfl).1
      have hown := HB.out.own
      have hpo : PastAt wr (.slice (some ⟨g, 0, none⟩) k cap) ts := past_own hown
      exact say_fin (E0.out.trans er) HB.out.past (fresh_ext E0.out HB.out.fresh) (fun h9 => by have := HB.out.fresh _ h9; omega) hpo (fun b9 h9 => by have h8 : g = b9 := Option.some.inj h9; omega) (fun h9 => by have h8 : g = w.heap.size + 1 := Option.some.inj h9; omega) (by omega) HB.out.nev HALL.out
theorem implDeskSay (s : ByteArray) (v : Value) (zs : List ByteArray) (u : Value) (ls : List ByteArray) (w : World) (h : PastAt w v zs) (hl : StrsAt w u ls) (hs : s.size ≤ 1048576) (hL : zs.length ≤ 1048576) (hz : ∀ z ∈ zs, z.size ≤ 1048576) (hn : ls.length ≤ 1048576) (hlz : ∀ z ∈ ls, z.size ≤ 1048576) (ht : TabsAt w) :
    Calls Tryz.prog 13 #[.agg #[.string s, v], u] w (SayOut w (deskSay s zs ls)) := by
  obtain ⟨a, c, rfl⟩ := past_value h
  obtain ⟨b, cb, rfl, hcb, hc⟩ := strs_parts hl
  by_cases hok : deskOk s zs = true ∧ ls.length ≤ 40
  · rw [show deskSay s zs ls = sayTo s zs ls from if_pos hok]
    exact implDeskSay_yes s a c zs.length zs b cb ls.length w (Lib.hid rfl) ls (Lib.hid rfl) hok.2 hcb (Lib.hid hc) (Lib.hid hlz) (Lib.hid hok.1) ht h
  · rw [show deskSay s zs ls = ((⟨#[]⟩, []), []) from if_neg hok]
    refine implDeskSay_no s a c zs.length zs b cb ls.length w h.strs (Lib.hid rfl) hs hL hz hn (deskOk s zs) rfl ?_
    cases hb : deskOk s zs
    · exact .inl rfl
    · exact .inr ⟨rfl, by have : ¬ ls.length ≤ 40 := fun h => hok ⟨hb, h⟩; omega⟩
theorem specDeskSay (s : ByteArray) (v : Value) (zs : List ByteArray) (u : Value) (ls : List ByteArray) (w : World) (h : StrsAt w v zs) (hl : StrsAt w u ls) (hs : s.size ≤ 1048576) (hL : zs.length ≤ 1048576) (hz : ∀ z ∈ zs, z.size ≤ 1048576) (hn : ls.length ≤ 1048576) (hlz : ∀ z ∈ ls, z.size ≤ 1048576) :
    Calls Tryz.prog 10 #[.agg #[.string s, v], u] w (SayOut w (deskSay s zs ls)) := by
  obtain ⟨a, c, rfl⟩ := strs_value h
  obtain ⟨b, cb, rfl, hcb, hc⟩ := strs_parts hl
  by_cases hok : deskOk s zs = true ∧ ls.length ≤ 40
  · rw [show deskSay s zs ls = sayTo s zs ls from if_pos hok]
    exact specDeskSay_yes s a c zs.length zs b cb ls.length w h (Lib.hid rfl) ls (Lib.hid rfl) hok.2 hcb (Lib.hid hc) (Lib.hid hlz) (Lib.hid hok.1)
  · rw [show deskSay s zs ls = ((⟨#[]⟩, []), []) from if_neg hok]
    refine specDeskSay_no s a c zs.length zs b cb ls.length w h (Lib.hid rfl) hs hL hz hn (deskOk s zs) rfl ?_
    cases hb : deskOk s zs
    · exact .inl rfl
    · exact .inr ⟨rfl, by have : ¬ ls.length ≤ 40 := fun h => hok ⟨hb, h⟩; omega⟩

end Go.Proofs.YtccdfndnjjjgfaaGreatDoor

namespace Go.Proofs.YtccdfndnjjjgfaaGreatDoor
open Go.ChangeShapes Go.WideShapes Go.ChangeAt Go.RowKit Go.WideMaps Go.WideElems
open Go.ChangeMaps (open_string shut_string)

section
variable {H : Type} {enc : TypeId × Value → H} {P : Program}

theorem trodAll_stays (hl : laidOutB P = true) {W W' : World} {sp' : Nat → Bool} : ∀ {ts : List TypeId} {vs : List Value} {ds : List (DataW H)} {ps : List MemPlace},
    (∀ t ∈ ts, P.readableRec t = true ∧ t < P.types.size) → DataW.TrodAll enc P W 0 (fun _ => true) true ts vs ds ps → (∀ p ∈ ps, W.sameAt W' p) → (∀ p ∈ ps, sp' p.block = true) → DataW.TrodAll enc P W' 0 sp' true ts vs ds ps
  | [], _, _, _, _, h, _, _ => by
    obtain ⟨rfl, rfl, rfl⟩ := trodAll_nil h
    exact trodAll_mk0
  | t :: ts, _, _, _, hr, h, hsame, hs => by
    obtain ⟨v, vs', d, ds', p, q, rfl, rfl, rfl, h1, h2⟩ := trodAll_cons h
    exact trodAll_cons_mk (WideElems.Trod_stays hl (hr t (by simp)).1 (hr t (by simp)).2 h1 (fun x hx => hsame x (by simp [hx])) (fun x hx => hs x (by simp [hx])))
      (trodAll_stays hl (fun u hu => hr u (by simp [hu])) h2 (fun x hx => hsame x (by simp [hx])) (fun x hx => hs x (by simp [hx])))

theorem trodVars_stays (hl : laidOutB P = true) {W W' : World} {sp' : Nat → Bool} (hb : Below W.heap.size W W') : ∀ {ns : List String} {ds : List (DataW H)} {ps : List MemPlace},
    (∀ n ∈ ns, ∀ g t, P.globalNamed n = some g → (P.globals[g]?).map (·.type) = some t → P.readableRec t = true ∧ t < P.types.size) → DataW.TrodVars enc P W (fun _ => true) ns ds ps → (∀ p ∈ ps, W.sameAt W' p) → (∀ p ∈ ps, sp' p.block = true) →
    DataW.TrodVars enc P W' sp' ns ds ps
  | [], ds, _, _, h, _, _ => by
    cases ds with
    | nil => exact h
    | cons _ _ => exact h.elim
  | n :: ns, [], _, _, h, _, _ => h.elim
  | n :: ns, d :: ds, _, hr, h, hsame, hs => by
    obtain ⟨g, t, cs, fuel, p, q, h1, h2, h3, h4, h5, rfl⟩ := h
    have hg : g < W.heap.size := by
      have h3' := h3
      unfold World.var? at h3'
      rw [h1, Option.bind_some] at h3'
      rcases Nat.lt_or_ge g W.heap.size with hlt | hge
      · exact hlt
      · rw [Array.getElem?_eq_none hge] at h3'
        cases h3'
    obtain ⟨hr1, hr2⟩ := hr n (by simp) g t h1 h2
    have h4' := DataW.trod_stays (sp' := sp') (kids_book hl hr1) (book_sized hr1) (fun h => by cases h) ⟨hr2, book_self t⟩ h4 (fun x hx => hsame x (by simp [hx])) (fun x hx => hs x (by simp [hx]))
    exact ⟨g, t, cs, fuel, p, q, h1, h2, var?_below hb h1 hg h3, h4', trodVars_stays hl hb (fun m hm => hr m (by simp [hm])) h5 (fun x hx => hsame x (by simp [hx])) (fun x hx => hs x (by simp [hx])), rfl⟩

section
variable {H : Type} {enc : TypeId × Value → H} {P : Program} {W : World} {sp : Nat → Bool}
theorem trodVars_len0 {gs : List (DataW H)} {q : List MemPlace} (h : DataW.TrodVars enc P W sp [] gs q) : gs = [] := (trodVars_none h).1
theorem trodVars_len1 {n0 : String} {gs : List (DataW H)} {q : List MemPlace} (h : DataW.TrodVars enc P W sp [n0] gs q) : ∃ g0, gs = [g0] := by
  cases gs with
  | nil => exact h.elim
  | cons g0 gs =>
    obtain ⟨_, _, _, _, _, _, _, _, _, _, h', _⟩ := h
    exact ⟨g0, by rw [trodVars_len0 h']⟩
theorem trodVars_len2 {n0 n1 : String} {gs : List (DataW H)} {q : List MemPlace} (h : DataW.TrodVars enc P W sp [n0, n1] gs q) : ∃ g0 g1, gs = [g0, g1] := by
  cases gs with
  | nil => exact h.elim
  | cons g0 gs =>
    obtain ⟨_, _, _, _, _, _, _, _, _, _, h', _⟩ := h
    obtain ⟨g1, rfl⟩ := trodVars_len1 h'
    exact ⟨g0, g1, rfl⟩
theorem trodVars_len3 {n0 n1 n2 : String} {gs : List (DataW H)} {q : List MemPlace} (h : DataW.TrodVars enc P W sp [n0, n1, n2] gs q) : ∃ g0 g1 g2, gs = [g0, g1, g2] := by
  cases gs with
  | nil => exact h.elim
  | cons g0 gs =>
    obtain ⟨_, _, _, _, _, _, _, _, _, _, h', _⟩ := h
    obtain ⟨g1, g2, rfl⟩ := trodVars_len2 h'
    exact ⟨g0, g1, g2, rfl⟩
theorem trodVars_len4 {n0 n1 n2 n3 : String} {gs : List (DataW H)} {q : List MemPlace} (h : DataW.TrodVars enc P W sp [n0, n1, n2, n3] gs q) : ∃ g0 g1 g2 g3, gs = [g0, g1, g2, g3] := by
  cases gs with
  | nil => exact h.elim
  | cons g0 gs =>
    obtain ⟨_, _, _, _, _, _, _, _, _, _, h', _⟩ := h
    obtain ⟨g1, g2, g3, rfl⟩ := trodVars_len3 h'
    exact ⟨g0, g1, g2, g3, rfl⟩
end

/-- What a law's specification says: the call returns true, and all reads as before. -/
structure Plain (s : ChangeSpec) (ds gs : List (DataW H)) : Prop where
  res : (s.fn H (ds ++ gs)).results = [.lit (.bool true)]
  args : (s.fn H (ds ++ gs)).args = ds
  vars : (s.fn H (ds ++ gs)).vars = gs

def rowsOk (P : Program) (ts : List TypeId) : Bool := ts.all fun t => P.readableRec t && decide (t < P.types.size)
def varsOk (P : Program) (ns : List String) : Bool := ns.all fun n => ((P.globalNamed n).bind (P.globals[·]?)).all fun gl => P.readableRec gl.type && decide (gl.type < P.types.size)

theorem law_post {f : Func} {s : ChangeSpec} {W W' : World} {args : Array Value} {ds gs : List (DataW H)} {before : List MemPlace} (hl : laidOutB P = true) (ht : rowsOk P f.params.toList = true) (hv : varsOk P s.vars = true)
    {tb : TypeId} (hb1 : f.resultTypes = #[tb]) (hb2 : P.underlying tb = some .bool)
    (hW : DataW.Whole enc P f.params.toList s.vars false W args.toList ds gs before) (hs : Plain s ds gs) (hb : Below W.heap.size W W') :
    s.post enc P f false true false false W args (.bool true) W' := by
  have hlt : ∀ p ∈ before, p.block < W.heap.size := fun p hp => hW.lt p hp
  have hold : ∀ p ∈ before, (fun b => decide (b < W.heap.size)) p.block = true := fun p hp => by simpa using hlt p hp
  have hW' := hW
  obtain ⟨pa, pv, hA, hV, rfl, hz, hn⟩ := hW
  have hsame : ∀ p ∈ pa ++ pv, W.sameAt W' p := fun p hp => hb.same (hlt p hp)
  have htr : ∀ t ∈ f.params.toList, P.readableRec t = true ∧ t < P.types.size := fun t h => by
    have := List.all_eq_true.1 ht t h
    simpa using this
  have hvr : ∀ n ∈ s.vars, ∀ g t, P.globalNamed n = some g → (P.globals[g]?).map (·.type) = some t → P.readableRec t = true ∧ t < P.types.size := fun n h g t h1 h2 => by
    have := List.all_eq_true.1 hv n h
    rw [h1] at this
    cases hg : P.globals[g]? with
    | none => rw [hg] at h2; cases h2
    | some gl =>
      rw [hg] at h2
      obtain rfl : gl.type = t := Option.some.inj h2
      simpa [hg] using this
  have hargs : ∀ sp : Nat → Bool, (∀ p ∈ pa ++ pv, sp p.block = true) → DataW.TrodAll enc P W' 0 sp true f.params.toList args.toList (s.fn H (ds ++ gs)).args pa := fun sp hsp => by
    rw [hs.args]
    exact trodAll_stays hl htr hA (fun x hx => hsame x (by simp [hx])) (fun x hx => hsp x (by simp [hx]))
  have hvars : ∀ sp : Nat → Bool, (∀ p ∈ pa ++ pv, sp p.block = true) → DataW.TrodVars enc P W' sp s.vars (s.fn H (ds ++ gs)).vars pv := fun sp hsp => by
    rw [hs.vars]
    exact trodVars_stays hl hb hvr hV (fun x hx => hsame x (by simp [hx])) (fun x hx => hsp x (by simp [hx]))
  have hres : ∀ (b : Nat) (sp : Nat → Bool) (hd : Bool), DataW.TrodAll enc P W' b sp hd f.resultTypes.toList ((Value.bool true).resultList f.resultTypes.size) (s.fn H (ds ++ gs)).results [] := fun b sp hd => by
    rw [hs.res, hb1]
    exact trodAll_cons_mk (shut_bool hb2 _) trodAll_mk0
  refine ⟨ds, gs, pa ++ pv, [], pa, pv, hW', hres _ _ _, hargs _ hold, hvars _ hold, World.keptBut_mono (fun p hp => ⟨hp, ?_⟩) (hb.frame (· ∈ pa ++ pv)), fun h => by cases h⟩
  rw [List.mem_append] at hp
  exact Or.inr hp

/-- Out of the list of variables with what they hold: one of them. -/
theorem laid_one {W : World} {n : String} {d : DataW Unit} : ∀ {laid : List (String × DataW Unit)} {ps : List MemPlace}, DataW.LaidVars P W laid ps → (n, d) ∈ laid →
    ∃ g t cs fuel p, P.globalNamed n = some g ∧ (P.globals[g]?).map (·.type) = some t ∧ W.var? P n = some cs ∧ DataW.trod (fun _ => ()) P W 0 (fun _ => true) false fuel t cs.toList = some (d, p)
  | [], _, _, hm => by cases hm
  | (n', d') :: r, _, h, hm => by
    obtain ⟨g, t, cs, fuel, p, q, h1, h2, h3, h4, h5, _⟩ := h
    rcases List.mem_cons.1 hm with e | hm
    · cases e
      exact ⟨g, t, cs, fuel, p, h1, h2, h3, h4⟩
    · exact laid_one h5 hm

/-- An array of strings, cell for cell. -/
theorem cells_of_strs {w : World} {base : Nat} {sp : Nat → Bool} {held : Bool} {fuel : Nat} {t e : TypeId} {n : Nat} {cs : List Value} {zs : List (List UInt8)} {p : List MemPlace}
    (ht : P.underlying t = some (.array n e)) (he : P.underlying e = some .string) (hce : P.cellsOf e = 1)
    (h : DataW.trod enc P w base sp held fuel t cs = some (.agg (zs.map fun z => .lit (.string z)), p)) : ∀ i, i < n → cs[i]? = some (.string (Tw.str (zs.getD i []))) := by
  obtain ⟨xs, m, _, hx, _, hxl, hel⟩ := DataW.trod_array ht h
  simp only [Prod.mk.injEq, DataW.agg.injEq] at hx
  intro i hi
  have h1 := hel i hi
  rw [hce, Nat.mul_one] at h1
  have hx1 : xs[i]? = some (xs[i]'(by omega)) := List.getElem?_eq_getElem (by omega)
  rw [hx1] at h1
  obtain ⟨s, hc, hy, _⟩ := DataW.trod_string he h1
  have h2 : (xs.map (·.1))[i]? = some (DataW.lit (.string s.data.toList) : DataW H) := by simp [hx1, hy]
  rw [← hx.1] at h2
  simp only [List.getElem?_map, Option.map_eq_some_iff, DataW.lit.injEq, Lit.string.injEq] at h2
  obtain ⟨z, hz, rfl⟩ := h2
  have h3 := congrArg (·[0]?) hc
  simp only [List.getElem?_take, List.getElem?_drop] at h3
  simp at h3
  rw [h3, List.getD, hz, Option.getD_some, Tw.str_of]

end

theorem gWays : Tryz.prog.globalNamed "loop.example/turtlewalks/impl.wayLetters" = some 1 := by kernel_rfl
theorem gWaysType : (Tryz.prog.globals[1]?).map (·.type) = some 144 := by kernel_rfl
theorem cellsString : Tryz.prog.cellsOf 9 = 1 := by kernel_rfl
theorem waysAt {W : World} {laid : List (String × DataW Unit)} (hp : (laid.all fun x => x.2.handleName?.isNone) = true) (h : laidMetH Tryz.prog laid W)
    (hm : ("loop.example/turtlewalks/impl.wayLetters", Rows.laid_loop_example_turtlewalks_impl_wayLetters) ∈ laid) : WaysAt W := by
  rw [MakeChecks.laidMetH_plain _ _ _ hp] at h
  obtain ⟨_, h, _⟩ := h
  obtain ⟨g, t, cs, fuel, p, h1, h2, h3, h4⟩ := laid_one h hm
  obtain rfl := Option.some.inj (gWays.symm.trans h1)
  obtain rfl := Option.some.inj (gWaysType.symm.trans h2)
  intro i hi
  rw [World.var?_cell h1 h3 i]
  have := cells_of_strs (zs := wayList) Tryz.underlying144 Tryz.underlying9 cellsString h4 i hi
  simpa using this

theorem gDirs : Tryz.prog.globalNamed "loop.example/turtlewalks/impl.directions" = some 3 := by kernel_rfl
theorem gDirsType : (Tryz.prog.globals[3]?).map (·.type) = some 169 := by kernel_rfl
theorem cellsPair : Tryz.prog.cellsOf 129 = 2 := by kernel_rfl
theorem cellsInt : Tryz.prog.cellsOf 3 = 1 := by kernel_rfl
theorem cells_of_dirs {w : World} {base : Nat} {sp : Nat → Bool} {held : Bool} {fuel : Nat} {cs : List Value} {zs : List (List Int)} {p : List MemPlace}
    (h : DataW.trod (fun _ => ()) Tryz.prog w base sp held fuel 169 cs = some (.agg (zs.map fun z => .agg (z.map fun y => .lit (.int .i64 y))), p)) :
    ∀ i j, i < 4 → j < 2 → cs[i * 2 + j]? = some (.int .i64 ((zs.getD i []).getD j 0)) := by
  obtain ⟨xs, m, _, hx, _, hxl, hel⟩ := DataW.trod_array Tryz.underlying169 h
  simp only [Prod.mk.injEq, DataW.agg.injEq] at hx
  intro i j hi hj
  have h1 := hel i hi
  rw [cellsPair] at h1
  have hx1 : xs[i]? = some (xs[i]'(by omega)) := List.getElem?_eq_getElem (by omega)
  rw [hx1] at h1
  have h2 : (xs.map (·.1))[i]? = some (xs[i]'(by omega)).1 := by simp [hx1]
  rw [← hx.1] at h2
  simp only [List.getElem?_map, Option.map_eq_some_iff] at h2
  obtain ⟨z, hz, hz1⟩ := h2
  have h1' : DataW.trod (fun _ => ()) Tryz.prog w base sp held m 129 ((cs.drop (i * 2)).take 2) = some (.agg (z.map fun y => .lit (.int .i64 y)), (xs[i]'(by omega)).2) := by rw [h1, hz1]
  obtain ⟨ys, m2, _, hy, _, hyl, hel2⟩ := DataW.trod_array Tryz.underlying129 h1'
  simp only [Prod.mk.injEq, DataW.agg.injEq] at hy
  have h3 := hel2 j hj
  rw [cellsInt, Nat.mul_one] at h3
  have hy1 : ys[j]? = some (ys[j]'(by omega)) := List.getElem?_eq_getElem (by omega)
  rw [hy1] at h3
  obtain ⟨q, hc, hq, _⟩ := DataW.trod_int Tryz.underlying3 h3
  have h4 : (ys.map (·.1))[j]? = some (DataW.lit (.int .i64 q) : DataW Unit) := by simp [hy1, hq]
  rw [← hy.1] at h4
  simp only [List.getElem?_map, Option.map_eq_some_iff, DataW.lit.injEq, Lit.int.injEq, true_and] at h4
  obtain ⟨z', hz', rfl⟩ := h4
  have h5 := congrArg (·[0]?) hc
  simp only [List.getElem?_take, List.getElem?_drop] at h5
  simp [hj] at h5
  have e1 : zs.getD i [] = z := by simp [List.getD, hz]
  rw [h5, e1, List.getD, hz', Option.getD_some]
theorem dirsAt {W : World} {laid : List (String × DataW Unit)} (hp : (laid.all fun x => x.2.handleName?.isNone) = true) (h : laidMetH Tryz.prog laid W)
    (hm : ("loop.example/turtlewalks/impl.directions", Rows.laid_loop_example_turtlewalks_impl_directions) ∈ laid) : DirsAt W := by
  rw [MakeChecks.laidMetH_plain _ _ _ hp] at h
  obtain ⟨_, h, _⟩ := h
  obtain ⟨g, t, cs, fuel, p, h1, h2, h3, h4⟩ := laid_one h hm
  obtain rfl := Option.some.inj (gDirs.symm.trans h1)
  obtain rfl := Option.some.inj (gDirsType.symm.trans h2)
  have hc : ∀ i j, i < 4 → j < 2 → W.cell? ⟨3, i * 2 + j, none⟩ = some (.int .i64 (([[1, 0], [0, 1], [-1, 0], [0, -1]].getD i []).getD j 0)) := fun i j hi hj => by
    rw [World.var?_cell h1 h3 (i * 2 + j)]
    have := cells_of_dirs (zs := [[1, 0], [0, 1], [-1, 0], [0, -1]]) h4 i j hi hj
    rw [← Array.getElem?_toList]
    exact this
  exact ⟨hc 0 0 (by omega) (by omega), hc 0 1 (by omega) (by omega), hc 1 0 (by omega) (by omega), hc 1 1 (by omega) (by omega), hc 2 0 (by omega) (by omega), hc 2 1 (by omega) (by omega), hc 3 0 (by omega) (by omega), hc 3 1 (by omega) (by omega)⟩

end Go.Proofs.YtccdfndnjjjgfaaGreatDoor

namespace Go.Proofs.YtccdfndnjjjgfaaGreatDoor
open Go.ChangeShapes Go.WideShapes Go.ChangeAt Go.RowKit Go.WideMaps Go.WideElems

def wordsList : List (List UInt8) := [[115, 116, 101, 112], [100, 114, 111, 112], [119, 97, 121], [111, 110], [102, 105, 114, 115, 116], [98, 97, 99, 107]]
theorem gWords : Tryz.prog.globalNamed "loop.example/turtlewalks/impl.deedWords" = some 0 := by kernel_rfl
theorem gWordsType : (Tryz.prog.globals[0]?).map (·.type) = some 94 := by kernel_rfl
theorem cellsWord : Tryz.prog.cellsOf 9 = 1 := by kernel_rfl
set_option maxRecDepth 100000 in
theorem wordsAt {W : World} {laid : List (String × DataW Unit)} (hp : (laid.all fun x => x.2.handleName?.isNone) = true) (h : laidMetH Tryz.prog laid W)
    (hm : ("loop.example/turtlewalks/impl.deedWords", Rows.laid_loop_example_turtlewalks_impl_deedWords) ∈ laid) : WordsAt W := by
  rw [MakeChecks.laidMetH_plain _ _ _ hp] at h
  obtain ⟨_, h, _⟩ := h
  obtain ⟨g, t, cs, fuel, p, h1, h2, h3, h4⟩ := laid_one h hm
  obtain rfl := Option.some.inj (gWords.symm.trans h1)
  obtain rfl := Option.some.inj (gWordsType.symm.trans h2)
  intro i hi
  rw [World.var?_cell h1 h3 i]
  have := cells_of_strs (zs := wordsList) Tryz.underlying94 Tryz.underlying9 cellsWord h4 i hi
  rw [← Array.getElem?_toList, this]
  rfl

end Go.Proofs.YtccdfndnjjjgfaaGreatDoor

namespace Go.Proofs.YtccdfndnjjjgfaaGreatDoor
open Go.ChangeShapes Go.WideShapes Go.ChangeAt Go.RowKit Go.WideMaps Go.WideElems

theorem gPow : Tryz.prog.globalNamed "internal/strconv.uint64pow10" = some 4 := by kernel_rfl
theorem gPowType : (Tryz.prog.globals[4]?).map (·.type) = some 179 := by kernel_rfl
theorem cellsPow : Tryz.prog.cellsOf 164 = 1 := by kernel_rfl
theorem cellsPows : Tryz.prog.cellsOf 179 = 20 := by kernel_rfl
theorem powLaid : (Rows.laid_internal_strconv_uint64pow10 : DataW Unit) = Lib.tabData .u64 Lib.pow10Tab := by kernel_rfl
set_option maxRecDepth 100000 in
theorem powAt {W : World} {laid : List (String × DataW Unit)} (hp : (laid.all fun x => x.2.handleName?.isNone) = true) (h : laidMetH Tryz.prog laid W)
    (hm : ("internal/strconv.uint64pow10", Rows.laid_internal_strconv_uint64pow10) ∈ laid) : PowAt W := by
  rw [MakeChecks.laidMetH_plain _ _ _ hp] at h
  obtain ⟨_, h, _⟩ := h
  obtain ⟨g, t, cs, fuel, p, h1, h2, h3, h4⟩ := laid_one h hm
  obtain rfl := Option.some.inj (gPow.symm.trans h1)
  obtain rfl := Option.some.inj (gPowType.symm.trans h2)
  rw [powLaid] at h4
  unfold PowAt Lib.TabIs
  rw [h3, ← Lib.cells_of_tab Tryz.underlying179 Tryz.underlying164 cellsPow cellsPows h4]

end Go.Proofs.YtccdfndnjjjgfaaGreatDoor

namespace Go.Proofs.YtccdfndnjjjgfaaGreatDoor
open Go.ChangeShapes Go.WideShapes Go.ChangeAt Go.RowKit Go.WideMaps Go.WideElems

set_option maxRecDepth 100000 in
theorem open_desk {H : Type} {enc : TypeId × Value → H} {W : World} {base : Nat} {spare : Nat → Bool} {held : Bool} {r : Reach} {b0 : Nat} {v : Value} {d : DataW H} {p : List MemPlace} (hv : Value.okWide Tryz.prog W r b0 24 v) (h : DataW.Trod enc Tryz.prog W base spare held 24 v d p) :
    ∃ (s : ByteArray) (vv : Value) (zs : List ByteArray), v = .agg #[.string s, vv] ∧ StrsAt W vv zs ∧ s.size ≤ 9223372036854775807 ∧ zs.length ≤ 9223372036854775807 ∧ ∀ z ∈ zs, z.size ≤ 9223372036854775807 := by
  obtain ⟨v0, v1, y0, y1, n, rfl, _, _, h0, h1⟩ := Go.Joins.open_agg2 Tryz.underlying24 (by kernel_rfl) (by kernel_rfl) hv h
  obtain ⟨s, hs, _, hs1⟩ := DataW.trod_string Tryz.underlying9 h0
  obtain rfl : v0 = .string s := by simpa using hs
  rcases open_strings Tryz.underlying22 Tryz.underlying9 (by kernel_rfl) h1 with ⟨hv1, _⟩ | ⟨a, len, cap, ss, hv1, _, hl, hm, hlen, _, hc, hss⟩
  · obtain rfl : v1 = .slice none 0 0 := by simpa using hv1
    exact ⟨s, _, [], rfl, .inl ⟨rfl, rfl⟩, by unfold maxLen at hs1; omega, by simp, by simp⟩
  · obtain rfl : v1 = .slice (some a) len cap := by simpa using hv1
    have hle : len ≤ ss.length := by rw [hlen]; split <;> omega
    have hlt : (ss.take len).length = len := by rw [List.length_take]; omega
    refine ⟨s, _, ss.take len, rfl, .inr ⟨a, cap, by rw [hlt], by rw [hlt]; exact hl, fun j z hz => ?_⟩, by unfold maxLen at hs1; omega, by rw [hlt]; unfold maxLen at hm; omega, fun z hz => ?_⟩
    · rw [List.getElem?_take] at hz
      split at hz
      · have hj := (List.getElem?_eq_some_iff.1 hz).1
        have := hc j hj
        rwa [List.getD, hz, Option.getD_some] at this
      · cases hz
    · have := hss z (List.mem_of_mem_take hz)
      unfold maxLen at this
      omega

end Go.Proofs.YtccdfndnjjjgfaaGreatDoor

namespace Go.Proofs.YtccdfndnjjjgfaaGreatDoor
open Go.ChangeShapes Go.WideShapes Go.ChangeAt Go.RowKit Go.WideMaps Go.WideElems

set_option maxRecDepth 100000 in
theorem open_lines {H : Type} {enc : TypeId × Value → H} {W : World} {base : Nat} {spare : Nat → Bool} {held : Bool} {r : Reach} {b0 : Nat} {v : Value} {d : DataW H} {p : List MemPlace} (hv : Value.okWide Tryz.prog W r b0 22 v) (h : DataW.Trod enc Tryz.prog W base spare held 22 v d p) :
    ∃ ls : List ByteArray, StrsAt W v ls ∧ ls.length ≤ 9223372036854775807 ∧ ∀ z ∈ ls, z.size ≤ 9223372036854775807 := by
  obtain ⟨a0, l0, c0, rfl⟩ := okWide_slice Tryz.underlying22 hv
  obtain ⟨fuel, hf⟩ := h
  rcases open_strings Tryz.underlying22 Tryz.underlying9 (by kernel_rfl) hf with ⟨hv1, _⟩ | ⟨a, len, cap, ss, hv1, _, hl, hm, hlen, _, hc, hss⟩
  · simp [Value.cells] at hv1
    obtain ⟨rfl, rfl, rfl⟩ := hv1
    exact ⟨[], .inl ⟨rfl, rfl⟩, by simp, by simp⟩
  · simp [Value.cells] at hv1
    obtain ⟨rfl, rfl, rfl⟩ := hv1
    have hle : l0 ≤ ss.length := by rw [hlen]; split <;> omega
    have hlt : (ss.take l0).length = l0 := by rw [List.length_take]; omega
    refine ⟨ss.take l0, .inr ⟨a, c0, by rw [hlt], by rw [hlt]; exact hl, fun j z hz => ?_⟩, by rw [hlt]; unfold maxLen at hm; omega, fun z hz => ?_⟩
    · rw [List.getElem?_take] at hz
      split at hz
      · have hj := (List.getElem?_eq_some_iff.1 hz).1
        have := hc j hj
        rwa [List.getD, hz, Option.getD_some] at this
      · cases hz
    · have := hss z (List.mem_of_mem_take hz)
      unfold maxLen at this
      omega

end Go.Proofs.YtccdfndnjjjgfaaGreatDoor

namespace Go.Proofs.YtccdfndnjjjgfaaGreatDoor.fnExactDeskSay
open Go.ChangeShapes Go.WideShapes Go.ChangeAt Go.RowKit Go.WideMaps Go.WideElems
open Go.ChangeMaps (open_string shut_string)

theorem toStrs_past (u : Value) (ls : List ByteArray) (w : World) (h : StrsAt w u ls) (n : Nat) (hn : ls.length = n) (hnn : n ≤ 1048576) :
    Calls Tryz.prog 12 #[u] w fun e w' => ∃ g, e = .returned (.slice (some ⟨g, 0, none⟩) n n) ∧ PastAt w' (.slice (some ⟨g, 0, none⟩) n n) ls ∧ w.heap.size ≤ g ∧ Below w.heap.size w w' := by
  subst hn
  refine (toStrings_any u ls w h hnn).mono ?_
  rintro e w' ⟨he, hown, hb⟩
  exact ⟨_, he, past_own hown, Nat.le_refl _, hb⟩
theorem eqStrs_same (v u : Value) (zs : List ByteArray) (w : World) (h : StrsAt w v zs) (k : StrsAt w u zs) (hn : zs.length ≤ 1048577) :
    Calls Tryz.prog 15 #[v, u] w fun e w' => e = .returned (.bool true) ∧ Below w.heap.size w w' := by
  have := eqStrings_any v u zs zs w h k (by omega) (by omega)
  rwa [decide_eq_true rfl] at this
theorem markStrs_from (v : Value) (zs : List ByteArray) (k : Nat) (w : World) (h : PastAt w v zs) (n : Nat) (hn : zs.length = n) (hnn : n ≤ 1048576) (hk2 : k ≤ 1048576) :
    Calls Tryz.prog 17 #[v, .int .i64 (1 + (k : Int))] w fun e w' => e = .returned (.int .i64 (1 + (k : Int) + n)) ∧ PastAt w' v (marksOf (k + 1) n) ∧ But v w w' := by
  subst hn
  have := markStrings_any v zs (k + 1) w h (by omega) (by omega) (by omega)
  rwa [show ((k + 1 : Nat) : Int) = 1 + (k : Int) by omega] at this
theorem heldStrs_from (v : Value) (n : Nat) (k : Nat) (w : World) (h : PastAt w v (marksOf (k + 1) n)) (hn : n ≤ 1048576) (hk2 : k ≤ 1048576) :
    Calls Tryz.prog 19 #[v, .int .i64 (1 + (k : Int))] w fun e w' => e = .returned (.int .i64 (1 + (k : Int) + n)) ∧ Below w.heap.size w w' := by
  have := heldStrings_any v n (k + 1) w h (by omega) (by omega) (by omega)
  rwa [show ((k + 1 : Nat) : Int) = 1 + (k : Int) by omega] at this
theorem say_few (s : ByteArray) (zs ls : List ByteArray) : (deskSay s zs ls).1.2.length ≤ 8 ∧ (deskSay s zs ls).2.length ≤ 40 := by
  unfold deskSay
  split
  · rename_i h
    have := say_ok h.1 ls
    exact ⟨(deskOk_parts this.1).2.1, by rw [this.2]; exact h.2⟩
  · exact ⟨Nat.zero_le _, Nat.zero_le _⟩

theorem g_other {A B : Nat} {W X : World} {N : Nat} {x : ByteArray} {v u : Value} {ys : List ByteArray} (h : BoxB A B W N x v ys) (k : But u W X) (hne : ∀ b, u.ownBlock = some b → v.ownBlock ≠ some b) (hN : ∀ b, u.ownBlock = some b → b < N) : BoxB A B X N x v ys :=
  ⟨(k.block N (lt_at h.row) (fun e => by have := hN N e; omega)).trans h.row, k.past h.past hne, h.ne, h.ge, h.fresh, h.lt, h.vlt⟩
set_option maxRecDepth 100000 in
set_option maxHeartbeats 6400000 in
theorem walk_few (s : ByteArray) (v : Value) (zs : List ByteArray) (u : Value) (ls : List ByteArray) (w : World) (ht : TabsAt w) (h : StrsAt w v zs) (hu : StrsAt w u ls) (hs : s.size ≤ 1048576) (L : Nat) (HL : Hid (zs.length = L)) (hn2 : L ≤ 1048576) (HZ : Hid (∀ z ∈ zs, z.size ≤ 1048576)) (n : Nat) (HN : Hid (ls.length = n)) (hnn : n ≤ 1048576) (HLZ : Hid (∀ z ∈ ls, z.size ≤ 1048576))
    (r q : Int) (hr : 0 ≤ r) (hq : 0 ≤ q) (HSZ : Hid (∀ W, StrsAt W v zs → Calls Tryz.prog 8 #[.agg #[.string s, v], .int .i64 1048576] W fun e w' => e = .returned (.int .i64 r) ∧ Below W.heap.size W w')) (HSD : Hid (∀ W, StrsAt W u ls → Calls Tryz.prog 9 #[u, .int .i64 r] W fun e w' => e = .returned (.int .i64 q) ∧ W = w')) :
    Calls Tryz.prog 3 #[.agg #[.string s, v], u] w fun e w' => e = .returned (.bool true) ∧ Below w.heap.size w w' := by
  obtain ⟨hy8, ht40⟩ := say_few s zs ls
  obtain ⟨x0, hx0⟩ : ∃ x, (deskSay s zs ls).1.1 = x := ⟨_, rfl⟩
  obtain ⟨y0, hy0⟩ : ∃ x, (deskSay s zs ls).1.2 = x := ⟨_, rfl⟩
  obtain ⟨t0, ht0⟩ : ∃ x, (deskSay s zs ls).2 = x := ⟨_, rfl⟩
  have hdo : ∀ (u1 u2 : Value) (W : World), PastAt W u1 zs → PastAt W u2 ls → Calls Tryz.prog 10 #[.agg #[.string s, u1], u2] W (SayOut W ((x0, y0), t0)) := fun u1 u2 W h1 h2 => by
    have := specDeskSay s u1 zs u2 ls W h1.strs h2.strs hs (by rw [HL.out]; exact hn2) HZ.out (by rw [HN.out]; exact hnn) HLZ.out
    rw [← hx0, ← hy0, ← ht0]
    exact this
  have hdi : ∀ (u1 u2 : Value) (W : World), PastAt W u1 zs → PastAt W u2 ls → TabsAt W → Calls Tryz.prog 13 #[.agg #[.string s, u1], u2] W (SayOut W ((x0, y0), t0)) := fun u1 u2 W h1 h2 hww => by
    have := implDeskSay s u1 zs u2 ls W h1 h2.strs hs (by rw [HL.out]; exact hn2) HZ.out (by rw [HN.out]; exact hnn) HLZ.out hww
    rw [← hx0, ← hy0, ← ht0]
    exact this
  rw [hy0] at hy8
  rw [ht0] at ht40
  obtain ⟨M, hM⟩ : ∃ M, y0.length = M := ⟨_, rfl⟩
  obtain ⟨T, hT⟩ : ∃ M, t0.length = M := ⟨_, rfl⟩
  rw [hM] at hy8
  rw [hT] at ht40
  have e0 : Ext w (w.alloc (.cells #[.string s, v] 24)) := (Ext.refl w).alloc _
  have r0 := heap_alloc_new w (.cells #[.string s, v] 24)
  obtain ⟨W0, hW0⟩ : ∃ W0, w.alloc (.cells #[.string s, v] 24) = W0 := ⟨_, rfl⟩
  rw [hW0] at e0 r0
  have HM := Lib.hid hM
  have HT := Lib.hid hT
  have HW0 := Lib.hid hW0
  have HDO := Lib.hid hdo
  have HDI := Lib.hid hdi
  have HST0 := Lib.hid (e0.strs h)
  have HDS0 := Lib.hid (e0.strs hu)
  have R0 := Lib.hid r0
  have c00 := cell_of_row _ _ 0 _ _ _ r0
  have c01 := cell_of_row _ _ 1 _ _ _ r0
  have HTB := Lib.hid (ht.below' e0)
  obtain ⟨au, cu, hvu⟩ := strs_value hu
  have HVU := Lib.hid hvu
  clear hvu hM hT hx0 hy0 ht0 hdo hdi hW0 r0 h ht hu
  go_enter Tryz.func3, Tryz.ntmps3
  go_wp2_with fail
  rw [HW0.out]
  go_upto_region 8 with (first
    | (go_at_call 8; refine (HSZ.out _ HST0.out).mono ?_; rintro e w1 ⟨rfl, hb1⟩; have e1 : Ext W0 w1 := hb1; have r0 := e1.row R0.out; have hs1 := e1.size; have c10 := cell_of_row _ _ 0 _ _ _ r0; have c11 := cell_of_row _ _ 1 _ _ _ r0; have R01 := Lib.hid r0; clear r0 hb1)
    | (go_at_call 9; refine (HSD.out _ (e1.strs HDS0.out)).mono ?_; rintro e w' ⟨rfl, rfl⟩))
  have HS : Hid (∀ X, Ext w1 X → X.cell? ⟨w.heap.size, 0, none⟩ = some (.string s) ∧ X.cell? ⟨w.heap.size, 1, none⟩ = some v) := fun X hX => ⟨cell_of_row _ _ 0 _ _ _ (hX.row R01.out), cell_of_row _ _ 1 _ _ _ (hX.row R01.out)⟩
  have HST : Hid (∀ X, Ext w1 X → StrsAt X v zs) := fun X hX => (e1.trans hX).strs HST0.out
  have HDS : Hid (∀ X, Ext w1 X → StrsAt X u ls) := fun X hX => (e1.trans hX).strs HDS0.out
  have HTT : Hid (∀ X, Ext w1 X → TabsAt X) := fun X hX => HTB.out.below' (e1.trans hX)
  go_upto_region 9 with (first
    | (go_at_call 11; refine (toDesk_past s v zs _ (HST.out _ (Ext.refl _)) L HL.out hn2).mono ?_; rintro e wa ⟨gwa, rfl, hpwa, hgwa, hbwa⟩; have ewa : Ext w1 wa := hbwa; have Pwa := Lib.hid hpwa; have swa := ewa.size; clear hpwa hbwa)
    | (go_at_call 12; refine (toStrs_past u ls _ (HDS.out _ ewa) n HN.out hnn).mono ?_; rintro e wb ⟨gwb, rfl, hpwb, hgwb, hbwb⟩; have ewb : Ext w1 wb := Ext.call ewa hbwb; have Pwb := Lib.hid hpwb; have swb := ewb.size;  have Pb := Lib.hid ((show Ext wa wb from hbwb).past Pwa.out); clear hpwb hbwb)
    | (go_at_call 10; refine (HDO.out _ _ wb Pb.out Pwb.out).mono ?_; rintro e wy ⟨vc, uc, rfl, hpc, hfc, hpu, hfu, hnu, hbc⟩; obtain ⟨ac, qc, hvc⟩ := past_slice hpc HM.out; subst hvc; obtain ⟨aw, qw, hvw⟩ := past_slice hpu HT.out; subst hvw; have ewc : Ext w1 wy := Ext.call ewb hbc; have Pc := Lib.hid hpc; have Fc := Lib.hid (fresh_ext ewb hfc); have Pu := Lib.hid hpu; clear hpc hfc hbc hpu hfu hnu))
  have hbz := box_new (x := x0) Pc.out Fc.out ewc.size
  have hpu2 := ((Ext.refl wy).alloc (.cells #[.string x0, .slice ac M qc] 27)).past Pu.out
  obtain ⟨w2, hw2⟩ : ∃ w2, wy.alloc (.cells #[.string x0, .slice ac M qc] 27) = w2 := ⟨_, rfl⟩
  have e2 : Ext w1 w2 := hw2 ▸ ewc.alloc _
  obtain ⟨N, hN⟩ : ∃ N, wy.heap.size = N := ⟨_, rfl⟩
  rw [hw2, hN] at hbz
  rw [hw2] at hpu2
  rw [hw2, hN]
  have Z2 := Lib.hid hbz
  have U2 := Lib.hid hpu2
  have HUL : Hid (∀ b, (Value.slice aw T qw).ownBlock = some b → b < w2.heap.size) := fun b hb => past_lt hpu2 hb
  have s2 := e2.size
  obtain ⟨c20, c21⟩ := HS.out w2 e2
  clear hbz hw2 hN hpu2
  go_upto_region 10 with (first
    | (go_at_call 11; refine (toDesk_past s v zs _ (HST.out _ e2) L HL.out hn2).mono ?_; rintro e wd ⟨gwd, rfl, hpwd, hgwd, hbwd⟩; have ewd : Ext w2 wd := hbwd; have Pwd := Lib.hid hpwd; have swd := ewd.size; clear hpwd hbwd))
  have hbx := box_new (x := s) Pwd.out (Fresh.slice hgwd) ewd.size
  obtain ⟨w3, hw3⟩ : ∃ w3, wd.alloc (.cells #[.string s, .slice (some ⟨gwd, 0, none⟩) L L] 27) = w3 := ⟨_, rfl⟩
  have e3 : Ext w2 w3 := hw3 ▸ ewd.alloc _
  obtain ⟨M2, hM2⟩ : ∃ M2, wd.heap.size = M2 := ⟨_, rfl⟩
  rw [hw3, hM2] at hbx
  rw [hw3, hM2]
  have X3 := Lib.hid hbx
  have s3 := e3.size
  obtain ⟨c30, c31⟩ := X3.out.cells
  clear hbx hw3 hM2
  go_upto_region 12 with (first
    | (go_at_call 12; refine (toStrs_past u ls _ (HDS.out _ (e2.trans e3)) n HN.out hnn).mono ?_; rintro e we ⟨gwe, rfl, hpwe, hgwe, hbwe⟩; have ewe : Ext w3 we := hbwe; have Pwe := Lib.hid hpwe; have swe := ewe.size;  have X4 := Lib.hid (X3.out.ext ewe); obtain ⟨c40, c41⟩ := X4.out.cells; clear hpwe hbwe)
    | (go_at_call 13; refine (HDI.out _ _ we X4.out.past Pwe.out (HTT.out _ (e2.trans (e3.trans ewe)))).mono ?_; rintro e wf ⟨v5, u5, rfl, hp5, hf5, hp5u, hf5u, hn5, hb5⟩; obtain ⟨a5, q5, hv5⟩ := past_slice hp5 HM.out; subst hv5; obtain ⟨ag, qg, hvg⟩ := past_slice hp5u HT.out; subst hvg; have e5 : Ext we wf := hb5; have P5 := Lib.hid hp5; have F5 := Lib.hid hf5; have P5U := Lib.hid hp5u; have F5U := Lib.hid hf5u; have HNE := Lib.hid hn5; clear hp5 hf5 hb5 hp5u hf5u hn5))
  have hbg := box_new (x := x0) P5.out F5.out e5.size
  have hpg := ((Ext.refl wf).alloc (.cells #[.string x0, .slice a5 M q5] 27)).past P5U.out
  have hugl : ∀ b, (Value.slice ag T qg).ownBlock = some b → b < wf.heap.size := fun b hb => past_lt P5U.out hb
  obtain ⟨w6, hw6⟩ : ∃ w6, wf.alloc (.cells #[.string x0, .slice a5 M q5] 27) = w6 := ⟨_, rfl⟩
  have e6 : Ext we w6 := hw6 ▸ e5.alloc _
  obtain ⟨N3, hN3⟩ : ∃ N3, wf.heap.size = N3 := ⟨_, rfl⟩
  rw [hw6, hN3] at hbg
  rw [hw6] at hpg
  rw [hN3] at hugl
  rw [hw6, hN3]
  have G6 := Lib.hid hbg
  have V6 := Lib.hid hpg
  have HUG : Hid (∀ b, (Value.slice ag T qg).ownBlock = some b → b < N3) := fun b hb => hugl b hb
  have s6 := e6.size
  have e26 := e3.trans (ewe.trans e6)
  have Z6 := Lib.hid (Z2.out.ext e26)
  have U6 := Lib.hid (e26.past U2.out)
  have X6 := Lib.hid (X3.out.ext (ewe.trans e6))
  have Y6 := Lib.hid (e6.past Pwe.out)
  have hlt4 : gwe < we.heap.size := past_lt Pwe.out rfl
  obtain ⟨z60, z61⟩ := Z6.out.cells
  obtain ⟨g60, g61⟩ := G6.out.cells
  clear hbg hw6 hN3 hpg hugl
  go_upto_region 14 with (first
    | (go_at_call 14; refine (eqDesk_same x0 _ _ y0 _ G6.out.past.strs Z6.out.past.strs (by rw [HM.out]; omega)).mono ?_; rintro e w7a ⟨rfl, hb7⟩; have e7a : Ext w6 w7a := hb7; clear hb7)
    | (go_at_call 15; refine (eqStrs_same _ _ t0 _ (e7a.past V6.out).strs (e7a.past U6.out).strs (by rw [HT.out]; omega)).mono ?_; rintro e w7 ⟨rfl, hb7⟩; have e7 : Ext w6 w7 := Ext.call e7a hb7; clear hb7))
  have e17 := (e2.trans e26).trans e7
  have HS14 : Hid (∀ X, Ext w7 X → X.cell? ⟨M2, 0, none⟩ = some (.string s) ∧ X.cell? ⟨M2, 1, none⟩ = some (.slice (some ⟨gwd, 0, none⟩) L L) ∧ X.cell? ⟨w.heap.size, 0, none⟩ = some (.string s) ∧ X.cell? ⟨w.heap.size, 1, none⟩ = some v) := fun X hX =>
    ⟨(X6.out.ext (e7.trans hX)).cells.1, (X6.out.ext (e7.trans hX)).cells.2, (HS.out X (e17.trans hX)).1, (HS.out X (e17.trans hX)).2⟩
  have HT14 : Hid (∀ X, Ext w7 X → StrsAt X v zs) := fun X hX => HST.out X (e17.trans hX)
  have HP14 : Hid (∀ X, Ext w7 X → PastAt X (.slice (some ⟨gwd, 0, none⟩) L L) zs) := fun X hX => (X6.out.ext (e7.trans hX)).past
  go_cut [59] (fun q wx => q = .bool false ∧ Ext w7 wx)
  case first =>
    go_region_held3 (fun w' => w'.cell? ⟨M2, 0, none⟩ = some (.string s) ∧ w'.cell? ⟨M2, 1, none⟩ = some (.slice (some ⟨gwd, 0, none⟩) L L) ∧ w'.cell? ⟨w.heap.size, 0, none⟩ = some (.string s) ∧ w'.cell? ⟨w.heap.size, 1, none⟩ = some v)
      (exact HS14.out _ (by (first | assumption | exact Ext.refl _ | exact (Ext.refl _).drew | (refine Ext.alloc ?_ _; first | assumption | exact Ext.refl _ | exact (Ext.refl _).drew) | (refine Ext.drew ?_; first | assumption | exact Ext.refl _ | exact (Ext.refl _).drew) | (refine Ext.drew ?_; refine Ext.alloc ?_ _; first | assumption | exact Ext.refl _ | exact (Ext.refl _).drew) | (refine Ext.setCell (Ext.setCell ?_ ?_ _) ?_ _ <;> first | assumption | omega | (simp <;> omega)))))
      (first
        | (go_at_call 11; refine (toDesk_past s v zs _ (HT14.out _ (by (first | assumption | exact Ext.refl _ | exact (Ext.refl _).drew | (refine Ext.alloc ?_ _; first | assumption | exact Ext.refl _ | exact (Ext.refl _).drew) | (refine Ext.drew ?_; first | assumption | exact Ext.refl _ | exact (Ext.refl _).drew) | (refine Ext.drew ?_; refine Ext.alloc ?_ _; first | assumption | exact Ext.refl _ | exact (Ext.refl _).drew) | (refine Ext.setCell (Ext.setCell ?_ ?_ _) ?_ _ <;> first | assumption | omega | (simp <;> omega))))) L HL.out hn2).mono ?_; rintro e wA ⟨gA, rfl, hpA, hgA, hbA⟩; have eA : Ext w7 wA := Ext.call (by (first | assumption | exact Ext.refl _ | exact (Ext.refl _).drew | (refine Ext.alloc ?_ _; first | assumption | exact Ext.refl _ | exact (Ext.refl _).drew) | (refine Ext.drew ?_; first | assumption | exact Ext.refl _ | exact (Ext.refl _).drew) | (refine Ext.drew ?_; refine Ext.alloc ?_ _; first | assumption | exact Ext.refl _ | exact (Ext.refl _).drew) | (refine Ext.setCell (Ext.setCell ?_ ?_ _) ?_ _ <;> first | assumption | omega | (simp <;> omega)))) hbA; have PA := Lib.hid hpA; clear hpA hbA)
        | (go_at_call 14; refine (eqDesk_same s _ _ zs _ (HP14.out _ (by (first | assumption | exact Ext.refl _ | exact (Ext.refl _).drew | (refine Ext.alloc ?_ _; first | assumption | exact Ext.refl _ | exact (Ext.refl _).drew) | (refine Ext.drew ?_; first | assumption | exact Ext.refl _ | exact (Ext.refl _).drew) | (refine Ext.drew ?_; refine Ext.alloc ?_ _; first | assumption | exact Ext.refl _ | exact (Ext.refl _).drew) | (refine Ext.setCell (Ext.setCell ?_ ?_ _) ?_ _ <;> first | assumption | omega | (simp <;> omega))))).strs PA.out.strs (by rw [HL.out]; omega)).mono ?_; rintro e wB ⟨rfl, hbB⟩; have eB : Ext w7 wB := Ext.call (by (first | assumption | exact Ext.refl _ | exact (Ext.refl _).drew | (refine Ext.alloc ?_ _; first | assumption | exact Ext.refl _ | exact (Ext.refl _).drew) | (refine Ext.drew ?_; first | assumption | exact Ext.refl _ | exact (Ext.refl _).drew) | (refine Ext.drew ?_; refine Ext.alloc ?_ _; first | assumption | exact Ext.refl _ | exact (Ext.refl _).drew) | (refine Ext.setCell (Ext.setCell ?_ ?_ _) ?_ _ <;> first | assumption | omega | (simp <;> omega)))) hbB; clear hbB))
    all_goals
      go_wp2_with fail
      go_meet
      exact ⟨rfl, by (first | assumption | exact Ext.refl _ | exact (Ext.refl _).drew | (refine Ext.alloc ?_ _; first | assumption | exact Ext.refl _ | exact (Ext.refl _).drew) | (refine Ext.drew ?_; first | assumption | exact Ext.refl _ | exact (Ext.refl _).drew) | (refine Ext.drew ?_; refine Ext.alloc ?_ _; first | assumption | exact Ext.refl _ | exact (Ext.refl _).drew) | (refine Ext.setCell (Ext.setCell ?_ ?_ _) ?_ _ <;> first | assumption | omega | (simp <;> omega)))⟩
  case rest =>
    obtain ⟨w8, rfl⟩ : ∃ w8 : World, w8 = wc := ⟨_, rfl⟩
    obtain ⟨rfl, e8⟩ := hcut
    have e18 := e17.trans e8
    have e68 := e7.trans e8
    have Y8 := Lib.hid (e68.past Y6.out)
    go_upto_region 18 with (first
      | (go_at_call 12; refine (toStrs_past u ls _ (HDS.out _ e18) n HN.out hnn).mono ?_; rintro e w9 ⟨gw9, rfl, hpw9, hgw9, hbw9⟩; have ew9 : Ext w8 w9 := hbw9; have Pw9 := Lib.hid hpw9; have sw9 := ew9.size;  clear hpw9 hbw9)
      | (go_at_call 15; refine (eqStrs_same _ _ ls _ (ew9.past Y8.out).strs Pw9.out.strs (by rw [HN.out]; omega)).mono ?_; rintro e w10 ⟨rfl, hb10⟩; have e10 : Ext w8 w10 := Ext.call ew9 hb10; clear hb10))
    have e610 := e68.trans e10
    have e110 := e18.trans e10
    have X10 := Lib.hid (X6.out.ext e610)
    have Y10 := Lib.hid (e10.past Y8.out)
    have Z10 := Lib.hid (Z6.out.ext e610)
    have U10 := Lib.hid (e610.past U6.out)
    have G10 := Lib.hid (G6.out.ext e610)
    have V10 := Lib.hid (e610.past V6.out)
    have s110 := e110.size
    have s610 := e610.size
    have s26 := e26.size
    have HUV : Hid (∀ b, (Value.slice ag T qg).ownBlock = some b → we.heap.size ≤ b) := fun b hb => F5U.out b hb
    obtain ⟨x100, x101⟩ := X10.out.cells
    go_upto_region 23 with (first
      | (go_at_call 16; refine (markDesk_one s _ zs _ X10.out.past L HL.out (by omega)).mono ?_; rintro e w11 ⟨rfl, hp11, hb11⟩; have e11 : Ext w1 w11 := e110.but hb11 X10.out.fresh (by omega); have s11 := hb11.size; have Z11 := Lib.hid (Z10.out.below (hb11.below X10.out.fresh (by omega)) (by omega)); have G11 := Lib.hid (G10.out.but hb11 (fun b hb => by have := X10.out.vlt b hb; omega)); have Y11 := Lib.hid (hb11.past Y10.out (fun b h8 h9 => by have h7 := X10.out.vlt b h8; have h6 : gwe = b := Option.some.inj h9; omega)); have U11 := Lib.hid (hb11.past U10.out (fun b h8 h9 => by have h7 := X10.out.fresh b h8; have h6 := HUL.out b h9; omega)); have V11 := Lib.hid (hb11.past V10.out (fun b h8 h9 => by have h7 := X10.out.vlt b h8; have h6 := HUV.out b h9; omega)); clear hp11 hb11)
      | (go_at_call 17; refine (markStrs_from _ ls L _ Y11.out n HN.out hnn hn2).mono ?_; rintro e w12 ⟨rfl, hp12, hb12⟩; have f12 : Fresh w3.heap.size (Value.slice (some ⟨gwe, 0, none⟩) n n) := Fresh.slice hgwe; have e12 : Ext w1 w12 := e11.but hb12 f12 (by omega); have s12 := hb12.size; have Z12 := Lib.hid (Z11.out.below (hb12.below f12 (by omega)) (by omega)); have G12 := Lib.hid (G11.out.but hb12 (fun b hb => by have h7 : gwe = b := Option.some.inj hb; omega)); have U12 := Lib.hid (hb12.past U11.out (fun b h8 h9 => by have h7 := f12 b h8; have h6 := HUL.out b h9; omega)); have V12 := Lib.hid (hb12.past V11.out (fun b h8 h9 => by have h7 : gwe = b := Option.some.inj h8; have h6 := HUV.out b h9; omega)); obtain ⟨z120, z121⟩ := Z12.out.cells; obtain ⟨g120, g121⟩ := G12.out.cells; clear hp12 hb12)
      | (go_at_call 14; refine (eqDesk_same x0 _ _ y0 _ G12.out.past.strs Z12.out.past.strs (by rw [HM.out]; omega)).mono ?_; rintro e w13 ⟨rfl, hb13⟩; have e13 : Ext w12 w13 := hb13; clear hb13)
      | (go_at_call 15; refine (eqStrs_same _ _ t0 _ (e13.past V12.out).strs (e13.past U12.out).strs (by rw [HT.out]; omega)).mono ?_; rintro e w14 ⟨rfl, hb14⟩; have e1214 : Ext w12 w14 := Ext.call e13 hb14; have e14 : Ext w1 w14 := e12.trans e1214; have s14 := e1214.size; have Z14 := Lib.hid (Z12.out.ext e1214); have G14 := Lib.hid (G12.out.ext e1214); have U14 := Lib.hid (e1214.past U12.out); have V14 := Lib.hid (e1214.past V12.out); obtain ⟨g140, g141⟩ := G14.out.cells; clear hb14))
    go_upto_region 35 with (first
      | (go_at_call 16; refine (markDesk_one x0 _ y0 _ G14.out.past M HM.out (by omega)).mono ?_; rintro e w15 ⟨rfl, hp15, hb15⟩; have e15 : Ext w1 w15 := e14.but hb15 G14.out.fresh (by omega); have s15 := hb15.size; have Z15 := Lib.hid (Z14.out.below (hb15.below G14.out.fresh (by omega)) (by omega)); have G15 := Lib.hid (G14.out.own hb15 hp15); have U15 := Lib.hid (hb15.past U14.out (fun b h8 h9 => by have h7 := G14.out.fresh b h8; have h6 := HUL.out b h9; omega)); have V15 := Lib.hid (hb15.past V14.out (fun b h8 h9 => HNE.out b h8 h9)); clear hp15 hb15)
      | (go_at_call 17; refine (markStrs_from _ t0 M _ V15.out T HT.out (by omega) (by omega)).mono ?_; rintro e w16 ⟨rfl, hp16, hb16⟩; have e16 : Ext w1 w16 := e15.but hb16 (fun b hb => HUV.out b hb) (by omega); have s16 := hb16.size; have Z16 := Lib.hid (Z15.out.below (hb16.below (fun b hb => HUV.out b hb) (by omega)) (by omega)); have G16 := Lib.hid (g_other G15.out hb16 (fun b h8 h9 => HNE.out b h9 h8) (fun b h8 => HUG.out b h8)); have U16 := Lib.hid (hb16.past U15.out (fun b h8 h9 => by have h7 := HUV.out b h8; have h6 := HUL.out b h9; omega)); have V16 := Lib.hid hp16; obtain ⟨g160, g161⟩ := G16.out.cells; clear hp16 hb16)
      | (go_at_call 18; refine (heldDesk_one x0 _ M _ G16.out.past (by omega)).mono ?_; rintro e w17 ⟨rfl, hb17⟩; have e17h : Ext w16 w17 := hb17; clear hb17)
      | (go_at_call 19; refine (heldStrs_from _ T M _ (e17h.past V16.out) (by omega) (by omega)).mono ?_; rintro e w18 ⟨rfl, hb18⟩; have e1618 : Ext w16 w18 := Ext.call e17h hb18; have e18w : Ext w1 w18 := e16.trans e1618; have Z18 := Lib.hid (Z16.out.ext e1618); have G18 := Lib.hid (G16.out.ext e1618); have U18 := Lib.hid (e1618.past U16.out); have V18 := Lib.hid (e1618.past V16.out); obtain ⟨c180, c181⟩ := HS.out w18 e18w; clear hb18))
    go_upto_region 36 with (first
      | (go_at_call 11; refine (toDesk_past s v zs _ (HST.out _ e18w) L HL.out hn2).mono ?_; rintro e wi ⟨gwi, rfl, hpwi, hgwi, hbwi⟩; have ewi : Ext w18 wi := hbwi; have Pwi := Lib.hid hpwi; have swi := ewi.size; clear hpwi hbwi)
      | (go_at_call 12; refine (toStrs_past u ls _ (HDS.out _ (e18w.trans ewi)) n HN.out hnn).mono ?_; rintro e wj ⟨gwj, rfl, hpwj, hgwj, hbwj⟩; have ewj : Ext w18 wj := Ext.call ewi hbwj; have Pwj := Lib.hid hpwj; have swj := ewj.size;  have Pj := Lib.hid ((show Ext wi wj from hbwj).past Pwi.out); clear hpwj hbwj)
      | (go_at_call 13; refine (HDI.out _ _ wj Pj.out Pwj.out (HTT.out _ (e18w.trans ewj))).mono ?_; rintro e wk ⟨vk, uk, rfl, hpk, hfk, hpku, hfku, hnk, hbk⟩; obtain ⟨ak, qk, hvk⟩ := past_slice hpk HM.out; subst hvk; obtain ⟨ah, qh, hvh⟩ := past_slice hpku HT.out; subst hvh; have ewk : Ext w18 wk := Ext.call ewj hbk; have Pk := Lib.hid hpk; have Fk := Lib.hid (fresh_ext ewj hfk); have Pku := Lib.hid hpku; clear hpk hfk hbk hpku hfku hnk))
    have hbh := box_new (x := x0) Pk.out Fk.out ewk.size
    have hph := ((Ext.refl wk).alloc (.cells #[.string x0, .slice ak M qk] 27)).past Pku.out
    obtain ⟨w19, hw19⟩ : ∃ w19, wk.alloc (.cells #[.string x0, .slice ak M qk] 27) = w19 := ⟨_, rfl⟩
    have e19 : Ext w18 w19 := hw19 ▸ ewk.alloc _
    rw [hw19] at hbh hph
    rw [hw19]
    have H19 := Lib.hid hbh
    have K19 := Lib.hid hph
    have Z19 := Lib.hid (Z18.out.ext e19)
    have G19 := Lib.hid (G18.out.ext e19)
    have U19 := Lib.hid (e19.past U18.out)
    have V19 := Lib.hid (e19.past V18.out)
    obtain ⟨h190, h191⟩ := H19.out.cells
    obtain ⟨z190, z191⟩ := Z19.out.cells
    clear hbh hw19 hph
    go_wp2_with (first
      | (go_at_call 14; refine (eqDesk_same x0 _ _ y0 _ H19.out.past.strs Z19.out.past.strs (by rw [HM.out]; omega)).mono ?_; rintro e w20 ⟨rfl, hb20⟩; have e20 : Ext w19 w20 := hb20; clear hb20)
      | (go_at_call 15; refine (eqStrs_same _ _ t0 _ (e20.past K19.out).strs (e20.past U19.out).strs (by rw [HT.out]; omega)).mono ?_; rintro e w21 ⟨rfl, hb21⟩; have e21 : Ext w19 w21 := Ext.call e20 hb21; have G21 := Lib.hid (G19.out.ext e21); have V21 := Lib.hid (e21.past V19.out); obtain ⟨g210, g211⟩ := G21.out.cells; clear hb21)
      | (go_at_call 18; refine (heldDesk_one x0 _ M _ G21.out.past (by omega)).mono ?_; rintro e w22 ⟨rfl, hb22⟩; have e22 : Ext w21 w22 := hb22; clear hb22)
      | (go_at_call 19; refine (heldStrs_from _ T M _ (e22.past V21.out) (by omega) (by omega)).mono ?_; rintro e w23 ⟨rfl, hb23⟩; have e23 : Ext w21 w23 := Ext.call e22 hb23; clear hb23))
    go_ret
    exact ⟨rfl, e0.trans (e1.trans (((e18w.trans e19).trans e21).trans e23))⟩

set_option maxRecDepth 100000 in
set_option maxHeartbeats 1600000 in
theorem walk (s : ByteArray) (v : Value) (zs : List ByteArray) (u : Value) (ls : List ByteArray) (w : World) (hw : WaysAt w) (hd : DirsAt w) (hwd : WordsAt w) (hmx : MaxAt w) (hpw : PowAt w) (h : StrsAt w v zs) (hs : s.size ≤ 9223372036854775807) (hn : zs.length ≤ 9223372036854775807) (hz : ∀ z ∈ zs, z.size ≤ 9223372036854775807) (hu : StrsAt w u ls) (hnn : ls.length ≤ 9223372036854775807) (hlz : ∀ z ∈ ls, z.size ≤ 9223372036854775807) :
    Calls Tryz.prog 3 #[.agg #[.string s, v], u] w fun e w' => e = .returned (.bool true) ∧ Below w.heap.size w w' := by
  have HSZ : Hid (∀ W, StrsAt W v zs → Calls Tryz.prog 8 #[.agg #[.string s, v], .int .i64 1048576] W fun e w' => e = .returned (.int .i64 (szDeskLeft 1048576 s zs)) ∧ Below W.heap.size W w') := fun W hW => szDesk_any s v zs 1048576 W hW (by omega) (by omega) hs hn hz
  obtain ⟨r, hr⟩ : ∃ r, szDeskLeft 1048576 s zs = r := ⟨_, rfl⟩
  rw [hr] at HSZ
  obtain ⟨q, hq⟩ : ∃ q, szLeft r ls = q := ⟨_, rfl⟩
  have hr1 : r ≤ 1048576 := by
    rw [← hr]
    unfold szDeskLeft
    split
    · rcases szLeft_cases (1048576 - s.size) zs with h1 | h1
      · omega
      · omega
    · omega
  have HSD : Hid (0 ≤ r → ∀ W, StrsAt W u ls → Calls Tryz.prog 9 #[u, .int .i64 r] W fun e w' => e = .returned (.int .i64 q) ∧ W = w') := fun h0 W hW => hq ▸ szStrings_any u ls r W hW h0 hr1 hnn hlz
  have hcase : (0 ≤ r ∧ 0 ≤ q) ∨ (0 ≤ r ∧ q < 0) ∨ r < 0 := by omega
  rcases hcase with ⟨h0, hq0⟩ | ⟨h0, hq0⟩ | h0
  · have hfew := szDesk_few (hr ▸ h0)
    have hbn := bulk_nonneg zs
    have hbl := bulk_nonneg ls
    have hlq : (ls.length : Int) + bulk ls ≤ 1048576 := by
      rcases szLeft_cases r ls with h1 | h1
      · omega
      · omega
    refine walk_few s v zs u ls w ⟨hw, hd, hwd, hmx, hpw⟩ h hu (by omega) zs.length (Lib.hid rfl) (by omega) (Lib.hid (fun z hz' => ?_)) ls.length (Lib.hid rfl) (by omega) (Lib.hid (fun z hz' => ?_)) r q h0 hq0 HSZ (Lib.hid (HSD.out h0))
    · have := bulk_mem hz'
      omega
    · have := bulk_mem hz'
      omega
  all_goals
    have e0 : Ext w (w.alloc (.cells #[.string s, v] 24)) := (Ext.refl w).alloc _
    have r0 := heap_alloc_new w (.cells #[.string s, v] 24)
    obtain ⟨W0, hW0⟩ : ∃ W0, w.alloc (.cells #[.string s, v] 24) = W0 := ⟨_, rfl⟩
    rw [hW0] at e0 r0
    have HW0 := Lib.hid hW0
    have HST0 := Lib.hid (e0.strs h)
    have HDS0 := Lib.hid (e0.strs hu)
    have c00 := cell_of_row _ _ 0 _ _ _ r0
    have c01 := cell_of_row _ _ 1 _ _ _ r0
    clear hW0 r0 h hr hu hq hlz hz
    go_enter Tryz.func3, Tryz.ntmps3
    go_wp2_with fail
    rw [HW0.out]
    go_wp2_with (first
      | (go_at_call 8; refine (HSZ.out _ HST0.out).mono ?_; rintro e w1 ⟨rfl, hb1⟩)
      | (go_at_call 9; refine (HSD.out h0 _ ((show Ext _ w1 from hb1).strs HDS0.out)).mono ?_; rintro e w' ⟨rfl, rfl⟩))
    go_ret
    exact ⟨rfl, e0.call hb1⟩

set_option maxRecDepth 100000 in
theorem own : ownKnob Tryz.prog.godebug = none := by kernel_rfl
set_option maxRecDepth 100000 in
theorem laidOut : laidOutB Tryz.prog = true := by kernel_rfl
set_option maxRecDepth 100000 in
theorem rowed : rowsOk Tryz.prog Tryz.f3.params.toList = true := by kernel_rfl
set_option maxRecDepth 100000 in
theorem varred : varsOk Tryz.prog Rows.fnExactDeskSaySpec.vars = true := by kernel_rfl
set_option maxRecDepth 100000 in
theorem resType : Tryz.f3.resultTypes = #[4] := by kernel_rfl

set_option maxRecDepth 100000 in
theorem contract (H : Type) (enc : TypeId × Value → H) (W : World) (base : Nat) (args : Array Value) (ds gs : List (DataW H)) (before : List MemPlace)
    (hval : ∀ (j : Nat) t v, Tryz.f3.params[j]? = some t → args[j]? = some v → Value.okWide Tryz.prog W .any base t v)
    (hW : DataW.Whole enc Tryz.prog Tryz.f3.params.toList Rows.fnExactDeskSaySpec.vars false W args.toList ds gs before) (hL : laidMetH Tryz.prog Rows.fnExactDeskSayRow.laid W) (hSh : W.ShapedOpen Tryz.prog) :
    Calls Tryz.prog 3 args W fun e W' => ∃ v, e = .returned v ∧ Rows.fnExactDeskSaySpec.post enc Tryz.prog Tryz.f3 false true false false W args v W' := by
  have hW' := hW
  obtain ⟨p, q, hA0, hV, rfl, hfz, hnd⟩ := hW
  have hA : DataW.TrodAll enc Tryz.prog W 0 (fun _ => true) true Tryz.f3.params.toList args.toList ds p := hA0
  rw [Tryz.params3] at hA hval
  obtain ⟨v0, vs0, d0, ds0, p0, q0, hargs, rfl, rfl, h0, r0⟩ := trodAll_cons hA
  obtain ⟨v1, vs1, d1, ds1, p1, q1, rfl, rfl, rfl, h1, r1⟩ := trodAll_cons r0
  obtain ⟨rfl, rfl, rfl⟩ := trodAll_nil r1
  obtain rfl : args = #[v0, v1] := by cases args; simp_all
  obtain ⟨g0, g1, g2, rfl⟩ := trodVars_len3 hV
  obtain ⟨s0, vv0, zs0, rfl, hst0, hss0, hnn0, hzz0⟩ := open_desk (hval 0 24 v0 rfl rfl) h0
  obtain ⟨ls1, hls1, hln1, hlz1⟩ := open_lines (hval 1 22 v1 rfl rfl) h1
  have t_ways : WaysAt W := waysAt (by kernel_rfl) hL (by simp [Rows.fnExactDeskSayRow])
  have t_dirs : DirsAt W := dirsAt (by kernel_rfl) hL (by simp [Rows.fnExactDeskSayRow])
  have t_words : WordsAt W := wordsAt (by kernel_rfl) hL (by simp [Rows.fnExactDeskSayRow])
  have t_max : MaxAt W := maxAt hSh
  have t_pow : PowAt W := powAt (by kernel_rfl) hL (by simp [Rows.fnExactDeskSayRow])
  refine (walk s0 vv0 zs0 v1 ls1 W t_ways t_dirs t_words t_max t_pow hst0 hss0 hnn0 hzz0 hls1 hln1 hlz1).mono fun e W' ⟨he, hb⟩ => ?_
  subst he
  exact ⟨_, rfl, law_post laidOut rowed varred resType Tryz.underlying4 hW' ⟨rfl, rfl, rfl⟩ hb⟩

/-- A world for the witness: the settled one, the listed variables holding what their initialisers lay. -/
noncomputable def laidWorld (os : Os) : World := { World.holding Tryz.prog os ⟨#[], #[], []⟩ with heap := (((((((((World.holding Tryz.prog os ⟨#[], #[], []⟩).heap.modify 5 fun
      | .cells _ t frozen => .cells #[.int .u8 0, .int .u8 1, .int .u8 28, .int .u8 2, .int .u8 29, .int .u8 14, .int .u8 24, .int .u8 3, .int .u8 30, .int .u8 22, .int .u8 20, .int .u8 15, .int .u8 25, .int .u8 17, .int .u8 4, .int .u8 8, .int .u8 31, .int .u8 27, .int .u8 13, .int .u8 23, .int .u8 21, .int .u8 19, .int .u8 16, .int .u8 7, .int .u8 26, .int .u8 12, .int .u8 18, .int .u8 6, .int .u8 11, .int .u8 5, .int .u8 10, .int .u8 9] t frozen
      | o => o).modify 6 fun
      | .cells _ t frozen => .cells #[.int .u8 0, .int .u8 1, .int .u8 56, .int .u8 2, .int .u8 57, .int .u8 49, .int .u8 28, .int .u8 3, .int .u8 61, .int .u8 58, .int .u8 42, .int .u8 50, .int .u8 38, .int .u8 29, .int .u8 17, .int .u8 4, .int .u8 62, .int .u8 47, .int .u8 59, .int .u8 36, .int .u8 45, .int .u8 43, .int .u8 51, .int .u8 22, .int .u8 53, .int .u8 39, .int .u8 33, .int .u8 30, .int .u8 24, .int .u8 18, .int .u8 12, .int .u8 5, .int .u8 63, .int .u8 55, .int .u8 48, .int .u8 27, .int .u8 60, .int .u8 41, .int .u8 37, .int .u8 16, .int .u8 46, .int .u8 35, .int .u8 44, .int .u8 21, .int .u8 52, .int .u8 32, .int .u8 23, .int .u8 11, .int .u8 54, .int .u8 26, .int .u8 40, .int .u8 15, .int .u8 34, .int .u8 20, .int .u8 31, .int .u8 10, .int .u8 25, .int .u8 14, .int .u8 19, .int .u8 9, .int .u8 13, .int .u8 8, .int .u8 7, .int .u8 6] t frozen
      | o => o).modify 4 fun
      | .cells _ t frozen => .cells #[.int .u64 1, .int .u64 10, .int .u64 100, .int .u64 1000, .int .u64 10000, .int .u64 100000, .int .u64 1000000, .int .u64 10000000, .int .u64 100000000, .int .u64 1000000000, .int .u64 10000000000, .int .u64 100000000000, .int .u64 1000000000000, .int .u64 10000000000000, .int .u64 100000000000000, .int .u64 1000000000000000, .int .u64 10000000000000000, .int .u64 100000000000000000, .int .u64 1000000000000000000, .int .u64 10000000000000000000] t frozen
      | o => o).modify 8 fun
      | .cells _ t frozen => .cells #[.int .u8 128, .int .u8 191, .int .u8 160, .int .u8 191, .int .u8 128, .int .u8 159, .int .u8 144, .int .u8 191, .int .u8 128, .int .u8 143, .int .u8 0, .int .u8 0, .int .u8 0, .int .u8 0, .int .u8 0, .int .u8 0, .int .u8 0, .int .u8 0, .int .u8 0, .int .u8 0, .int .u8 0, .int .u8 0, .int .u8 0, .int .u8 0, .int .u8 0, .int .u8 0, .int .u8 0, .int .u8 0, .int .u8 0, .int .u8 0, .int .u8 0, .int .u8 0] t frozen
      | o => o).modify 1 fun
      | .cells _ t frozen => .cells #[.string ⟨#[101, 110, 119, 115]⟩, .string ⟨#[110, 119, 115, 101]⟩, .string ⟨#[119, 115, 101, 110]⟩, .string ⟨#[115, 101, 110, 119]⟩, .string ⟨#[101, 115, 119, 110]⟩, .string ⟨#[110, 101, 115, 119]⟩, .string ⟨#[119, 110, 101, 115]⟩, .string ⟨#[115, 119, 110, 101]⟩] t frozen
      | o => o).modify 0 fun
      | .cells _ t frozen => .cells #[.string ⟨#[115, 116, 101, 112]⟩, .string ⟨#[100, 114, 111, 112]⟩, .string ⟨#[119, 97, 121]⟩, .string ⟨#[111, 110]⟩, .string ⟨#[102, 105, 114, 115, 116]⟩, .string ⟨#[98, 97, 99, 107]⟩] t frozen
      | o => o).modify 3 fun
      | .cells _ t frozen => .cells #[.int .i64 1, .int .i64 0, .int .i64 0, .int .i64 1, .int .i64 (-1), .int .i64 0, .int .i64 0, .int .i64 (-1)] t frozen
      | o => o).modify 7 fun
      | .cells _ t frozen => .cells (Go.Pinned.utf8FirstZ.map fun (n : Nat) => Value.int .u8 n).toArray t frozen
      | o => o) }
set_option maxRecDepth 100000 in
theorem laid_met (os : Os) : laidMet Tryz.prog Rows.fnExactDeskSayRow.laid ((laidWorld os).forCall (fun _ _ => 0) ⟨#[], #[.agg #[.string ByteArray.empty, .slice none 0 0], .slice none 0 0], []⟩).memory := laidMet_of_run' 8 (by kernel_rfl) (by kernel_rfl)
set_option maxRecDepth 100000 in
theorem reads (os : Os) {H : Type} (enc : TypeId × Value → H) : ∃ places, DataW.whole enc Tryz.prog ((laidWorld os).forCall (fun _ _ => 0) ⟨#[], #[.agg #[.string ByteArray.empty, .slice none 0 0], .slice none 0 0], []⟩).memory Tryz.f3.params.toList Rows.fnExactDeskSaySpec.vars false (#[.agg #[.string ByteArray.empty, .slice none 0 0], .slice none 0 0] : Array Value).toList 8 = some ([.agg [.lit (.string []), .nil], .nil], [Rows.laid_loop_example_turtlewalks_impl_deedWords, Rows.laid_loop_example_turtlewalks_impl_wayLetters, Rows.laid_loop_example_turtlewalks_impl_directions], places) := ⟨MemPlace.row ⟨0, 0, none⟩ 6 ++ MemPlace.row ⟨1, 0, none⟩ 8 ++ MemPlace.row ⟨3, 0, none⟩ 8, by kernel_rfl⟩

set_option maxRecDepth 100000 in
theorem lifted (os : Os) (started : os.Started) (H : Type) (enc : TypeId × Value → H) (F : Stop.Interp) :
    ReturnsInHanded {} Tryz.checked os 3 .any ((OpenSpec.ofChange Rows.fnExactDeskSaySpec).preRow enc Tryz.prog Tryz.f3 Rows.fnExactDeskSayRow.domain false Rows.fnExactDeskSayRow.laid) (((OpenSpec.ofChange Rows.fnExactDeskSaySpec).at F).post enc Tryz.prog Tryz.f3 false true false false) := by
  obtain ⟨places, hx⟩ := reads os enc
  refine returnsInHanded_of_row (C := Tryz.checked) (s := OpenSpec.ofChange Rows.fnExactDeskSaySpec) own started (by kernel_rfl) Tryz.func3
    (witness_row_at (enc := enc) (C := Tryz.checked) false (laidWorld os) #[.agg #[.string ByteArray.empty, .slice none 0 0], .slice none 0 0] rfl (by kernel_rfl) (by kernel_rfl) (by kernel_rfl)
      (OpenSpec.preRow_of_cond 8 hx (by kernel_rfl) (fun k hk => by cases hk) (by kernel_rfl) (laid_met os))) ?_
  intro W base args ds gs before hval hW _ _ _ hL hSh _
  exact contract H enc W base args ds gs before hval hW hL hSh

set_option maxRecDepth 100000 in
theorem said : Rows.FnExactDeskSaySaid :=
  OpenClaim.holds_of_cond 3 Tryz.f3 rfl rfl rfl rfl rfl rfl rfl ⟨rfl, rfl, rfl, rfl, rfl⟩ rfl rfl rfl rfl rfl (by kernel_rfl) Tryz.func3 (by kernel_rfl)
    (of_decide_eq_true (by kernel_rfl)) (by unfold Func.isWrapper; first | (rw [if_pos (by decide +kernel)]; kernel_rfl) | (rw [if_neg (by decide +kernel)]; exact ⟨rfl, rfl⟩))
    (fun os started H enc _ F => by rw [OpenClaim.pre_eq_preRow]; exact lifted os started H enc F)

set_option maxRecDepth 100000 in
theorem plain (f : FuncId) (fn : Func) (hf : Tryz.pinned.checked.prog.funcNamed "loop.example/turtlewalks/laws.FnExactDeskSay" = some f) (hfn : Tryz.pinned.checked.prog.funcs[f]? = some fn) :
    false = Tryz.pinned.checked.prog.looks [] ∧ ∀ (j : Nat) t, fn.params[j]? = some t → Tryz.pinned.checked.prog.wantsStandIn t = false := by
  obtain rfl : f = 3 := Option.some.inj ((show Tryz.prog.funcNamed "loop.example/turtlewalks/laws.FnExactDeskSay" = some 3 by kernel_rfl).symm.trans hf) |>.symm
  obtain rfl : fn = Tryz.f3 := (Option.some.inj (Tryz.func3.symm.trans hfn)).symm
  refine ⟨by kernel_rfl, fun j t ht => ?_⟩
  rw [Tryz.params3] at ht
  have hm : t ∈ [24, 22] := by simpa using Array.mem_of_getElem? ht
  have hall : ([24, 22].all fun u => !Tryz.prog.wantsStandIn u) = true := by kernel_rfl
  exact (show Tryz.prog.wantsStandIn t = false by simpa using List.all_eq_true.1 hall t hm)

set_option maxRecDepth 100000 in
theorem card : Rows.FnExactDeskSayCardSaid :=
  Claim7.holds_tied_plain_at .later [] _ _ _ _ said (fun _ h => by cases h) (by kernel_rfl) (fun _ h => by cases h) fnExactDeskSay_row_tie rfl ⟨rfl, rfl⟩ (by kernel_rfl) rfl plain (by kernel_rfl)

end Go.Proofs.YtccdfndnjjjgfaaGreatDoor.fnExactDeskSay
