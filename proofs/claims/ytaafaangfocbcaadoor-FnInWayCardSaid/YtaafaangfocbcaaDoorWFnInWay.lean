/-
  The walk of FnInWay: for every code: a walk in a way, turned four times or put into the mirror twice, is as before; and it is closed, and simple, exactly if the walk is. No condition beyond what the given statement itself bears.
-/
import Derived.Test.YtaafaangfocbcaaDoorDrawWalks
import Derived.Test.YtaafaangfocbcaaDoorAlive
import Derived.Test.YtaafaangfocbcaaDoorSimple
import Derived.Test.YtaafaangfocbcaaDoorFirst
import Derived.Test.YtaafaangfocbcaaDoorUnfold
import Derived.Test.YtaafaangfocbcaaDoorOpenCode
namespace Go.Proofs.YtaafaangfocbcaaDoor.fnInWay
open Go.ChangeShapes Go.WideShapes Go.ChangeAt Go.RowKit Go.WideMaps Go.WideElems
open Go.ChangeMaps (open_string shut_string)

theorem specWay_is (s : ByteArray) (way : Int) (w : World) (hs : s.size ≤ 1048576) (x : ByteArray) (h : Tw.str (Tw.inWay s.data.toList way) = x) :
    Calls Tryd.prog 31 #[.string s, .int .i64 way] w fun e w' => e = .returned (.string x) ∧ w = w' := h ▸ specInWay s way w hs
theorem implClosed_is (s : ByteArray) (w : World) (hs : s.size ≤ 1048576) (hw : DirsAt w) (b : Bool) (h : Tw.closed s.data.toList = b) :
    Calls Tryd.prog 15 #[.string s] w fun e w' => e = .returned (.bool b) ∧ Below w.heap.size w w' := h ▸ implClosedOk s w hs hw
theorem implSimple_is (s : ByteArray) (w : World) (hs : s.size ≤ 1048576) (hw : DirsAt w) (b : Bool) (h : Tw.simple s.data.toList = b) :
    Calls Tryd.prog 32 #[.string s] w fun e w' => e = .returned (.bool b) ∧ Below w.heap.size w w' := h ▸ implSimpleOk s w hs hw

theorem implWayTo {l m : List UInt8} {way : Int} (h : Tw.walkOk l = true) (h0 : 0 ≤ way) (h7 : way ≤ 7) (hm : Tw.wayList way l = m) (x : ByteArray) (hx : x = Tw.str l) (y : ByteArray) (hy : y = Tw.str m) (w : World) (hw : WaysAt w) :
    Calls Tryd.prog 30 #[.string x, .int .i64 way] w fun e w' => e = .returned (.string y) ∧ Below w.heap.size w w' := by
  subst hx hy hm
  refine implInWay_is (Tw.str l) way w (by rw [Tw.str_size]; have := Tw.walkOk_len h; omega) hw _ ?_
  rw [Tw.str_data, Tw.inWay_eq h h0 h7]

/-- Turned by so many quarters. -/
def turned (j : Nat) (l : List UInt8) : List UInt8 := Tw.wayList ((j : Int) % 4) l
theorem turned_zero {l : List UInt8} (h : Tw.valid l) : turned 0 l = l := by
  unfold turned Tw.wayList
  exact (List.map_congr_left fun c hc => Tw.way_zero c (h c hc)).trans (List.map_id l)
theorem turned_four {l : List UInt8} (h : Tw.valid l) : turned 4 l = l := turned_zero h
theorem turned_succ (j : Nat) (l : List UInt8) : turned (j + 1) l = Tw.wayList 1 (turned j l) := by
  unfold turned
  rw [Tw.wayList_then]
  congr 1
  unfold Tw.wayThen
  rw [if_neg (by omega), if_neg (by omega)]
  omega
theorem mirror_twice {l : List UInt8} (h : Tw.valid l) : Tw.wayList 4 (Tw.wayList 4 l) = l := by
  have e : Tw.wayBack 4 = 4 := by decide
  have := Tw.wayList_undo (w := 4) h
  rwa [e] at this
theorem told {l : List UInt8} {way : Int} (h : Tw.inWay l way ≠ []) : Tw.walkOk l = true ∧ 0 ≤ way ∧ way ≤ 7 := by
  unfold Tw.inWay at h
  split at h
  · rename_i hc
    simp only [Bool.and_eq_true, decide_eq_true_eq] at hc
    exact ⟨hc.1.1, hc.1.2, hc.2⟩
  · exact absurd rfl h

set_option maxHeartbeats 6400000 in
theorem walk (v : Value) (n : Nat) (w : World) (hw : WaysAt w) (hd : DirsAt w) (h : CodeAt w v n) :
    Calls Tryd.prog 8 #[v] w fun e w' => e = .returned (.bool true) ∧ Below w.heap.size w w' := by
  have hdraw := drawInWay v n w h
  have hv : ∃ a cap, v = .slice a n cap := by
    rcases h with ⟨rfl, rfl⟩ | ⟨a, cap, rfl, _⟩
    · exact ⟨_, _, rfl⟩
    · exact ⟨_, _, rfl⟩
  obtain ⟨a, cap, rfl⟩ := hv
  have HD := Lib.hid hdraw
  clear hdraw h
  by_cases hn : n ≤ 1048576
  · go_enter Tryd.func8, Tryd.ntmps8
    go_wp2_with (go_at_call 29; refine HD.out.mono ?_; rintro e w1 ⟨s, way, rfl, hs, hy0, hy1, hb1⟩)
    have hs1 : s.size ≤ 1048576 := by omega
    obtain ⟨x, hx⟩ : ∃ x, Tw.str (Tw.inWay s.data.toList way) = x := ⟨_, rfl⟩
    have HX := Lib.hid hx
    by_cases hz : x.size = 0
    · obtain rfl := nil_of_size hz
      clear hz hx
      go_wp2_with (first
        | (go_at_call 30; refine (implInWay_is s way _ hs1 (hw.below' hb1) _ HX.out).mono ?_; rintro e w2 ⟨rfl, hb2'⟩; have hb2 := hb1.trans (hb2'.mono hb1.size))
        | (go_at_call 31; refine (specWay_is s way _ hs1 _ HX.out).mono ?_; rintro e w' ⟨rfl, rfl⟩)
        | (go_at_call 14; refine (alive_yes _).mono ?_; rintro e w' ⟨rfl, rfl⟩))
      go_ret
      exact ⟨rfl, hb2⟩
    · have hpos : 0 < x.size := by omega
      have hne := notEmpty hpos
      obtain ⟨hok, h0, h7⟩ := told (l := s.data.toList) (way := way) (by
        intro e
        rw [e] at hx
        rw [← hx] at hpos
        simp [Tw.str_size] at hpos)
      rw [Tw.inWay_eq hok h0 h7] at hx
      obtain ⟨X, hX⟩ : ∃ X, Tw.wayList way s.data.toList = X := ⟨_, rfl⟩
      rw [hX] at hx
      have hokX : Tw.walkOk X = true := by rw [← hX]; exact Tw.walkOk_way hok way
      have hvX := ((Tw.walkOk_iff X).1 hokX).2
      have hxs : x.size = s.size := by rw [← hx, Tw.str_size, ← hX, Tw.length_way, size_data]
      have hxd : x.data.toList = X := by rw [← hx, Tw.str_data]
      obtain ⟨c, hc⟩ : ∃ c, Tw.closed s.data.toList = c := ⟨_, rfl⟩
      obtain ⟨q, hq⟩ : ∃ q, Tw.simple s.data.toList = q := ⟨_, rfl⟩
      have hcx : Tw.closed x.data.toList = c := by rw [hxd, ← hX, Tw.closed_way_iff hok h0 h7, hc]
      have hqx : Tw.simple x.data.toList = q := by rw [hxd, ← hX, Tw.simple_way_iff hok h0 h7, hq]
      have HC := Lib.hid hc
      have HQ := Lib.hid hq
      have HCX := Lib.hid hcx
      have HQX := Lib.hid hqx
      have HXL := Lib.hid hx
      have HOKX := Lib.hid hokX
      have HM := Lib.hid (mirror_twice hvX)
      have HT0 := Lib.hid (turned_zero hvX)
      have HT4 := Lib.hid (turned_four hvX)
      obtain ⟨x4, hx4⟩ : ∃ x4, Tw.str (Tw.wayList 4 X) = x4 := ⟨_, rfl⟩
      have HX4 := Lib.hid hx4
      clear hx hX hokX hvX hxd hc hq hcx hqx hok hz hx4
      go_wp2_with (first
        | (go_at_call 30; refine (implInWay_is s way _ hs1 (hw.below' hb1) _ HX.out).mono ?_; rintro e w2 ⟨rfl, hb2'⟩; have hb2 := hb1.trans (hb2'.mono hb1.size))
        | (go_at_call 31; refine (specWay_is s way _ hs1 _ HX.out).mono ?_; rintro e w' ⟨rfl, rfl⟩))
      go_loopw [6, 7] (fun f i wr => ∃ (j : Nat) (t : ByteArray), i = .int .i64 j ∧ f = .string t ∧ j ≤ 4 ∧ Hid (t = Tw.str (turned j X)) ∧ Below w.heap.size w wr) (fun _ i _ => 4 - (intOf i).toNat)
      case atStart => exact ⟨0, x, rfl, rfl, by omega, (by show _ = _; rw [HT0.out, HXL.out]), hb2⟩
      case round =>
        obtain ⟨j, t, rfl, rfl, hj, HT, hbr⟩ := hrel
        by_cases hlt : j < 4
        · have hokt : Tw.walkOk (turned j X) = true := Tw.walkOk_way HOKX.out _
          have hnext := fun W hW => implWayTo hokt (by omega) (by omega) (turned_succ j X).symm t HT.out _ rfl W hW
          have HN := Lib.hid hnext
          clear hnext hokt
          go_wp2_with (first
            | (go_at_call 30; refine (HN.out _ (hw.below' hbr)).mono ?_; rintro e w3 ⟨rfl, hb3'⟩; have hb3 := hbr.trans (hb3'.mono hbr.size)))
          go_roundw
          case rel => exact ⟨j + 1, _, by go_num, rfl, by omega, rfl, hb3⟩
          case measure => simp [intOf]; omega
        · obtain rfl : j = 4 := by omega
          obtain rfl : t = x := by rw [HT.out, HT4.out, HXL.out]
          have hn1 := fun W hW => implWayTo HOKX.out (by omega) (by omega) rfl t HXL.out.symm x4 HX4.out.symm W hW
          have hn2 := fun W hW => implWayTo (l := Tw.wayList 4 X) (Tw.walkOk_way HOKX.out 4) (by omega) (by omega) HM.out x4 HX4.out.symm t HXL.out.symm W hW
          have H1 := Lib.hid hn1
          have H2 := Lib.hid hn2
          clear hn1 hn2
          have ht1 : t.size ≤ 1048576 := by omega
          cases c <;> cases q
          all_goals
            go_wp2_with (first
              | (go_at_call 30; first
                  | (have hq := hb4; refine (H2.out _ (hw.below' hb4)).mono ?_; rintro e w5 ⟨rfl, hb5'⟩; have hb5 := hb4.trans (hb5'.mono hb4.size))
                  | (refine (H1.out _ (hw.below' hbr)).mono ?_; rintro e w4 ⟨rfl, hb4'⟩; have hb4 := hbr.trans (hb4'.mono hbr.size)))
              | (go_at_call 15; first
                  | (have hq := hb6; refine (implClosed_is s _ hs1 (hd.below' hb6) _ HC.out).mono ?_; rintro e w7 ⟨rfl, hb7'⟩; have hb7 := hb6.trans (hb7'.mono hb6.size))
                  | (refine (implClosed_is t _ ht1 (hd.below' hb5) _ HCX.out).mono ?_; rintro e w6 ⟨rfl, hb6'⟩; have hb6 := hb5.trans (hb6'.mono hb5.size)))
              | (go_at_call 32; first
                  | (have hq := hb8; refine (implSimple_is s _ hs1 (hd.below' hb8) _ HQ.out).mono ?_; rintro e w9 ⟨rfl, hb9'⟩; have hb9 := hb8.trans (hb9'.mono hb8.size))
                  | (refine (implSimple_is t _ ht1 (hd.below' hb7) _ HQX.out).mono ?_; rintro e w8 ⟨rfl, hb8'⟩; have hb8 := hb7.trans (hb8'.mono hb7.size))))
            go_ret
            exact ⟨rfl, hb9⟩
  · have hn' : 1048576 < n := by omega
    go_enter Tryd.func8, Tryd.ntmps8
    go_wp2_with fail
    go_ret
    exact ⟨rfl, Below.refl _ _⟩

end Go.Proofs.YtaafaangfocbcaaDoor.fnInWay
