/-
  The walk of FnCaughtOk: for every code: a walk that is caught has seven steps or more, and nothing by which it goes on. No condition beyond what the given statement itself bears.
-/
import Derived.Test.YtaafaangfocbcaaDoorDrawsMore
import Derived.Test.YtaafaangfocbcaaDoorAlive
import Derived.Test.YtaafaangfocbcaaDoorCaughtPure
import Derived.Test.YtaafaangfocbcaaDoorGoesImpl
import Derived.Test.YtaafaangfocbcaaDoorOpenCode
namespace Go.Proofs.YtaafaangfocbcaaDoor.fnCaughtOk
open Go.ChangeShapes Go.WideShapes Go.ChangeAt Go.RowKit Go.WideMaps Go.WideElems
open Go.ChangeMaps (open_string shut_string)

theorem implCaught_is (s : ByteArray) (w : World) (hs : s.size ≤ 1048576) (hw : DirsAt w) (b : Bool) (h : Tw.caught s.data.toList = b) :
    Calls Tryd.prog 24 #[.string s] w fun e w' => e = .returned (.bool b) ∧ Below w.heap.size w w' := h ▸ implCaughtOk s w hs hw
theorem specCaught_is (s : ByteArray) (w : World) (hs : s.size ≤ 1048576) (b : Bool) (h : Tw.caught s.data.toList = b) :
    Calls Tryd.prog 25 #[.string s] w fun e w' => e = .returned (.bool b) ∧ Below w.heap.size w w' := h ▸ specCaughtOk s w hs
theorem implGoes_is (s : ByteArray) (w : World) (hs : s.size ≤ 1048576) (hw : DirsAt w) (x : ByteArray) (h : Tw.str (Tw.goesOn s.data.toList) = x) :
    Calls Tryd.prog 18 #[.string s] w fun e w' => e = .returned (.string x) ∧ Below w.heap.size w w' := h ▸ implGoesOn s w hs hw

set_option maxHeartbeats 3200000 in
theorem walk (v : Value) (n : Nat) (w : World) (hd : DirsAt w) (h : CodeAt w v n) :
    Calls Tryd.prog 6 #[v] w fun e w' => e = .returned (.bool true) ∧ Below w.heap.size w w' := by
  have hdraw := drawCaughtOk v n w h
  have hv : ∃ a cap, v = .slice a n cap := by
    rcases h with ⟨rfl, rfl⟩ | ⟨a, cap, rfl, _⟩
    · exact ⟨_, _, rfl⟩
    · exact ⟨_, _, rfl⟩
  obtain ⟨a, cap, rfl⟩ := hv
  have HD := Lib.hid hdraw
  clear hdraw h
  by_cases hn : n ≤ 1048576
  · go_enter Tryd.func6, Tryd.ntmps6
    go_wp2_with (go_at_call 23; refine HD.out.mono ?_; rintro e w1 ⟨s, rfl, hs, hb1⟩)
    have hs1 : s.size ≤ 1048576 := by omega
    obtain ⟨b, hb⟩ : ∃ b, Tw.caught s.data.toList = b := ⟨_, rfl⟩
    have HB := Lib.hid hb
    clear hb
    cases b
    · go_wp2_with (first
        | (go_at_call 24; first
            | (have hq := hb4; refine (implCaught_is _ _ (by decide) (hd.below' hb4) false Tw.caught_nil).mono ?_; rintro e w5 ⟨rfl, hb5'⟩; have hb5 := hb4.trans (hb5'.mono hb4.size))
            | (have hq := hb3; refine (implCaught_is _ _ (by decide) (hd.below' hb3) true Tw.caught_one).mono ?_; rintro e w4 ⟨rfl, hb4'⟩; have hb4 := hb3.trans (hb4'.mono hb3.size))
            | (refine (implCaught_is s _ hs1 (hd.below' hb1) false HB.out).mono ?_; rintro e w2 ⟨rfl, hb2'⟩; have hb2 := hb1.trans (hb2'.mono hb1.size)))
        | (go_at_call 25; refine (specCaught_is s _ hs1 false HB.out).mono ?_; rintro e w3 ⟨rfl, hb3'⟩; have hb3 := hb2.trans (hb3'.mono hb2.size))
        | (go_at_call 14; refine (alive_yes _).mono ?_; rintro e w' ⟨rfl, rfl⟩))
      go_ret
      exact ⟨rfl, hb5⟩
    · have h7 := Tw.caught_seven HB.out
      rw [size_data] at h7
      have h0 : Tw.str (Tw.goesOn s.data.toList) = ⟨#[]⟩ := by rw [Tw.caught_none HB.out]; rfl
      have H0 := Lib.hid h0
      clear h0
      go_wp2_with (first
        | (go_at_call 24; first
            | (have hq := hb5; refine (implCaught_is _ _ (by decide) (hd.below' hb5) false Tw.caught_nil).mono ?_; rintro e w6 ⟨rfl, hb6'⟩; have hb6 := hb5.trans (hb6'.mono hb5.size))
            | (have hq := hb4; refine (implCaught_is _ _ (by decide) (hd.below' hb4) true Tw.caught_one).mono ?_; rintro e w5 ⟨rfl, hb5'⟩; have hb5 := hb4.trans (hb5'.mono hb4.size))
            | (refine (implCaught_is s _ hs1 (hd.below' hb1) true HB.out).mono ?_; rintro e w2 ⟨rfl, hb2'⟩; have hb2 := hb1.trans (hb2'.mono hb1.size)))
        | (go_at_call 25; refine (specCaught_is s _ hs1 true HB.out).mono ?_; rintro e w3 ⟨rfl, hb3'⟩; have hb3 := hb2.trans (hb3'.mono hb2.size))
        | (go_at_call 18; refine (implGoes_is s _ hs1 (hd.below' hb3) _ H0.out).mono ?_; rintro e w4 ⟨rfl, hb4'⟩; have hb4 := hb3.trans (hb4'.mono hb3.size))
        | (go_at_call 14; refine (alive_yes _).mono ?_; rintro e w' ⟨rfl, rfl⟩))
      go_ret
      exact ⟨rfl, hb6⟩
  · have hn' : 1048576 < n := by omega
    go_enter Tryd.func6, Tryd.ntmps6
    go_wp2_with fail
    go_ret
    exact ⟨rfl, Below.refl _ _⟩

end Go.Proofs.YtaafaangfocbcaaDoor.fnCaughtOk
