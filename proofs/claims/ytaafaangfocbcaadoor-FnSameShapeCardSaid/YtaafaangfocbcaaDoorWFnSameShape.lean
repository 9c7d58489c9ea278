/-
  The walk of FnSameShape: for every code: a closed walk has the same shape as itself in each way, begun at any step, and walked back; for both exchanged it is the same; and then both are simple, or none is. No condition beyond what the given statement itself bears.
-/
import Derived.Test.YtaafaangfocbcaaDoorDrawWalks
import Derived.Test.YtaafaangfocbcaaDoorAlive
import Derived.Test.YtaafaangfocbcaaDoorSimple
import Derived.Test.YtaafaangfocbcaaDoorSameShape
import Derived.Test.YtaafaangfocbcaaDoorOpenCode
namespace Go.Proofs.YtaafaangfocbcaaDoor.fnSameShape
open Go.ChangeShapes Go.WideShapes Go.ChangeAt Go.RowKit Go.WideMaps Go.WideElems
open Go.ChangeMaps (open_string shut_string)

theorem same_yes {l x : List UInt8} (hc : Tw.closed l = true) (h : Tw.shape l x) : sameShape l x = true := by
  unfold sameShape
  rw [hc, Tw.closed_shape hc h, firstRes_yes hc, firstRes_yes (Tw.closed_shape hc h), Tw.first_same hc h]
  simp
theorem same_comm (l m : List UInt8) : sameShape l m = sameShape m l := by
  unfold sameShape
  rw [Bool.and_comm (Tw.closed l), Bool.eq_iff_iff]
  simp only [Bool.and_eq_true, beq_iff_eq]
  constructor
  · rintro ⟨h, e⟩
    exact ⟨h, e.symm⟩
  · rintro ⟨h, e⟩
    exact ⟨h, e.symm⟩
theorem same_open {l m : List UInt8} (h : Tw.closed l = false ∨ Tw.closed m = false) : sameShape l m = false := by
  unfold sameShape
  rcases h with h | h
  · rw [h, Bool.false_and, Bool.false_and]
  · rw [h, Bool.and_false, Bool.false_and]
theorem same_simple {l m : List UInt8} (hl : Tw.closed l = true) (hm : Tw.closed m = true) (h : sameShape l m = true) : Tw.simple l = Tw.simple m ∧ l.length = m.length := by
  unfold sameShape at h
  rw [hl, hm, firstRes_yes hl, firstRes_yes hm] at h
  have e : Tw.firstOf l = Tw.firstOf m := by simpa using h
  have h1 := Tw.simple_shape hl (Tw.first_shape hl)
  have h2 := Tw.simple_shape hm (Tw.first_shape hm)
  have h3 := Tw.shape_len (Tw.first_shape hl)
  have h4 := Tw.shape_len (Tw.first_shape hm)
  rw [e] at h1 h3
  exact ⟨h1.symm.trans h2, h3.symm.trans h4⟩
theorem implSame_is (s t : ByteArray) (w : World) (hs : s.size ≤ 1048576) (ht : t.size ≤ 1048576) (hw : WaysAt w) (hd : DirsAt w) (g : Bool) (h : sameShape s.data.toList t.data.toList = g) :
    Calls Tryd.prog 38 #[.string s, .string t] w fun e w' => e = .returned (.bool g) ∧ Below w.heap.size w w' := h ▸ implSameShape s t w hs ht hw hd
theorem specSame_is (s t : ByteArray) (w : World) (hs : s.size ≤ 1048576) (ht : t.size ≤ 1048576) (g : Bool) (h : sameShape s.data.toList t.data.toList = g) :
    Calls Tryd.prog 39 #[.string s, .string t] w fun e w' => e = .returned (.bool g) ∧ Below w.heap.size w w' := h ▸ specSameShape s t w hs ht
theorem specClosed_is (s : ByteArray) (w : World) (hs : s.size ≤ 1048576) (b : Bool) (h : Tw.closed s.data.toList = b) :
    Calls Tryd.prog 40 #[.string s] w fun e w' => e = .returned (.bool b) ∧ Below w.heap.size w w' := h ▸ specClosedOk s w hs
theorem implSimple_is (s : ByteArray) (w : World) (hs : s.size ≤ 1048576) (hw : DirsAt w) (b : Bool) (h : Tw.simple s.data.toList = b) :
    Calls Tryd.prog 32 #[.string s] w fun e w' => e = .returned (.bool b) ∧ Below w.heap.size w w' := h ▸ implSimpleOk s w hs hw

/-- The four calls of one round: begun later, in a way, walked back, of the same shape. -/
structure Round (s y1 y2 y3 : ByteArray) (k j : Nat) : Prop where
  moved : ∀ W, DirsAt W → Calls Tryd.prog 41 #[.string s, .int .i64 k] W fun e w' => e = .returned (.string y1) ∧ Below W.heap.size W w'
  way : ∀ W, WaysAt W → Calls Tryd.prog 30 #[.string y1, .int .i64 j] W fun e w' => e = .returned (.string y2) ∧ Below W.heap.size W w'
  back : ∀ W, Calls Tryd.prog 16 #[.string y2] W fun e w' => e = .returned (.string y3) ∧ Below W.heap.size W w'
  same : ∀ W, WaysAt W → DirsAt W → Calls Tryd.prog 38 #[.string s, .string y3] W fun e w' => e = .returned (.bool true) ∧ Below W.heap.size W w'
theorem round_of {s : ByteArray} {k j : Nat} (hs : s.size ≤ 1048576) (hc : Tw.closed s.data.toList = true) (hk : k < s.size) (hj : j < 8) : ∃ y1 y2 y3, Round s y1 y2 y3 k j := by
  have hkl : k < s.data.toList.length := by rw [size_data]; exact hk
  have h1 : Tw.closed (Tw.moved s.data.toList k) = true := Tw.closed_moved k hc
  have h2 : Tw.closed (Tw.wayList j (Tw.moved s.data.toList k)) = true := Tw.closed_way j (by omega) (by omega) h1
  have hv := ((Tw.walkOk_iff _).1 (Tw.closed_ok hc)).2
  have h3 : Tw.shape s.data.toList (Tw.backList (Tw.wayList j (Tw.moved s.data.toList k))) := Tw.shape_back hv (Tw.shape_way (Tw.shape_moved (Tw.shape_self hc) hkl))
  refine ⟨Tw.str (Tw.moved s.data.toList k), Tw.str (Tw.wayList j (Tw.moved s.data.toList k)), Tw.str (Tw.backList (Tw.wayList j (Tw.moved s.data.toList k))), ?_, ?_, ?_, ?_⟩
  · exact fun W hW => implMoved_at hc hkl s (Tw.str_of s).symm W hW
  · exact fun W hW => implWay_at (Tw.closed_ok h1) hj _ rfl W hW
  · exact fun W => implBack_at (Tw.closed_ok h2) _ rfl W
  · refine fun W hW hD => implSame_is s _ W hs ?_ hW hD true ?_
    · rw [Tw.str_size, Tw.shape_len h3, size_data]
      exact hs
    · rw [Tw.str_data]
      exact same_yes hc h3

set_option maxHeartbeats 6400000 in
theorem walk (v : Value) (n : Nat) (w : World) (hw : WaysAt w) (hd : DirsAt w) (h : CodeAt w v n) :
    Calls Tryd.prog 10 #[v] w fun e w' => e = .returned (.bool true) ∧ Below w.heap.size w w' := by
  have hdraw := drawSameShape v n w h
  have hv : ∃ a cap, v = .slice a n cap := by
    rcases h with ⟨rfl, rfl⟩ | ⟨a, cap, rfl, _⟩
    · exact ⟨_, _, rfl⟩
    · exact ⟨_, _, rfl⟩
  obtain ⟨a, cap, rfl⟩ := hv
  have HD := Lib.hid hdraw
  clear hdraw h
  by_cases hn : n ≤ 1048576
  · go_enter Tryd.func10, Tryd.ntmps10
    go_wp2_with (go_at_call 37; refine HD.out.mono ?_; rintro e w1 ⟨s, t, rfl, hs, ht, hb1⟩)
    have hs1 : s.size ≤ 1048576 := by omega
    have ht1 : t.size ≤ 1048576 := by omega
    obtain ⟨g, hg⟩ : ∃ g, sameShape s.data.toList t.data.toList = g := ⟨_, rfl⟩
    have HG := Lib.hid hg
    cases hca : Tw.closed s.data.toList
    · obtain rfl : g = false := by rw [← hg]; exact same_open (.inl hca)
      have HCA := Lib.hid hca
      clear hg hca
      go_wp2_with (first
        | (go_at_call 38; refine (implSame_is s t _ hs1 ht1 (hw.below' hb1) (hd.below' hb1) _ HG.out).mono ?_; rintro e w2 ⟨rfl, hb2'⟩; have hb2 := hb1.trans (hb2'.mono hb1.size))
        | (go_at_call 39; refine (specSame_is s t _ hs1 ht1 _ HG.out).mono ?_; rintro e w3 ⟨rfl, hb3'⟩; have hb3 := hb2.trans (hb3'.mono hb2.size))
        | (go_at_call 40; refine (specClosed_is s _ hs1 _ HCA.out).mono ?_; rintro e w4 ⟨rfl, hb4'⟩; have hb4 := hb3.trans (hb4'.mono hb3.size))
        | (go_at_call 14; refine (alive_yes _).mono ?_; rintro e w' ⟨rfl, rfl⟩))
      go_ret
      exact ⟨rfl, hb4⟩
    · cases hcb : Tw.closed t.data.toList
      · obtain rfl : g = false := by rw [← hg]; exact same_open (.inr hcb)
        have HCA := Lib.hid hca
        have HCB := Lib.hid hcb
        clear hg hca hcb
        go_wp2_with (first
          | (go_at_call 38; refine (implSame_is s t _ hs1 ht1 (hw.below' hb1) (hd.below' hb1) _ HG.out).mono ?_; rintro e w2 ⟨rfl, hb2'⟩; have hb2 := hb1.trans (hb2'.mono hb1.size))
          | (go_at_call 39; refine (specSame_is s t _ hs1 ht1 _ HG.out).mono ?_; rintro e w3 ⟨rfl, hb3'⟩; have hb3 := hb2.trans (hb3'.mono hb2.size))
          | (go_at_call 40; first
              | (have hq := hb4; refine (specClosed_is t _ ht1 _ HCB.out).mono ?_; rintro e w5 ⟨rfl, hb5'⟩; have hb5 := hb4.trans (hb5'.mono hb4.size))
              | (refine (specClosed_is s _ hs1 _ HCA.out).mono ?_; rintro e w4 ⟨rfl, hb4'⟩; have hb4 := hb3.trans (hb4'.mono hb3.size)))
          | (go_at_call 14; refine (alive_yes _).mono ?_; rintro e w' ⟨rfl, rfl⟩))
        go_ret
        exact ⟨rfl, hb5⟩
      · have HCA := Lib.hid hca
        have HCB := Lib.hid hcb
        have hpos := Tw.closed_len hca
        rw [size_data] at hpos
        have hg2 : sameShape t.data.toList s.data.toList = g := by rw [same_comm, hg]
        have HG2 := Lib.hid hg2
        have hsim : g = true → Tw.simple s.data.toList = Tw.simple t.data.toList ∧ s.size = t.size := by
          intro e
          have := same_simple hca hcb (hg.trans e)
          rwa [size_data, size_data] at this
        have HSIM := Lib.hid hsim
        clear hg hca hcb hg2 hsim
        go_wp2_with (first
          | (go_at_call 38; refine (implSame_is s t _ hs1 ht1 (hw.below' hb1) (hd.below' hb1) _ HG.out).mono ?_; rintro e w2 ⟨rfl, hb2'⟩; have hb2 := hb1.trans (hb2'.mono hb1.size))
          | (go_at_call 39; refine (specSame_is s t _ hs1 ht1 _ HG.out).mono ?_; rintro e w3 ⟨rfl, hb3'⟩; have hb3 := hb2.trans (hb3'.mono hb2.size))
          | (go_at_call 40; first
              | (have hq := hb4; refine (specClosed_is t _ ht1 _ HCB.out).mono ?_; rintro e w5 ⟨rfl, hb5'⟩; have hb5 := hb4.trans (hb5'.mono hb4.size))
              | (refine (specClosed_is s _ hs1 _ HCA.out).mono ?_; rintro e w4 ⟨rfl, hb4'⟩; have hb4 := hb3.trans (hb4'.mono hb3.size))))
        go_loopw [6] (fun i wr => ∃ j : Nat, i = .int .i64 j ∧ j ≤ 8 ∧ Below w.heap.size w wr) (fun i _ => 8 - (intOf i).toNat)
        case atStart => exact ⟨0, rfl, by omega, hb5⟩
        case round =>
          obtain ⟨j, rfl, hj, hbr⟩ := hrel
          by_cases hlt : j < 8
          · obtain ⟨k, hk, hks⟩ := mod_lt (x := (j : Int)) (m := s.size) hpos
            obtain ⟨y1, y2, y3, hround⟩ := round_of hs1 HCA.out hks hlt
            have HR := Lib.hid hround
            clear hround
            go_wp2_with (first
              | (go_at_call 41; refine (HR.out.moved _ (hd.below' hbr)).mono ?_; rintro e w6 ⟨rfl, hb6'⟩; have hb6 := hbr.trans (hb6'.mono hbr.size))
              | (go_at_call 30; refine (HR.out.way _ (hw.below' hb6)).mono ?_; rintro e w7 ⟨rfl, hb7'⟩; have hb7 := hb6.trans (hb7'.mono hb6.size))
              | (go_at_call 16; refine (HR.out.back _).mono ?_; rintro e w8 ⟨rfl, hb8'⟩; have hb8 := hb7.trans (hb8'.mono hb7.size))
              | (go_at_call 38; refine (HR.out.same _ (hw.below' hb8) (hd.below' hb8)).mono ?_; rintro e w9 ⟨rfl, hb9'⟩; have hb9 := hb8.trans (hb9'.mono hb8.size)))
            go_roundw
            case rel => exact ⟨j + 1, by go_num, by omega, hb9⟩
            case measure => simp [intOf]; omega
          · obtain rfl : j = 8 := by omega
            cases g
            · go_wp2_with (first
                | (go_at_call 38; refine (implSame_is t s _ ht1 hs1 (hw.below' hbr) (hd.below' hbr) _ HG2.out).mono ?_; rintro e w6 ⟨rfl, hb6'⟩; have hb6 := hbr.trans (hb6'.mono hbr.size)))
              go_ret
              exact ⟨rfl, hb6⟩
            · obtain ⟨q1, q2⟩ := HSIM.out rfl
              obtain ⟨q, hq⟩ : ∃ q, Tw.simple t.data.toList = q := ⟨_, rfl⟩
              rw [hq] at q1
              have HQ1 := Lib.hid q1
              have HQ2 := Lib.hid hq
              clear q1 hq
              cases q
              all_goals
                go_wp2_with (first
                  | (go_at_call 38; refine (implSame_is t s _ ht1 hs1 (hw.below' hbr) (hd.below' hbr) _ HG2.out).mono ?_; rintro e w6 ⟨rfl, hb6'⟩; have hb6 := hbr.trans (hb6'.mono hbr.size))
                  | (go_at_call 32; first
                      | (have hq := hb7; refine (implSimple_is t _ ht1 (hd.below' hb7) _ HQ2.out).mono ?_; rintro e w8 ⟨rfl, hb8'⟩; have hb8 := hb7.trans (hb8'.mono hb7.size))
                      | (refine (implSimple_is s _ hs1 (hd.below' hb6) _ HQ1.out).mono ?_; rintro e w7 ⟨rfl, hb7'⟩; have hb7 := hb6.trans (hb7'.mono hb6.size))))
                go_ret
                exact ⟨rfl, hb8⟩
  · have hn' : 1048576 < n := by omega
    go_enter Tryd.func10, Tryd.ntmps10
    go_wp2_with fail
    go_ret
    exact ⟨rfl, Below.refl _ _⟩

end Go.Proofs.YtaafaangfocbcaaDoor.fnSameShape
