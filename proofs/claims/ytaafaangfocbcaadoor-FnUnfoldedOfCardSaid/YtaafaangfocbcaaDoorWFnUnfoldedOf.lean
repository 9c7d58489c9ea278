/-
  The walk of FnUnfoldedOf: for every code: an unfolded walk avoids itself, begins as the walk, and folds again. No condition beyond what the given statement itself bears.
-/
import Derived.Test.YtaafaangfocbcaaDoorDrawsMore
import Derived.Test.YtaafaangfocbcaaDoorAlive
import Derived.Test.YtaafaangfocbcaaDoorLawPure
import Derived.Test.YtaafaangfocbcaaDoorUnfold
import Derived.Test.YtaafaangfocbcaaDoorOpenCode
import Derived.Deep.RegionHeld3
namespace Go.Proofs.YtaafaangfocbcaaDoor.fnUnfoldedOf
open Go.ChangeShapes Go.WideShapes Go.ChangeAt Go.RowKit Go.WideMaps Go.WideElems
open Go.ChangeMaps (open_string shut_string)

theorem implUnfold_is (s : ByteArray) (p way : Int) (w : World) (hs : s.size ≤ 1048576) (hw : WaysAt w) (hd : DirsAt w) (x : ByteArray) (b : Bool) (hx : Tw.str (Tw.unfolded s.data.toList p way) = x) (hb : Tw.unfoldedOk s.data.toList p way = b) :
    Calls Tryd.prog 21 #[.string s, .int .i64 p, .int .i64 way] w fun e w' => e = .returned (.tuple #[.string x, .bool b]) ∧ Below w.heap.size w w' := hx ▸ hb ▸ implUnfolded s p way w hs hw hd
theorem specUnfold_is (s : ByteArray) (p way : Int) (w : World) (hs : s.size ≤ 1048576) (hp : -9223372036854775808 ≤ p ∧ p ≤ 9223372036854775807) (hway : -9223372036854775808 ≤ way ∧ way ≤ 9223372036854775807) (x : ByteArray) (b : Bool) (hx : Tw.str (Tw.unfolded s.data.toList p way) = x) (hb : Tw.unfoldedOk s.data.toList p way = b) :
    Calls Tryd.prog 22 #[.string s, .int .i64 p, .int .i64 way] w fun e w' => e = .returned (.tuple #[.string x, .bool b]) ∧ Below w.heap.size w w' := hx ▸ hb ▸ specUnfolded s p way w hs hp hway
theorem facts_no {l : List UInt8} {p way : Int} (h : Tw.unfoldedOk l p way = false) : Tw.str (Tw.unfolded l p way) = ⟨#[]⟩ := by
  have e : Tw.unfolded l p way = [] := by
    unfold Tw.unfoldedOk at h
    unfold Tw.unfolded
    rw [h]
    rfl
  rw [e]
  rfl
theorem take_data (s : ByteArray) (q : Nat) : (s.extract 0 q).data.toList = s.data.toList.take q := by
  rw [Lib.extract_data]
  simp
theorem ext_list {s t : ByteArray} (h : s.data.toList = t.data.toList) : s = t := by
  rw [← Tw.str_of s, ← Tw.str_of t, h]
theorem facts_yes {s x : ByteArray} {p way : Int} (h : Tw.unfoldedOk s.data.toList p way = true) (hx : Tw.str (Tw.unfolded s.data.toList p way) = x) :
    ∃ q : Nat, p = q ∧ q ≤ s.size ∧ x.size = s.size ∧ s.size ≤ 40 ∧ Tw.avoids x.data.toList = true ∧ x.extract 0 q = s.extract 0 q ∧ 0 ≤ Tw.wayBack way ∧ Tw.wayBack way ≤ 7 ∧ Tw.str (Tw.unfolded x.data.toList q (Tw.wayBack way)) = s ∧ Tw.unfoldedOk x.data.toList q (Tw.wayBack way) = true := by
  have h' := h
  unfold Tw.unfoldedOk Tw.unfolds at h'
  simp only [Bool.and_eq_true, decide_eq_true_eq] at h'
  obtain ⟨⟨⟨⟨⟨hav, hp0⟩, hp⟩, h0⟩, h7⟩, hax⟩ := h'
  obtain ⟨q, rfl⟩ := Int.eq_ofNat_of_zero_le hp0
  have hq : q ≤ s.data.toList.length := by omega
  rw [Int.toNat_natCast] at hax
  have hw := Tw.avoids_ok hav
  have h40 := Tw.walkOk_len hw
  have e : Tw.unfolded s.data.toList q way = Tw.unfoldAt s.data.toList q way := by
    unfold Tw.unfoldedOk at h
    unfold Tw.unfolded
    rw [h, Int.toNat_natCast]
    rfl
  rw [e] at hx
  have hxd : x.data.toList = Tw.unfoldAt s.data.toList q way := by rw [← hx, Tw.str_data]
  have hb := Tw.wayBack_range h0 h7
  have hlen := Tw.unfoldAt_len hw hq h0 h7
  have hback := Tw.unfoldAt_back hw (Tw.avoids_ok hax) hq h0 h7
  rw [← hxd] at hlen hback hax
  have hunf : Tw.unfolds x.data.toList q (Tw.wayBack way) = true := by
    unfold Tw.unfolds
    simp only [Bool.and_eq_true, decide_eq_true_eq]
    exact ⟨⟨⟨⟨hax, by omega⟩, by omega⟩, hb.1⟩, hb.2⟩
  have hok : Tw.unfoldedOk x.data.toList q (Tw.wayBack way) = true := by
    unfold Tw.unfoldedOk
    rw [hunf, Int.toNat_natCast, hback, hav]
    rfl
  rw [size_data] at hq h40
  rw [size_data, size_data] at hlen
  refine ⟨q, rfl, hq, hlen, h40, hax, ?_, hb.1, hb.2, ?_, hok⟩
  · apply ext_list
    rw [take_data, take_data, hxd]
    unfold Tw.unfoldAt
    rw [List.take_append_of_le_length (by rw [List.length_take, size_data]; omega), List.take_of_length_le (by rw [List.length_take]; omega)]
  · have e2 : Tw.unfolded x.data.toList q (Tw.wayBack way) = s.data.toList := by
      unfold Tw.unfoldedOk at hok
      unfold Tw.unfolded
      rw [hok, Int.toNat_natCast, hback]
      rfl
    rw [e2, Tw.str_of]

set_option maxHeartbeats 6400000 in
theorem walk (v : Value) (n : Nat) (w : World) (hw : WaysAt w) (hd : DirsAt w) (h : CodeAt w v n) :
    Calls Tryd.prog 5 #[v] w fun e w' => e = .returned (.bool true) ∧ Below w.heap.size w w' := by
  have hdraw := drawUnfoldedOf v n w h
  have hv : ∃ a cap, v = .slice a n cap := by
    rcases h with ⟨rfl, rfl⟩ | ⟨a, cap, rfl, _⟩
    · exact ⟨_, _, rfl⟩
    · exact ⟨_, _, rfl⟩
  obtain ⟨a, cap, rfl⟩ := hv
  have HD := Lib.hid hdraw
  clear hdraw h
  by_cases hn : n ≤ 1048576
  · go_enter Tryd.func5, Tryd.ntmps5
    go_wp2_with (go_at_call 20; refine HD.out.mono ?_; rintro e w1 ⟨s, p, way, rfl, hs, hp0, hp1, hy0, hy1, hb1⟩)
    have hs1 : s.size ≤ 1048576 := by omega
    obtain ⟨b, hb⟩ : ∃ b, Tw.unfoldedOk s.data.toList p way = b := ⟨_, rfl⟩
    obtain ⟨x, hx⟩ : ∃ x, Tw.str (Tw.unfolded s.data.toList p way) = x := ⟨_, rfl⟩
    have HB := Lib.hid hb
    have HX := Lib.hid hx
    clear hb hx
    cases b
    · have e0 := facts_no HB.out
      rw [HX.out] at e0
      subst e0
      go_wp2_with (first
        | (go_at_call 21; refine (implUnfold_is s p way _ hs1 (hw.below' hb1) (hd.below' hb1) _ _ HX.out HB.out).mono ?_; rintro e w2 ⟨rfl, hb2'⟩; have hb2 := hb1.trans (hb2'.mono hb1.size))
        | (go_at_call 22; refine (specUnfold_is s p way _ hs1 (by omega) (by omega) _ _ HX.out HB.out).mono ?_; rintro e w3 ⟨rfl, hb3'⟩; have hb3 := hb2.trans (hb3'.mono hb2.size))
        | (go_at_call 14; refine (alive_yes _).mono ?_; rintro e w' ⟨rfl, rfl⟩))
      go_ret
      exact ⟨rfl, hb3⟩
    · obtain ⟨q, rfl, hq, hxs, h40, hav, hext, hk0, hk7, hback, hbok⟩ := facts_yes HB.out HX.out
      have HAV := Lib.hid hav
      have HBK := Lib.hid hback
      have HBO := Lib.hid hbok
      have hx1 : x.size ≤ 1048576 := by omega
      obtain ⟨kb, hkb⟩ : ∃ kb, Tw.wayBack way = kb := ⟨_, rfl⟩
      rw [hkb] at hk0 hk7
      have HKB := Lib.hid hkb
      clear hav hback hbok hkb
      go_wp2_with (first
        | (go_at_call 21; refine (implUnfold_is s q way _ hs1 (hw.below' hb1) (hd.below' hb1) _ _ HX.out HB.out).mono ?_; rintro e w2 ⟨rfl, hb2'⟩; have hb2 := hb1.trans (hb2'.mono hb1.size))
        | (go_at_call 22; refine (specUnfold_is s q way _ hs1 (by omega) (by omega) _ _ HX.out HB.out).mono ?_; rintro e w3 ⟨rfl, hb3'⟩; have hb3 := hb2.trans (hb3'.mono hb2.size)))
      go_loopw [10, 11, 12, 13] (fun f i _ _ wr => ∃ (j : Nat) (g : Bool), i = .int .i64 j ∧ f = .bool g ∧ j ≤ 8 ∧ Hid (kb < j → g = true) ∧ Below w.heap.size w wr) (fun _ i _ _ _ => 8 - (intOf i).toNat)
      case atStart => exact ⟨0, false, rfl, rfl, by omega, (fun h => by omega), hb3⟩
      case round =>
        obtain ⟨j, g, rfl, rfl, hj, HG, hbr⟩ := hrel
        by_cases hlt : j < 8
        · obtain ⟨z, hz⟩ : ∃ z, Tw.str (Tw.unfolded x.data.toList q (j : Int)) = z := ⟨_, rfl⟩
          obtain ⟨c, hc⟩ : ∃ c, Tw.unfoldedOk x.data.toList q (j : Int) = c := ⟨_, rfl⟩
          have HZ := Lib.hid hz
          have HC := Lib.hid hc
          by_cases hjk : kb = j
          · have ez : z = s := by rw [← hz, ← hjk, ← HKB.out]; exact HBK.out
            have ec : c = true := by rw [← hc, ← hjk, ← HKB.out]; exact HBO.out
            clear hz hc
            subst ez ec
            cases g
            all_goals
              go_wp2_with (first
                | (go_at_call 21; refine (implUnfold_is x q j _ hx1 (hw.below' hbr) (hd.below' hbr) _ _ HZ.out HC.out).mono ?_; rintro e w4 ⟨rfl, hb4'⟩; have hb4 := hbr.trans (hb4'.mono hbr.size)))
              go_roundw
              case rel => exact ⟨j + 1, true, by go_num, rfl, by omega, (fun _ => rfl), hb4⟩
              case measure => simp [intOf]; omega
          · clear hz hc
            have hg : kb < (j : Int) + 1 → g = true := fun h => HG.out (by omega)
            have HG2 := Lib.hid hg
            clear hg
            cases hzz : (z.toList == s.toList) <;> cases g <;> cases c
            all_goals
              go_wp2_with (first
                | (go_at_call 21; refine (implUnfold_is x q j _ hx1 (hw.below' hbr) (hd.below' hbr) _ _ HZ.out HC.out).mono ?_; rintro e w4 ⟨rfl, hb4'⟩; have hb4 := hbr.trans (hb4'.mono hbr.size)))
              go_roundw
              case rel => exact ⟨j + 1, _, by go_num, rfl, by omega, (fun h => by first | rfl | exact HG2.out (by omega)), hb4⟩
              case measure => simp [intOf]; omega
        · obtain rfl : j = 8 := by omega
          obtain rfl : g = true := HG.out (by omega)
          go_wp2
          go_region_held3 (fun _ => True) (first | exact True.intro) (first
            | (go_at_call 12; refine (implAvoidsOk_is x _ hx1 (hd.below' hbr.drew) true HAV.out).mono ?_; rintro e w5 ⟨rfl, hb5'⟩; have hb5 := hbr.drew.trans (hb5'.mono hbr.drew.size))
            | (go_at_call 14; refine (alive_yes _).mono ?_; rintro e w' ⟨rfl, rfl⟩))
          all_goals
            go_wp2
            go_ret
            exact ⟨rfl, hb5⟩
  · have hn' : 1048576 < n := by omega
    go_enter Tryd.func5, Tryd.ntmps5
    go_wp2_with fail
    go_ret
    exact ⟨rfl, Below.refl _ _⟩

end Go.Proofs.YtaafaangfocbcaaDoor.fnUnfoldedOf
