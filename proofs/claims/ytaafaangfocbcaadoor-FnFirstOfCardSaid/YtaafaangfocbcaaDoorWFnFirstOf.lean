/-
  The walk of FnFirstOf: for every code: the first walk is closed, is its own first walk, comes not behind the walk, and its area, without its sign, is that of the walk. No condition beyond what the given statement itself bears.
-/
import Derived.Test.YtaafaangfocbcaaDoorDrawWalks
import Derived.Test.YtaafaangfocbcaaDoorAlive
import Derived.Test.YtaafaangfocbcaaDoorAreaOf
import Derived.Test.YtaafaangfocbcaaDoorFirstOf
import Derived.Test.YtaafaangfocbcaaDoorFirstSpec
import Derived.Test.YtaafaangfocbcaaDoorOpenCode
namespace Go.Proofs.YtaafaangfocbcaaDoor.fnFirstOf
open Go.ChangeShapes Go.WideShapes Go.ChangeAt Go.RowKit Go.WideMaps Go.WideElems
open Go.ChangeMaps (open_string shut_string)

theorem area_bound {l : List UInt8} (h : l.length ≤ 40) : ∀ k, k ≤ l.length → -(40 * (k : Int)) ≤ areaTo l k ∧ areaTo l k ≤ 40 * (k : Int)
  | 0, _ => by
    have : areaTo l 0 = 0 := rfl
    omega
  | k + 1, hk => by
    have ih := area_bound h k (by omega)
    rw [areaTo_succ (by omega)]
    have hp := Tw.placeAt_range l k
    have hn := Tw.north_range (Tw.dir (l[k]'(by omega)))
    obtain hd | hd | hd : Tw.north (Tw.dir (l[k]'(by omega))) = -1 ∨ Tw.north (Tw.dir (l[k]'(by omega))) = 0 ∨ Tw.north (Tw.dir (l[k]'(by omega))) = 1 := by omega
    all_goals
      rw [hd]
      omega
theorem res_bound (l : List UInt8) : -2000 ≤ areaRes l ∧ areaRes l ≤ 2000 := by
  unfold areaRes
  split
  · rename_i hc
    have h40 := Tw.walkOk_len (Tw.closed_ok hc)
    have := area_bound h40 l.length (Nat.le_refl _)
    rw [areaTo_all] at this
    omega
  · omega
theorem sizes {a b : Int} (h : Tw.size a = Tw.size b) : b = a ∨ b = -a := by
  unfold Tw.size at h
  split at h <;> split at h <;> omega
theorem implFirst_is (s : ByteArray) (w : World) (hs : s.size ≤ 1048576) (hw : WaysAt w) (hd : DirsAt w) (x : ByteArray) (b : Bool) (hx : Tw.str (firstRes s.data.toList) = x) (hb : Tw.closed s.data.toList = b) :
    Calls Tryd.prog 34 #[.string s] w fun e w' => e = .returned (.tuple #[.string x, .bool b]) ∧ Below w.heap.size w w' := hx ▸ hb ▸ implFirstOf s w hs hw hd
theorem specFirst_is (s : ByteArray) (w : World) (hs : s.size ≤ 1048576) (x : ByteArray) (b : Bool) (hx : Tw.str (firstRes s.data.toList) = x) (hb : Tw.closed s.data.toList = b) :
    Calls Tryd.prog 35 #[.string s] w fun e w' => e = .returned (.tuple #[.string x, .bool b]) ∧ Below w.heap.size w w' := hx ▸ hb ▸ specFirstOf s w hs
theorem implArea_is (s : ByteArray) (w : World) (hs : s.size ≤ 1048576) (hd : DirsAt w) (a : Int) (b : Bool) (ha : areaRes s.data.toList = a) (hb : Tw.closed s.data.toList = b) :
    Calls Tryd.prog 36 #[.string s] w fun e w' => e = .returned (.tuple #[.int .i64 a, .bool b]) ∧ Below w.heap.size w w' := ha ▸ hb ▸ implAreaOf s w hs hd
theorem implClosed_is (s : ByteArray) (w : World) (hs : s.size ≤ 1048576) (hw : DirsAt w) (b : Bool) (h : Tw.closed s.data.toList = b) :
    Calls Tryd.prog 15 #[.string s] w fun e w' => e = .returned (.bool b) ∧ Below w.heap.size w w' := h ▸ implClosedOk s w hs hw
/-- What is known of the first walk. -/
theorem facts {s x : ByteArray} (hc : Tw.closed s.data.toList = true) (hx : Tw.str (firstRes s.data.toList) = x) :
    x.size = s.size ∧ Tw.closed x.data.toList = true ∧ Tw.str (firstRes x.data.toList) = x ∧ (Op.bytesLess x.toList s.toList || x.toList == s.toList) = true ∧ (areaRes s.data.toList = areaRes x.data.toList ∨ areaRes s.data.toList = -areaRes x.data.toList) := by
  rw [firstRes_yes hc] at hx
  have hxd : x.data.toList = Tw.firstOf s.data.toList := by rw [← hx, Tw.str_data]
  have hsh := Tw.first_shape hc
  have hcx := Tw.closed_shape hc hsh
  refine ⟨?_, by rw [hxd]; exact hcx, ?_, ?_, ?_⟩
  · rw [← size_data x, hxd, Tw.shape_len hsh, size_data]
  · rw [hxd, firstRes_yes hcx, Tw.first_same hc hsh, hx]
  · have hle := Tw.first_least (Tw.shape_self hc)
    rw [← hxd] at hle
    have e1 : Op.bytesLess x.toList s.toList = decide (x.data.toList < s.data.toList) := by rw [Proofs.bytesLess_eq, Lib.toList_data, Lib.toList_data]
    have e2 : (x.toList == s.toList) = decide (x.data.toList = s.data.toList) := by
      rw [Lib.toList_data, Lib.toList_data, Bool.eq_iff_iff]
      simp
    rw [e1, e2]
    by_cases h1 : x.data.toList < s.data.toList
    · simp [h1]
    · have := Tw.le_antisymm' h1 hle
      simp [this]
  · have := Tw.area_shape hc hsh
    apply sizes
    rw [areaRes, areaRes, hc, hxd, hcx, if_pos rfl, if_pos rfl]
    exact this

set_option maxHeartbeats 6400000 in
theorem walk (v : Value) (n : Nat) (w : World) (hw : WaysAt w) (hd : DirsAt w) (h : CodeAt w v n) :
    Calls Tryd.prog 9 #[v] w fun e w' => e = .returned (.bool true) ∧ Below w.heap.size w w' := by
  have hdraw := drawFirstOf v n w h
  have hv : ∃ a cap, v = .slice a n cap := by
    rcases h with ⟨rfl, rfl⟩ | ⟨a, cap, rfl, _⟩
    · exact ⟨_, _, rfl⟩
    · exact ⟨_, _, rfl⟩
  obtain ⟨a, cap, rfl⟩ := hv
  have HD := Lib.hid hdraw
  clear hdraw h
  by_cases hn : n ≤ 1048576
  · go_enter Tryd.func9, Tryd.ntmps9
    go_wp2_with (go_at_call 33; refine HD.out.mono ?_; rintro e w1 ⟨s, rfl, hs, hb1⟩)
    have hs1 : s.size ≤ 1048576 := by omega
    obtain ⟨x, hx⟩ : ∃ x, Tw.str (firstRes s.data.toList) = x := ⟨_, rfl⟩
    cases hc : Tw.closed s.data.toList
    · have hx0 : x = ⟨#[]⟩ := by rw [← hx, firstRes_no hc]; rfl
      subst hx0
      have HX := Lib.hid hx
      have HC := Lib.hid hc
      clear hx hc
      go_wp2_with (first
        | (go_at_call 34; refine (implFirst_is s _ hs1 (hw.below' hb1) (hd.below' hb1) _ _ HX.out HC.out).mono ?_; rintro e w2 ⟨rfl, hb2'⟩; have hb2 := hb1.trans (hb2'.mono hb1.size))
        | (go_at_call 35; refine (specFirst_is s _ hs1 _ _ HX.out HC.out).mono ?_; rintro e w3 ⟨rfl, hb3'⟩; have hb3 := hb2.trans (hb3'.mono hb2.size))
        | (go_at_call 14; refine (alive_yes _).mono ?_; rintro e w' ⟨rfl, rfl⟩))
      go_ret
      exact ⟨rfl, hb3⟩
    · obtain ⟨hxs, hcx, hxx, hle, har⟩ := facts hc hx
      obtain ⟨p, hp⟩ : ∃ p, areaRes x.data.toList = p := ⟨_, rfl⟩
      obtain ⟨q, hq⟩ : ∃ q, areaRes s.data.toList = q := ⟨_, rfl⟩
      have hpb := res_bound x.data.toList
      rw [hp] at hpb
      rw [hp, hq] at har
      obtain ⟨c1, h1⟩ : ∃ c, Op.bytesLess x.toList s.toList = c := ⟨_, rfl⟩
      obtain ⟨c2, h2⟩ : ∃ c, (x.toList == s.toList) = c := ⟨_, rfl⟩
      rw [h1, h2] at hle
      have hx1 : x.size ≤ 1048576 := by omega
      have HX := Lib.hid hx
      have HC := Lib.hid hc
      have HCX := Lib.hid hcx
      have HXX := Lib.hid hxx
      have HP := Lib.hid hp
      have HQ := Lib.hid hq
      clear hx hc hcx hxx hp hq
      go_wp2_with (first
        | (go_at_call 34; first
            | (have hq := hb3; refine (implFirst_is x _ hx1 (hw.below' hb3) (hd.below' hb3) _ _ HXX.out HCX.out).mono ?_; rintro e w4 ⟨rfl, hb4'⟩; have hb4 := hb3.trans (hb4'.mono hb3.size))
            | (refine (implFirst_is s _ hs1 (hw.below' hb1) (hd.below' hb1) _ _ HX.out HC.out).mono ?_; rintro e w2 ⟨rfl, hb2'⟩; have hb2 := hb1.trans (hb2'.mono hb1.size)))
        | (go_at_call 35; refine (specFirst_is s _ hs1 _ _ HX.out HC.out).mono ?_; rintro e w3 ⟨rfl, hb3'⟩; have hb3 := hb2.trans (hb3'.mono hb2.size))
        | (go_at_call 36; first
            | (have hq := hb5; refine (implArea_is s _ hs1 (hd.below' hb5) _ _ HQ.out HC.out).mono ?_; rintro e w6 ⟨rfl, hb6'⟩; have hb6 := hb5.trans (hb6'.mono hb5.size))
            | (refine (implArea_is x _ hx1 (hd.below' hb4) _ _ HP.out HCX.out).mono ?_; rintro e w5 ⟨rfl, hb5'⟩; have hb5 := hb4.trans (hb5'.mono hb4.size)))
        | (go_at_call 15; fail))
      have HH1 := Lib.hid h1
      have HH2 := Lib.hid h2
      clear h1 h2
      have hpos : (0 < p ∧ ¬ p < -p ∧ -p < p) ∨ p = 0 ∨ (p < 0 ∧ p < -p ∧ ¬ -p < p) := by omega
      cases c1 <;> cases c2
      · simp at hle
      all_goals
        have h1 := HH1.out
        have h2 := HH2.out
        clear hle
        rcases har with rfl | rfl <;> rcases hpos with ⟨g0, g1, g2⟩ | rfl | ⟨g0, g1, g2⟩
        all_goals
          go_wp2_with (first
            | (go_at_call 15; refine (implClosed_is x _ hx1 (hd.below' hb6) _ HCX.out).mono ?_; rintro e w7 ⟨rfl, hb7'⟩; have hb7 := hb6.trans (hb7'.mono hb6.size)))
          go_ret
          exact ⟨by first | rfl | exact ret_bool (by rw [Int.max_comm p (-p)]; simp), hb7⟩
  · have hn' : 1048576 < n := by omega
    go_enter Tryd.func9, Tryd.ntmps9
    go_wp2_with fail
    go_ret
    exact ⟨rfl, Below.refl _ _⟩

end Go.Proofs.YtaafaangfocbcaaDoor.fnFirstOf
