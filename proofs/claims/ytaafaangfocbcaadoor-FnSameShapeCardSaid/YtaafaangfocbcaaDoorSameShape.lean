/-
  Contracts of SameShape (both).
-/
import Derived.Test.YtaafaangfocbcaaDoorFirstOf
import Derived.Test.YtaafaangfocbcaaDoorFirstSpec
namespace Go.Proofs.YtaafaangfocbcaaDoor
open Go.RowKit

theorem eq_strs (X : List UInt8) (s : ByteArray) : ((Tw.str X).toList == s.toList) = (X == s.data.toList) := by
  rw [Lib.toList_data, Lib.toList_data]
  rfl
def sameShape (l m : List UInt8) : Bool := Tw.closed l && Tw.closed m && (firstRes l == firstRes m)

set_option maxHeartbeats 800000 in
theorem implSameShape (s t : ByteArray) (w : World) (hs : s.size ≤ 1048576) (ht : t.size ≤ 1048576) (hw : WaysAt w) (hd : DirsAt w) :
    Calls Tryd.prog 38 #[.string s, .string t] w fun e w' => e = .returned (.bool (sameShape s.data.toList t.data.toList)) ∧ Below w.heap.size w w' := by
  have h1 := fun W => implFirstOf s W hs
  have h2 := fun W => implFirstOf t W ht
  obtain ⟨c, hc⟩ : ∃ c, sameShape s.data.toList t.data.toList = c := ⟨_, rfl⟩
  rw [hc]
  unfold sameShape at hc
  have he := eq_strs (firstRes s.data.toList) (Tw.str (firstRes t.data.toList))
  rw [Tw.str_data] at he
  rw [← he] at hc
  clear he
  obtain ⟨x, hx⟩ : ∃ x, Tw.str (firstRes s.data.toList) = x := ⟨_, rfl⟩
  obtain ⟨y, hy⟩ : ∃ y, Tw.str (firstRes t.data.toList) = y := ⟨_, rfl⟩
  rw [hx] at h1 hc
  rw [hy] at h2 hc
  have H1 := Lib.hid h1
  have H2 := Lib.hid h2
  clear h1 h2 hx hy
  cases ha : Tw.closed s.data.toList <;> cases hb : Tw.closed t.data.toList
  all_goals
    rw [ha, hb] at hc
    have HA := Lib.hid ha
    have HB := Lib.hid hb
    have HCC := Lib.hid hc
    clear ha hb hc
    go_enter Tryd.func38, Tryd.ntmps38
    go_wp2_with (first
      | (go_at_call 34; first | (have hq := hb1; refine (H2.out _ (hw.below' hb1) (hd.below' hb1)).mono ?_; rw [HB.out]; rintro e w2 ⟨rfl, hb2⟩) | (refine (H1.out _ hw hd).mono ?_; rw [HA.out]; rintro e w1 ⟨rfl, hb1⟩)))
    go_ret
    exact ⟨ret_bool (by rw [← HCC.out]; simp), hb1.trans (hb2.mono hb1.size)⟩

set_option maxHeartbeats 800000 in
theorem specSameShape (s t : ByteArray) (w : World) (hs : s.size ≤ 1048576) (ht : t.size ≤ 1048576) :
    Calls Tryd.prog 39 #[.string s, .string t] w fun e w' => e = .returned (.bool (sameShape s.data.toList t.data.toList)) ∧ Below w.heap.size w w' := by
  have h1 := fun W => specFirstOf s W hs
  have h2 := fun W => specFirstOf t W ht
  obtain ⟨c, hc⟩ : ∃ c, sameShape s.data.toList t.data.toList = c := ⟨_, rfl⟩
  rw [hc]
  unfold sameShape at hc
  have he := eq_strs (firstRes s.data.toList) (Tw.str (firstRes t.data.toList))
  rw [Tw.str_data] at he
  rw [← he] at hc
  clear he
  obtain ⟨x, hx⟩ : ∃ x, Tw.str (firstRes s.data.toList) = x := ⟨_, rfl⟩
  obtain ⟨y, hy⟩ : ∃ y, Tw.str (firstRes t.data.toList) = y := ⟨_, rfl⟩
  rw [hx] at h1 hc
  rw [hy] at h2 hc
  have H1 := Lib.hid h1
  have H2 := Lib.hid h2
  clear h1 h2 hx hy
  cases ha : Tw.closed s.data.toList <;> cases hb : Tw.closed t.data.toList
  all_goals
    rw [ha, hb] at hc
    have HA := Lib.hid ha
    have HB := Lib.hid hb
    have HCC := Lib.hid hc
    clear ha hb hc
    go_enter Tryd.func39, Tryd.ntmps39
    go_wp2_with (first
      | (go_at_call 35; first | (have hq := hb1; refine (H2.out _).mono ?_; rw [HB.out]; rintro e w2 ⟨rfl, hb2⟩) | (refine (H1.out _).mono ?_; rw [HA.out]; rintro e w1 ⟨rfl, hb1⟩)))
    go_ret
    exact ⟨ret_bool (by rw [← HCC.out]; simp), hb1.trans (hb2.mono hb1.size)⟩

end Go.Proofs.YtaafaangfocbcaaDoor
