/-
  A desk that came in: what it holds, and how its walks of before lie.
-/
import Derived.Test.YtbaakapnbginoaaDoorLaw
import Derived.Test.YtbaakapnbginoaaDoorDeskAt
import Derived.SliceStrings
import Derived.Lib.SmallJoins
namespace Go.Proofs.YtbaakapnbginoaaDoor
open Go.ChangeShapes Go.WideShapes Go.ChangeAt Go.RowKit Go.WideMaps Go.WideElems

set_option maxRecDepth 100000 in
theorem open_desk {H : Type} {enc : TypeId × Value → H} {W : World} {base : Nat} {spare : Nat → Bool} {held : Bool} {r : Reach} {b0 : Nat} {v : Value} {d : DataW H} {p : List MemPlace} (hv : Value.okWide Tryd.prog W r b0 35 v) (h : DataW.Trod enc Tryd.prog W base spare held 35 v d p) :
    ∃ (s : ByteArray) (vv : Value) (zs : List ByteArray), v = .agg #[.string s, vv] ∧ StrsAt W vv zs ∧ s.size ≤ 9223372036854775807 ∧ zs.length ≤ 9223372036854775807 ∧ ∀ z ∈ zs, z.size ≤ 9223372036854775807 := by
  obtain ⟨v0, v1, y0, y1, n, rfl, _, _, h0, h1⟩ := Go.Joins.open_agg2 Tryd.underlying35 (by kernel_rfl) (by kernel_rfl) hv h
  obtain ⟨s, hs, _, hs1⟩ := DataW.trod_string Tryd.underlying9 h0
  obtain rfl : v0 = .string s := by simpa using hs
  rcases open_strings Tryd.underlying33 Tryd.underlying9 (by kernel_rfl) h1 with ⟨hv1, _⟩ | ⟨a, len, cap, ss, hv1, _, hl, hm, hlen, _, hc, hss⟩
  · obtain rfl : v1 = .slice none 0 0 := by simpa using hv1
    exact ⟨s, _, [], rfl, .inl ⟨rfl, rfl⟩, by unfold maxLen at hs1; omega, by simp, by simp⟩
  · obtain rfl : v1 = .slice (some a) len cap := by simpa using hv1
    have hle : len ≤ ss.length := by rw [hlen]; split <;> omega
    have hlt : (ss.take len).length = len := by rw [List.length_take]; omega
    refine ⟨s, _, ss.take len, rfl, .inr ⟨a, cap, by rw [hlt], by rw [hlt]; exact hl, fun j z hz => ?_⟩, by unfold maxLen at hs1; omega, by rw [hlt]; unfold maxLen at hm; omega, fun z hz => ?_⟩
    · rw [List.getElem?_take] at hz
      split at hz
      · have hj := (List.getElem?_eq_some_iff.1 hz).1
        have := hc j hj
        rwa [List.getD, hz, Option.getD_some] at this
      · cases hz
    · have := hss z (List.mem_of_mem_take hz)
      unfold maxLen at this
      omega

end Go.Proofs.YtbaakapnbginoaaDoor
