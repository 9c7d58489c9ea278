/-
  A slice of deeds that came in.
-/
import Derived.Test.YtbaakapnbginoaaDoorLaw
import Derived.Test.YtbaakapnbginoaaDoorDeeds
import Derived.Deep.SlicePairs
namespace Go.Proofs.YtbaakapnbginoaaDoor
open Go.ChangeShapes Go.WideShapes Go.ChangeAt Go.RowKit Go.WideMaps Go.WideElems

set_option maxRecDepth 100000 in
theorem open_deeds2 {H : Type} {enc : TypeId × Value → H} {W : World} {base : Nat} {spare : Nat → Bool} {held : Bool} {r : Reach} {b0 : Nat} {v : Value} {d : DataW H} {p : List MemPlace} (hv : Value.okWide Tryd.prog W r b0 46 v) (h : DataW.Trod enc Tryd.prog W base spare held 46 v d p) :
    ∃ es : List (Int × Int), DeedsAt W v es ∧ es.length ≤ 9223372036854775807 ∧ ∀ d ∈ es, -9223372036854775808 ≤ d.2 ∧ d.2 ≤ 9223372036854775807 := by
  obtain ⟨a0, l0, c0, rfl⟩ := okWide_slice Tryd.underlying46 hv
  obtain ⟨fuel, hf⟩ := h
  rcases Go.Deep.open_slice_pairs Tryd.underlying46 Tryd.underlying36 (by kernel_rfl) rfl rfl (by kernel_rfl) (by kernel_rfl) hf with ⟨hv1, _⟩ | ⟨a, len, cap, m, n, V0, V1, D0, D1, P0, P1, hv1, _, hl, hm, hmm, _, hc⟩
  · simp [Value.cells] at hv1
    obtain ⟨rfl, rfl, rfl⟩ := hv1
    exact ⟨[], .inl ⟨rfl, rfl⟩, by simp, by simp⟩
  · simp [Value.cells] at hv1
    obtain ⟨rfl, rfl, rfl⟩ := hv1
    have hlm : l0 ≤ m := by rw [hmm]; split <;> omega
    have hel : ((List.range l0).map fun i => (intOf (V0 i), intOf (V1 i))).length = l0 := by simp
    refine ⟨(List.range l0).map fun i => (intOf (V0 i), intOf (V1 i)), .inr ⟨a, c0, by rw [hel], by rw [hel]; exact hl, fun j e he => ?_⟩, by rw [hel]; unfold maxLen at hm; omega, fun e he => ?_⟩
    · have hj : j < l0 := by
        have := (List.getElem?_eq_some_iff.1 he).1
        rwa [hel] at this
      obtain ⟨k0, k1, t0, t1⟩ := hc j (by omega)
      obtain ⟨x, hx, _, _⟩ := DataW.trod_int Tryd.underlying3 t0
      obtain ⟨y, hy, _, _⟩ := DataW.trod_int Tryd.underlying3 t1
      have hx' : V0 j = .int .i64 x := by simpa using hx
      have hy' : V1 j = .int .i64 y := by simpa using hy
      rw [List.getElem?_map, List.getElem?_range hj] at he
      obtain rfl := Option.some.inj he
      rw [add_next] at k1
      rw [hx'] at k0
      rw [hy'] at k1
      simp only [hx', hy']
      exact ⟨k0, k1⟩
    · obtain ⟨j, hj, rfl⟩ := List.mem_map.1 he
      have hj2 : j < l0 := List.mem_range.1 hj
      obtain ⟨_, _, _, t1⟩ := hc j (by omega)
      obtain ⟨y, hy, _, z1⟩ := DataW.trod_int Tryd.underlying3 t1
      have hy' : V1 j = .int .i64 y := by simpa using hy
      simp only [hy']
      exact bounds_i64 z1
set_option maxRecDepth 100000 in
theorem open_deeds {H : Type} {enc : TypeId × Value → H} {W : World} {base : Nat} {spare : Nat → Bool} {held : Bool} {r : Reach} {b0 : Nat} {v : Value} {d : DataW H} {p : List MemPlace} (hv : Value.okWide Tryd.prog W r b0 46 v) (h : DataW.Trod enc Tryd.prog W base spare held 46 v d p) :
    ∃ es : List (Int × Int), DeedsAt W v es ∧ es.length ≤ 9223372036854775807 := by
  obtain ⟨es, h1, h2, _⟩ := open_deeds2 hv h
  exact ⟨es, h1, h2⟩

end Go.Proofs.YtbaakapnbginoaaDoor
