/-
  A deed that came in: its two numbers.
-/
import Derived.Test.YtbaakapnbginoaaDoorLaw
import Derived.Lib.SmallJoins
namespace Go.Proofs.YtbaakapnbginoaaDoor
open Go.ChangeShapes Go.WideShapes Go.ChangeAt Go.RowKit Go.WideMaps Go.WideElems

set_option maxRecDepth 100000 in
theorem open_deed {H : Type} {enc : TypeId × Value → H} {W : World} {base : Nat} {spare : Nat → Bool} {held : Bool} {r : Reach} {b0 : Nat} {v : Value} {d : DataW H} {p : List MemPlace} (hv : Value.okWide Tryd.prog W r b0 36 v) (h : DataW.Trod enc Tryd.prog W base spare held 36 v d p) :
    ∃ k n : Int, v = .agg #[.int .i64 k, .int .i64 n] ∧ (-9223372036854775808 ≤ k ∧ k ≤ 9223372036854775807) ∧ (-9223372036854775808 ≤ n ∧ n ≤ 9223372036854775807) := by
  obtain ⟨v0, v1, y0, y1, n, rfl, _, _, h0, h1⟩ := Go.Joins.open_agg2 Tryd.underlying36 (by kernel_rfl) (by kernel_rfl) hv h
  obtain ⟨k, hk, _, z0⟩ := DataW.trod_int Tryd.underlying3 h0
  obtain rfl : v0 = .int .i64 k := by simpa using hk
  obtain ⟨m, hm, _, z1⟩ := DataW.trod_int Tryd.underlying3 h1
  obtain rfl : v1 = .int .i64 m := by simpa using hm
  exact ⟨k, m, rfl, bounds_i64 z0, bounds_i64 z1⟩

end Go.Proofs.YtbaakapnbginoaaDoor
