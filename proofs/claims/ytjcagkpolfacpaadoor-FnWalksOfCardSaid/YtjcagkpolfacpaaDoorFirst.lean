/-
  Contracts of FirstOf: firstKept, the reference, the program.
-/
import Derived.Test.YtjcagkpolfacpaaDoorMoved
import Derived.Test.YtjcagkpolfacpaaDoorBack
import Derived.Test.YtjcagkpolfacpaaDoorFirstPure
import Derived.Lib.MinMaxS
namespace Go.Proofs.YtjcagkpolfacpaaDoor
open Go.RowKit

theorem pair_ret {a b : ByteArray} {x y : Bool} (h : a = b) (k : x = y) : Ending.returned (.tuple #[.string a, .bool x]) = .returned (.tuple #[.string b, .bool y]) := by rw [h, k]
def firstRes (l : List UInt8) : List UInt8 := if Tw.closed l then Tw.firstOf l else []
theorem firstRes_no {l : List UInt8} (h : Tw.closed l = false) : firstRes l = [] := by simp [firstRes, h]
theorem firstRes_yes {l : List UInt8} (h : Tw.closed l = true) : firstRes l = Tw.firstOf l := by simp [firstRes, h]

/-! ### the callees at lists -/
theorem ok_few {l : List UInt8} (h : Tw.closed l = true) : (Tw.str l).size ≤ 40 := by
  rw [Tw.str_size]
  exact Tw.walkOk_len (Tw.closed_ok h)
theorem implWay_at {l : List UInt8} (h : Tw.walkOk l = true) {way : Nat} (h7 : way < 8) (x : ByteArray) (hx : x = Tw.str l) (w : World) (hw : WaysAt w) :
    Calls Tryd.prog 36 #[.string x, .int .i64 way] w fun e w' => e = .returned (.string (Tw.str (Tw.wayList way l))) ∧ Below w.heap.size w w' := by
  subst hx
  have h1 := implInWay (Tw.str l) way w (by rw [Tw.str_size]; have := Tw.walkOk_len h; omega) hw
  rw [Tw.str_data, Tw.inWay_eq h (by omega) (by omega)] at h1
  exact h1
theorem specWay_at {l : List UInt8} (h : Tw.walkOk l = true) {way : Nat} (h7 : way < 8) (x : ByteArray) (hx : x = Tw.str l) (w : World) :
    Calls Tryd.prog 40 #[.string x, .int .i64 way] w fun e w' => e = .returned (.string (Tw.str (Tw.wayList way l))) ∧ w = w' := by
  subst hx
  have h1 := specInWay (Tw.str l) way w (by rw [Tw.str_size]; have := Tw.walkOk_len h; omega)
  rw [Tw.str_data, Tw.inWay_eq h (by omega) (by omega)] at h1
  exact h1

/-! ### the kept first -/
theorem minS_str (a b : List UInt8) : Lib.minS (Tw.str a) (Tw.str b) = Tw.str (Tw.minL a b) := by
  by_cases h : a < b ∨ a = b
  · have h1 : Lib.minS (Tw.str a) (Tw.str b) = Tw.str a := if_pos h
    rw [h1]
    exact congrArg Tw.str (if_pos h).symm
  · have h1 : Lib.minS (Tw.str a) (Tw.str b) = Tw.str b := if_neg h
    rw [h1]
    exact congrArg Tw.str (if_neg h).symm
/-- The kept walk lies in block g. -/
def KeptAt (w : World) (g : Nat) (l : List UInt8) : Prop := w.heap[g]? = some (.cells #[.string (Tw.str l)] 9 (0, 0))
theorem KeptAt.below {w w' : World} {B g : Nat} {l : List UInt8} (h : KeptAt w g l) (hb : Below B w w') (hg : g < B) : KeptAt w' g l := (hb.block _ hg).trans h
theorem KeptAt.lt {w : World} {g : Nat} {l : List UInt8} (h : KeptAt w g l) : g < w.heap.size := lt_of_heap h
theorem KeptAt.set {w : World} {g : Nat} {l : List UInt8} (h : KeptAt w g l) (m : List UInt8) : KeptAt (w.setCell ⟨g, 0, none⟩ (.string (Tw.str m))) g m := by
  unfold KeptAt at *
  simp [World.setCell, Array.getElem?_modify, h]



end Go.Proofs.YtjcagkpolfacpaaDoor
