/-
  Contracts of FirstOf: firstKept, the reference, the program.
-/
import Derived.Test.YtccdfndnjjjgfaaGreatDoorMoved
import Derived.Test.YtccdfndnjjjgfaaGreatDoorBack
import Derived.Test.YtccdfndnjjjgfaaGreatDoorFirstPure
import Derived.Lib.MinMaxS
namespace Go.Proofs.YtccdfndnjjjgfaaGreatDoor
open Go.RowKit

theorem pair_ret {a b : ByteArray} {x y : Bool} (h : a = b) (k : x = y) : Ending.returned (.tuple #[.string a, .bool x]) = .returned (.tuple #[.string b, .bool y]) := by rw [h, k]
def firstRes (l : List UInt8) : List UInt8 := if Tw.closed l then Tw.firstOf l else []
theorem firstRes_no {l : List UInt8} (h : Tw.closed l = false) : firstRes l = [] := by simp [firstRes, h]
theorem firstRes_yes {l : List UInt8} (h : Tw.closed l = true) : firstRes l = Tw.firstOf l := by simp [firstRes, h]

/-! ### the callees at lists -/
theorem ok_few {l : List UInt8} (h : Tw.closed l = true) : (Tw.str l).size ≤ 40 := by
  rw [Tw.str_size]
  exact Tw.walkOk_len (Tw.closed_ok h)
theorem implMoved_at {l : List UInt8} (h : Tw.closed l = true) {k : Nat} (hk : k < l.length) (x : ByteArray) (hx : x = Tw.str l) (w : World) (hw : DirsAt w) :
    Calls Tryz.prog 119 #[.string x, .int .i64 k] w fun e w' => e = .returned (.string (Tw.str (Tw.moved l k))) ∧ Below w.heap.size w w' := by
  subst hx
  have h1 := implMovedOn (Tw.str l) k w (by have := ok_few h; omega) hw
  rw [Tw.str_data, Tw.movedOn_eq h hk] at h1
  exact h1
theorem specMoved_at {l : List UInt8} (h : Tw.closed l = true) {k : Nat} (hk : k < l.length) (x : ByteArray) (hx : x = Tw.str l) (w : World) :
    Calls Tryz.prog 137 #[.string x, .int .i64 k] w fun e w' => e = .returned (.string (Tw.str (Tw.moved l k))) ∧ Below w.heap.size w w' := by
  subst hx
  have h40 := ok_few h
  have h1 := specMovedOn (Tw.str l) k w (by omega) (by rw [Tw.str_size] at h40; omega)
  rw [Tw.str_data, Tw.movedOn_eq h hk] at h1
  exact h1
theorem implWay_at {l : List UInt8} (h : Tw.walkOk l = true) {way : Nat} (h7 : way < 8) (x : ByteArray) (hx : x = Tw.str l) (w : World) (hw : WaysAt w) :
    Calls Tryz.prog 118 #[.string x, .int .i64 way] w fun e w' => e = .returned (.string (Tw.str (Tw.wayList way l))) ∧ Below w.heap.size w w' := by
  subst hx
  have h1 := implInWay (Tw.str l) way w (by rw [Tw.str_size]; have := Tw.walkOk_len h; omega) hw
  rw [Tw.str_data, Tw.inWay_eq h (by omega) (by omega)] at h1
  exact h1
theorem specWay_at {l : List UInt8} (h : Tw.walkOk l = true) {way : Nat} (h7 : way < 8) (x : ByteArray) (hx : x = Tw.str l) (w : World) :
    Calls Tryz.prog 136 #[.string x, .int .i64 way] w fun e w' => e = .returned (.string (Tw.str (Tw.wayList way l))) ∧ w = w' := by
  subst hx
  have h1 := specInWay (Tw.str l) way w (by rw [Tw.str_size]; have := Tw.walkOk_len h; omega)
  rw [Tw.str_data, Tw.inWay_eq h (by omega) (by omega)] at h1
  exact h1
theorem implBack_at {l : List UInt8} (h : Tw.walkOk l = true) (x : ByteArray) (hx : x = Tw.str l) (w : World) :
    Calls Tryz.prog 145 #[.string x] w fun e w' => e = .returned (.string (Tw.str (Tw.backList l))) ∧ Below w.heap.size w w' := by
  subst hx
  have h1 := implBackWalk (Tw.str l) w (by rw [Tw.str_size]; have := Tw.walkOk_len h; omega)
  rw [Tw.str_data, Tw.backWalk_eq h] at h1
  exact h1
theorem specBack_at {l : List UInt8} (h : Tw.walkOk l = true) (x : ByteArray) (hx : x = Tw.str l) (w : World) :
    Calls Tryz.prog 158 #[.string x] w fun e w' => e = .returned (.string (Tw.str (Tw.backList l))) ∧ w = w' := by
  subst hx
  have h1 := specBackWalk (Tw.str l) w (by rw [Tw.str_size]; have := Tw.walkOk_len h; omega)
  rw [Tw.str_data, Tw.backWalk_eq h] at h1
  exact h1

/-! ### the kept first -/
theorem minS_str (a b : List UInt8) : Lib.minS (Tw.str a) (Tw.str b) = Tw.str (Tw.minL a b) := by
  by_cases h : a < b ∨ a = b
  · have h1 : Lib.minS (Tw.str a) (Tw.str b) = Tw.str a := if_pos h
    rw [h1]
    exact congrArg Tw.str (if_pos h).symm
  · have h1 : Lib.minS (Tw.str a) (Tw.str b) = Tw.str b := if_neg h
    rw [h1]
    exact congrArg Tw.str (if_neg h).symm
/-- The kept walk lies in block g. -/
def KeptAt (w : World) (g : Nat) (l : List UInt8) : Prop := w.heap[g]? = some (.cells #[.string (Tw.str l)] 9 (0, 0))
theorem KeptAt.below {w w' : World} {B g : Nat} {l : List UInt8} (h : KeptAt w g l) (hb : Below B w w') (hg : g < B) : KeptAt w' g l := (hb.block _ hg).trans h
theorem KeptAt.lt {w : World} {g : Nat} {l : List UInt8} (h : KeptAt w g l) : g < w.heap.size := lt_of_heap h
theorem KeptAt.set {w : World} {g : Nat} {l : List UInt8} (h : KeptAt w g l) (m : List UInt8) : KeptAt (w.setCell ⟨g, 0, none⟩ (.string (Tw.str m))) g m := by
  unfold KeptAt at *
  simp [World.setCell, Array.getElem?_modify, h]

set_option maxHeartbeats 400000 in
theorem keptFirst_any (g : Nat) (l m : List UInt8) (w : World) (h : KeptAt w g l) :
    Calls Tryz.prog 167 #[.string (Tw.str m), .pointer (some ⟨g, 0, none⟩)] w fun e w' => e = .returned (.string (Tw.str (Tw.minL l m))) ∧ (w' = w.setCell ⟨g, 0, none⟩ (.string (Tw.str (Tw.minL l m)))) := by
  have c0 : w.cell? ⟨g, 0, none⟩ = some (.string (Tw.str l)) := cell_of_row _ _ _ _ _ _ h
  have f0 : w.frozen? ⟨g, 0, none⟩ = false := frozen_of_row _ _ 0 _ _ h
  have hmin := fun (ts : Array TypeId) (t : TypeId) => Lib.run_min_strs (P := Tryz.prog) w ts t (Tw.str l) (Tw.str m)
  have c1 : (w.setCell ⟨g, 0, none⟩ (.string (Tw.str (Tw.minL l m)))).cell? ⟨g, 0, none⟩ = some (.string (Tw.str (Tw.minL l m))) := cell_of_row _ _ _ _ _ _ (h.set _)
  rw [minS_str] at hmin
  clear h
  go_enter Tryz.func167, Tryz.ntmps167
  go_wp2
  go_ret
  exact ⟨rfl, rfl⟩

set_option maxHeartbeats 400000 in
theorem firstKept_any (s : ByteArray) (w : World) :
    Calls Tryz.prog 144 #[.string s] w fun e w' => e = .returned (.func (.func 167) #[] #[.pointer (some ⟨w.heap.size, 0, none⟩)]) ∧ (w' = w.alloc (.cells #[.string s] 9)) := by
  have hmf : ∀ (fn : Fn) (first cap : Array Value) (w : World), (Instr.makeFunc fn first cap).run Tryz.prog w = .ok (.func fn first cap) w := fun _ _ _ _ => rfl
  go_enter Tryz.func144, Tryz.ntmps144
  go_wp2
  go_ret
  exact ⟨rfl, rfl⟩

end Go.Proofs.YtccdfndnjjjgfaaGreatDoor
