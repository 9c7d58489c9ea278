/-
  Contracts of BackWalk (both).
-/
import Derived.Test.YtjcagkpolfacpaaDoorWaysImpl
import Derived.Test.YtjcagkpolfacpaaDoorSteps
import Derived.Test.YtjcagkpolfacpaaDoorShapePure
namespace Go.Proofs.YtjcagkpolfacpaaDoor
open Go.RowKit

theorem back_no {l : List UInt8} (h : Tw.walkOk l = false) : Tw.backWalk l = [] := by simp [Tw.backWalk, h]
theorem back_yes {l : List UInt8} (h : Tw.walkOk l = true) : Tw.backWalk l = Tw.backList l := Tw.backWalk_eq h
/-- The way back of the steps from k on. -/
theorem backList_drop (l : List UInt8) (k : Nat) (h : k < l.length) : Tw.backList (l.drop k) = Tw.backList (l.drop (k + 1)) ++ [Tw.backLetter l[k]] := by
  unfold Tw.backList
  rw [List.drop_eq_getElem_cons h, List.reverse_cons, List.map_append]
  rfl
theorem letter_at (d : Int) (h0 : 0 ≤ d) (h3 : d ≤ 3) (h : d.toNat < (⟨#[101, 110, 119, 115]⟩ : ByteArray).size) : (⟨#[101, 110, 119, 115]⟩ : ByteArray)[d.toNat] = Tw.letter d := by
  obtain rfl | rfl | rfl | rfl : d = 0 ∨ d = 1 ∨ d = 2 ∨ d = 3 := by omega
  all_goals rfl



end Go.Proofs.YtjcagkpolfacpaaDoor
