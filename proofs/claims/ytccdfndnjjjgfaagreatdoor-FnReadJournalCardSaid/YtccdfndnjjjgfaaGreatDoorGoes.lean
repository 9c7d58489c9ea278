/-
  Contracts of the reference's GoesOn and CaughtOk.
-/
import Derived.Test.YtccdfndnjjjgfaaGreatDoorUnfold
namespace Go.Proofs.YtccdfndnjjjgfaaGreatDoor
open Go.RowKit

theorem goes_no {l : List UInt8} (h : Tw.avoids l = false) : Tw.goesOn l = [] := by simp [Tw.goesOn, h]
theorem goes_full {l : List UInt8} (h : 40 ≤ l.length) : Tw.goesOn l = [] := by
  unfold Tw.goesOn
  rw [if_neg]
  simp
  omega
theorem goes_yes {l : List UInt8} (h : Tw.avoids l = true) (h40 : l.length < 40) : Tw.goesOn l = Tw.goesTo l 4 := by simp [Tw.goesOn, h, h40]
theorem snoc_data (s : ByteArray) (c : UInt8) : (s ++ (⟨#[c]⟩ : ByteArray)).data.toList = s.data.toList ++ [c] := by simp
theorem goes_len (l : List UInt8) : (Tw.goesOn l).length ≤ 4 := by
  unfold Tw.goesOn
  split
  · exact Tw.goesTo_len l 4
  · simp
theorem goesTo_yes {l : List UInt8} {k : Nat} {c : UInt8} (hc : Tw.order[k]? = some c) (h : Tw.avoids (l ++ [c]) = true) : Tw.str (Tw.goesTo l k) ++ (⟨#[c]⟩ : ByteArray) = Tw.str (Tw.goesTo l (k + 1)) := by
  obtain ⟨hk, e⟩ := List.getElem?_eq_some_iff.1 hc
  have hk4 : k < 4 := hk
  rw [Tw.goesTo_succ l k hk4]
  simp only [e, h, if_true]
  exact Tw.str_append _ [c]
theorem goesTo_not {l : List UInt8} {k : Nat} {c : UInt8} (hc : Tw.order[k]? = some c) (h : Tw.avoids (l ++ [c]) = false) : Tw.goesTo l (k + 1) = Tw.goesTo l k := by
  obtain ⟨hk, e⟩ := List.getElem?_eq_some_iff.1 hc
  have hk4 : k < 4 := hk
  rw [Tw.goesTo_succ l k hk4]
  simp [e, h]



theorem caught_eq (l : List UInt8) (b : Bool) (hb : (Tw.goesOn l).isEmpty = b) : Tw.caught l = (Tw.avoids l && decide (l.length < 40) && b) := by rw [← hb]; rfl


end Go.Proofs.YtccdfndnjjjgfaaGreatDoor
