/-
  Contracts of InWay (both), l10Letter, WaysSame (both).
-/
import Derived.Test.YtjcagkpolfacpaaBase
import Derived.Maps.AppendAt
import Derived.Deep.RegionHeld3
import Derived.Deep.AppendLies
namespace Go.Proofs.Ytjcagkpolfacpaa
open Go.RowKit

theorem letter_cut (k : Int) (h0 : 0 ≤ k) (h3 : k ≤ 3) : (⟨#[101, 110, 119, 115]⟩ : ByteArray).extract k.toNat (k + 1).toNat = ⟨#[Tw.letter k]⟩ := by
  obtain rfl | rfl | rfl | rfl : k = 0 ∨ k = 1 ∨ k = 2 ∨ k = 3 := by omega
  all_goals decide


theorem inWay_yes {l : List UInt8} {way : Int} (hok : Tw.walkOk l = true) (h0 : 0 ≤ way) (h7 : way ≤ 7) : Tw.inWay l way = l.map (Tw.wayLetter way) := by
  simp [Tw.inWay, hok, h0, h7]
theorem inWay_no {l : List UInt8} {way : Int} (h : ¬ (Tw.walkOk l = true ∧ 0 ≤ way ∧ way ≤ 7)) : Tw.inWay l way = [] := by
  unfold Tw.inWay
  rw [if_neg]
  simpa [and_assoc] using h

theorem snoc_way (s : ByteArray) (way : Int) (k : Nat) (h : k < s.size) :
    Tw.str ((s.data.toList.take k).map (Tw.wayLetter way)) ++ (⟨#[Tw.wayLetter way s[k]]⟩ : ByteArray) = Tw.str ((s.data.toList.take (k + 1)).map (Tw.wayLetter way)) := by
  rw [show (⟨#[Tw.wayLetter way s[k]]⟩ : ByteArray) = Tw.str [Tw.wayLetter way s[k]] from rfl, Tw.str_append, Tw.take_snoc _ k (by rw [size_data]; exact h), List.map_append]
  rfl


end Go.Proofs.Ytjcagkpolfacpaa
