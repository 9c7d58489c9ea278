/-
  Plain law: walks have few ways that leave them.
-/
import Derived.Test.YtaafaangfocbcaaDoorSame
import Derived.Test.YtaafaangfocbcaaDoorCaughtPure
namespace Go.Proofs.YtaafaangfocbcaaDoor
namespace Tw

def isEast (c : UInt8) : Bool := c == 101 || c == 119
def hasEast (l : List UInt8) : Bool := l.any isEast
def hasNorth (l : List UInt8) : Bool := l.any fun c => !isEast c
def keeps (i : Nat) (l : List UInt8) : Bool := l.all fun c => wayLetter i c == c
theorem keeps_letter {i : Nat} (hi : i < 8) {c : UInt8} (hc : 0 ≤ dir c) : (wayLetter i c == c) = if isEast c then (i == 0 || i == 4) else (i == 0 || i == 6) := by
  have h : (List.range 8).all (fun i => order.all fun c => (wayLetter (i : Int) c == c) == if isEast c then (i == 0 || i == 4) else (i == 0 || i == 6)) = true := by decide
  have h1 := List.all_eq_true.1 h i (List.mem_range.2 hi)
  have h2 := List.all_eq_true.1 h1 c (in_order hc)
  simpa using h2
theorem keeps_eq {i : Nat} (hi : i < 8) : ∀ {l : List UInt8}, valid l → keeps i l = ((!hasEast l || (i == 0 || i == 4)) && (!hasNorth l || (i == 0 || i == 6)))
  | [], _ => rfl
  | c :: l, hv => by
    have ih := keeps_eq hi (l := l) fun d hd => hv d (by simp [hd])
    have hc := keeps_letter hi (hv c (by simp))
    have e1 : keeps i (c :: l) = ((wayLetter i c == c) && keeps i l) := rfl
    have e2 : hasEast (c :: l) = (isEast c || hasEast l) := rfl
    have e3 : hasNorth (c :: l) = (!isEast c || hasNorth l) := rfl
    rw [e1, e2, e3, hc, ih]
    cases isEast c <;> cases hasEast l <;> cases hasNorth l <;> cases (i == 0) <;> cases (i == 4) <;> cases (i == 6) <;> rfl
theorem inWay_keeps {l : List UInt8} (h : walkOk l = true) {i : Nat} (hi : i < 8) : (inWay l i == l) = keeps i l := by
  rw [inWay_eq h (by omega) (by omega)]
  unfold wayList keeps
  rw [Bool.eq_iff_iff, beq_iff_eq, List.all_eq_true]
  constructor
  · intro e c hc
    obtain ⟨k, hk, rfl⟩ := List.getElem_of_mem hc
    have := List.getElem_of_eq e (i := k) (by simpa using hk)
    simpa using this
  · intro e
    exact (List.map_congr_left fun c hc => by simpa using e c hc).trans (List.map_id l)
theorem same_eq {l : List UInt8} (h : walkOk l = true) : sameTo l 8 = ((List.range 8).filter fun i => (!hasEast l || (i == 0 || i == 4)) && (!hasNorth l || (i == 0 || i == 6))).length := by
  have hv := ((walkOk_iff l).1 h).2
  unfold sameTo
  congr 1
  refine List.filter_congr fun i hi => ?_
  have hi8 := List.mem_range.1 hi
  rw [inWay_keeps h hi8, keeps_eq hi8 hv]
theorem same_none {l : List UInt8} (h : walkOk l = true) (he : hasEast l = false) (hn : hasNorth l = false) : sameTo l 8 = 8 := by rw [same_eq h, he, hn]; rfl
theorem same_two {l : List UInt8} (h : walkOk l = true) (hx : hasEast l ≠ hasNorth l) : sameTo l 8 = 2 := by
  rw [same_eq h]
  cases he : hasEast l <;> cases hn : hasNorth l
  · exact absurd (he.trans hn.symm) hx
  · rfl
  · rfl
  · exact absurd (he.trans hn.symm) hx
theorem same_one {l : List UInt8} (h : walkOk l = true) (he : hasEast l = true) (hn : hasNorth l = true) : sameTo l 8 = 1 := by rw [same_eq h, he, hn]; rfl
theorem hasEast_take {l : List UInt8} {k : Nat} (hk : k < l.length) : hasEast (l.take (k + 1)) = (hasEast (l.take k) || isEast l[k]) := by
  unfold hasEast
  rw [take_snoc _ _ hk, List.any_append]
  simp
theorem hasNorth_take {l : List UInt8} {k : Nat} (hk : k < l.length) : hasNorth (l.take (k + 1)) = (hasNorth (l.take k) || !isEast l[k]) := by
  unfold hasNorth
  rw [take_snoc _ _ hk, List.any_append]
  simp

end Tw
end Go.Proofs.YtaafaangfocbcaaDoor
