/-
  Plain mathematics of places: steps, places of a walk, no place twice.
-/
import Derived.Test.YtccdfndnjjjgfaaGreatDoorPure
namespace Go.Proofs.YtccdfndnjjjgfaaGreatDoor
namespace Tw

def east (d : Int) : Int := if d = 0 then 1 else if d = 2 then -1 else 0
def north (d : Int) : Int := if d = 1 then 1 else if d = 3 then -1 else 0
def step (p : Int × Int) (c : UInt8) : Int × Int := (p.1 + east (dir c), p.2 + north (dir c))
/-- Where a walk ends. -/
def endOf (l : List UInt8) : Int × Int := l.foldl step (0, 0)
/-- Where a walk stands after k steps. -/
def placeAt (l : List UInt8) (k : Nat) : Int × Int := endOf (l.take k)
def placesTo (l : List UInt8) (k : Nat) : List (Int × Int) := (List.range (k + 1)).map (placeAt l)
def places (l : List UInt8) : List (Int × Int) := placesTo l l.length
/-- No place is there twice. -/
def noTwice (ps : List (Int × Int)) : Bool := decide ps.Nodup
def avoids (l : List UInt8) : Bool := walkOk l && noTwice (places l)

theorem placeAt_zero (l : List UInt8) : placeAt l 0 = (0, 0) := by simp [placeAt, endOf]
theorem placeAt_succ (l : List UInt8) (k : Nat) (h : k < l.length) : placeAt l (k + 1) = step (placeAt l k) l[k] := by
  unfold placeAt endOf
  rw [take_snoc l k h, List.foldl_append]
  rfl
theorem placeAt_all (l : List UInt8) : placeAt l l.length = endOf l := by simp [placeAt]
theorem placesTo_length (l : List UInt8) (k : Nat) : (placesTo l k).length = k + 1 := by simp [placesTo]
theorem places_length (l : List UInt8) : (places l).length = l.length + 1 := placesTo_length l _
theorem placesTo_succ (l : List UInt8) (k : Nat) : placesTo l (k + 1) = placesTo l k ++ [placeAt l (k + 1)] := by
  unfold placesTo
  rw [List.range_succ, List.map_append]
  rfl
theorem placesTo_get (l : List UInt8) (k i : Nat) (h : i < k + 1) : (placesTo l k)[i]'(by rw [placesTo_length]; exact h) = placeAt l i := by
  simp [placesTo]
theorem placesTo_get? (l : List UInt8) (k i : Nat) (h : i < k + 1) : (placesTo l k)[i]? = some (placeAt l i) := by
  rw [List.getElem?_eq_getElem (by rw [placesTo_length]; exact h), placesTo_get l k i h]
theorem east_range (d : Int) : -1 ≤ east d ∧ east d ≤ 1 := by unfold east; repeat' split <;> omega
theorem north_range (d : Int) : -1 ≤ north d ∧ north d ≤ 1 := by unfold north; repeat' split <;> omega
theorem placeAt_range (l : List UInt8) (k : Nat) : -(k : Int) ≤ (placeAt l k).1 ∧ (placeAt l k).1 ≤ k ∧ -(k : Int) ≤ (placeAt l k).2 ∧ (placeAt l k).2 ≤ k := by
  induction k with
  | zero => simp [placeAt_zero]
  | succ k ih =>
    by_cases h : k < l.length
    · rw [placeAt_succ l k h]
      unfold step
      have h1 := east_range (dir l[k])
      have h2 := north_range (dir l[k])
      simp only
      omega
    · have e : placeAt l (k + 1) = placeAt l k := by
        unfold placeAt
        rw [List.take_of_length_le (by omega), List.take_of_length_le (by omega)]
      rw [e]
      omega

theorem noTwice_iff {ps : List (Int × Int)} : noTwice ps = true ↔ ∀ i j, i < j → j < ps.length → ps[i]? ≠ ps[j]? := by
  unfold noTwice
  rw [decide_eq_true_iff, List.nodup_iff_pairwise_ne, List.pairwise_iff_getElem]
  constructor
  · intro h i j hij hj e
    rw [List.getElem?_eq_getElem (by omega), List.getElem?_eq_getElem hj] at e
    exact h i j (by omega) hj hij (Option.some.inj e)
  · intro h i j hi hj hij e
    exact h i j hij hj (by rw [List.getElem?_eq_getElem hi, List.getElem?_eq_getElem hj, e])
theorem noTwice_false {ps : List (Int × Int)} {i j : Nat} (hij : i < j) (hj : j < ps.length) (h : ps[i]? = ps[j]?) : noTwice ps = false := by
  rw [Bool.eq_false_iff]
  intro hn
  exact noTwice_iff.1 hn i j hij hj h

end Tw
end Go.Proofs.YtccdfndnjjjgfaaGreatDoor
