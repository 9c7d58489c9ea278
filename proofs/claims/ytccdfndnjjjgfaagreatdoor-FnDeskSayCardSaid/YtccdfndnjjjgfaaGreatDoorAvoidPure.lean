/-
  Plain mathematics of walks that avoid themselves: one step more, unfolded walks.
-/
import Derived.Test.YtccdfndnjjjgfaaGreatDoorPlacePure
namespace Go.Proofs.YtccdfndnjjjgfaaGreatDoor
namespace Tw

theorem placeAt_append (l : List UInt8) (c : UInt8) (k : Nat) (h : k ≤ l.length) : placeAt (l ++ [c]) k = placeAt l k := by
  unfold placeAt
  rw [List.take_append_of_le_length h]
theorem places_snoc (l : List UInt8) (c : UInt8) : places (l ++ [c]) = places l ++ [step (endOf l) c] := by
  unfold places
  rw [List.length_append, List.length_singleton, placesTo_succ]
  congr 1
  · unfold placesTo
    exact List.map_congr_left fun k hk => placeAt_append l c k (by have := List.mem_range.1 hk; omega)
  · unfold placeAt
    rw [List.take_of_length_le (by simp)]
    unfold endOf
    rw [List.foldl_append]
    rfl
theorem noTwice_snoc (ps : List (Int × Int)) (q : Int × Int) : noTwice (ps ++ [q]) = (noTwice ps && !(ps.contains q)) := by
  unfold noTwice
  rw [Bool.eq_iff_iff, decide_eq_true_iff, List.nodup_append]
  simp
  intro _
  constructor
  · intro h hq
    exact h _ _ hq rfl
  · intro h a b hab e
    rw [← e] at h
    exact h hab
theorem walkOk_snoc {l : List UInt8} {c : UInt8} (h : walkOk l = true) (hl : l.length < 40) (hc : 0 ≤ dir c) : walkOk (l ++ [c]) = true := by
  unfold walkOk letters at *
  simp at *
  exact ⟨by omega, h.2, hc⟩
theorem avoids_ok {l : List UInt8} (h : avoids l = true) : walkOk l = true := by
  unfold avoids at h
  rw [Bool.and_eq_true] at h
  exact h.1
theorem avoids_snoc {l : List UInt8} {c : UInt8} (h : avoids l = true) (hl : l.length < 40) (hc : 0 ≤ dir c) : avoids (l ++ [c]) = !((places l).contains (step (endOf l) c)) := by
  unfold avoids at *
  rw [Bool.and_eq_true] at h
  rw [walkOk_snoc h.1 hl hc, places_snoc, noTwice_snoc, h.2]
  simp

/-- The letters of steps in the order of bytes. -/
def order : List UInt8 := [101, 110, 115, 119]
def goesTo (l : List UInt8) (k : Nat) : List UInt8 := (order.take k).filter fun c => avoids (l ++ [c])
def goesOn (l : List UInt8) : List UInt8 := if avoids l && decide (l.length < 40) then goesTo l 4 else []
def caught (l : List UInt8) : Bool := avoids l && decide (l.length < 40) && (goesOn l).isEmpty
theorem goesTo_succ (l : List UInt8) (k : Nat) (h : k < 4) : goesTo l (k + 1) = goesTo l k ++ if avoids (l ++ [order[k]'(by simpa [order] using h)]) = true then [order[k]'(by simpa [order] using h)] else [] := by
  unfold goesTo
  rw [take_snoc _ _ (by simpa [order] using h), List.filter_append]
  congr 1
  cases hx : avoids (l ++ [order[k]'(by simpa [order] using h)]) <;> simp [hx]
theorem goesTo_len (l : List UInt8) (k : Nat) : (goesTo l k).length ≤ 4 := by
  unfold goesTo
  have h1 := List.length_filter_le (fun c => avoids (l ++ [c])) (order.take k)
  have h2 : (order.take k).length ≤ 4 := by simp [order]; omega
  omega
theorem order_dir {k : Nat} (h : k < 4) : 0 ≤ dir (order[k]'(by simpa [order] using h)) := by
  obtain rfl | rfl | rfl | rfl : k = 0 ∨ k = 1 ∨ k = 2 ∨ k = 3 := by omega
  · exact (by decide : (0 : Int) ≤ dir 101)
  · exact (by decide : (0 : Int) ≤ dir 110)
  · exact (by decide : (0 : Int) ≤ dir 115)
  · exact (by decide : (0 : Int) ≤ dir 119)

def unfoldAt (l : List UInt8) (p : Nat) (way : Int) : List UInt8 := l.take p ++ inWay (l.drop p) way
def unfolds (l : List UInt8) (p way : Int) : Bool := avoids l && decide (0 ≤ p) && decide (p ≤ l.length) && decide (0 ≤ way) && decide (way ≤ 7)
def unfolded (l : List UInt8) (p way : Int) : List UInt8 := if unfolds l p way && avoids (unfoldAt l p.toNat way) then unfoldAt l p.toNat way else []
def unfoldedOk (l : List UInt8) (p way : Int) : Bool := unfolds l p way && avoids (unfoldAt l p.toNat way)

end Tw
end Go.Proofs.YtccdfndnjjjgfaaGreatDoor
