/-
  Contracts of UnfoldedOf (both).
-/
import Derived.Test.YtccdfndnjjjgfaaGreatDoorAvoids
import Derived.Test.YtccdfndnjjjgfaaGreatDoorWaysImpl
import Derived.Test.YtccdfndnjjjgfaaGreatDoorAvoidPure
import Derived.Deep.QuietTactic
import Derived.BigQuiet
namespace Go.Proofs.YtccdfndnjjjgfaaGreatDoor
open Go.RowKit

theorem implAvoidsOk_is (s : ByteArray) (w : World) (hs : s.size ≤ 1048576) (hw : DirsAt w) (b : Bool) (h : Tw.avoids s.data.toList = b) :
    Calls Tryz.prog 125 #[.string s] w fun e w' => e = .returned (.bool b) ∧ Below w.heap.size w w' := h ▸ implAvoidsOk s w hs hw
theorem specAvoidsOk_is (s : ByteArray) (w : World) (hs : s.size ≤ 1048576) (b : Bool) (h : Tw.avoids s.data.toList = b) :
    Calls Tryz.prog 55 #[.string s] w fun e w' => e = .returned (.bool b) ∧ Below w.heap.size w w' := h ▸ specAvoidsOk s w hs

theorem implInWay_is (s : ByteArray) (way : Int) (w : World) (hs : s.size ≤ 1048576) (hw : WaysAt w) (x : ByteArray) (h : Tw.str (Tw.inWay s.data.toList way) = x) :
    Calls Tryz.prog 118 #[.string s, .int .i64 way] w fun e w' => e = .returned (.string x) ∧ Below w.heap.size w w' := h ▸ implInWay s way w hs hw
theorem inWay_len (l : List UInt8) (way : Int) : (Tw.inWay l way).length ≤ l.length := by
  unfold Tw.inWay
  split <;> simp
theorem ret_two {a b : ByteArray} {x y : Bool} (h : a = b) (k : x = y) : Ending.returned (.tuple #[.string a, .bool x]) = .returned (.tuple #[.string b, .bool y]) := by rw [h, k]
theorem unfold_no {l : List UInt8} {p way : Int} (h : Tw.unfolds l p way = false) : Tw.unfolded l p way = [] ∧ Tw.unfoldedOk l p way = false := by simp [Tw.unfolded, Tw.unfoldedOk, h]
theorem unfold_yes {l : List UInt8} {p way : Int} (h : Tw.unfolds l p way = true) : Tw.unfolded l p way = (if Tw.avoids (Tw.unfoldAt l p.toNat way) then Tw.unfoldAt l p.toNat way else []) ∧ Tw.unfoldedOk l p way = Tw.avoids (Tw.unfoldAt l p.toNat way) := by simp [Tw.unfolded, Tw.unfoldedOk, h]
theorem unfold_str (s : ByteArray) (p : Nat) (way : Int) : s.extract 0 p ++ Tw.str (Tw.inWay (s.extract p s.size).data.toList way) = Tw.str (Tw.unfoldAt s.data.toList p way) := by
  rw [← Tw.str_of (s.extract 0 p), Tw.str_append, Lib.extract_data, Lib.extract_data, List.drop_zero, Nat.sub_zero, List.take_of_length_le (l := s.data.toList.drop p) (by simp)]
  rfl

/-- What the two share: the cases, and what is known in each. -/
structure UnfoldYes (s : ByteArray) (p : Nat) (way : Int) (x u : ByteArray) : Prop where
  part : (s.extract p s.size).size ≤ 1048576
  size : u.size ≤ 1048576
  sub : Tw.str (Tw.inWay (s.extract p s.size).data.toList way) = x
  few : x.size ≤ 40
  str : s.extract 0 p ++ x = u
  out : Tw.str (Tw.unfolded s.data.toList p way) = if Tw.avoids u.data.toList = true then u else Tw.str []
  ok : Tw.unfoldedOk s.data.toList p way = Tw.avoids u.data.toList
theorem unfold_case {s : ByteArray} {p : Nat} {way : Int} (hav : Tw.avoids s.data.toList = true) (hp : p ≤ s.size) (h0 : 0 ≤ way) (h7 : way ≤ 7) : ∃ x u, UnfoldYes s p way x u := by
  have h40 : s.size ≤ 40 := by have := Tw.walkOk_len (Tw.avoids_ok hav); rwa [size_data] at this
  have hy := unfold_yes (l := s.data.toList) (p := (p : Int)) (way := way) (by simp [Tw.unfolds, hav, h0, h7, hp])
  refine ⟨_, Tw.str (Tw.unfoldAt s.data.toList p way), by simp; omega, ?_, rfl, ?_, unfold_str s p way, ?_, ?_⟩
  · rw [Tw.str_size]
    have := inWay_len (s.data.toList.drop p) way
    unfold Tw.unfoldAt
    simp at this ⊢
    omega
  · rw [Tw.str_size]
    have := inWay_len (s.extract p s.size).data.toList way
    rw [size_data] at this
    have h2 : (s.extract p s.size).size ≤ s.size := by simp
    omega
  · rw [hy.1, Tw.str_data, Int.toNat_natCast]
    split <;> rfl
  · rw [hy.2, Tw.str_data, Int.toNat_natCast]



end Go.Proofs.YtccdfndnjjjgfaaGreatDoor
