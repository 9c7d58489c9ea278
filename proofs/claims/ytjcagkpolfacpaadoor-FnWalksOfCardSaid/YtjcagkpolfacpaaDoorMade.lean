/-
  The reference's l12Made: some short text, and nothing that was there has turned.
-/
import Derived.Test.YtjcagkpolfacpaaDoorFirstSpec
import Derived.Test.YtjcagkpolfacpaaDoorWays
import Derived.Laws.StructEq
namespace Go.Proofs.YtjcagkpolfacpaaDoor
open Go.RowKit

/-- What a deed makes of a walk, and whether it can be done. -/
def madeStep (s : ByteArray) (n : Int) : ByteArray × Bool := if 0 ≤ n ∧ n ≤ 3 ∧ s.size < 40 then (s ++ (⟨#[101, 110, 119, 115]⟩ : ByteArray).extract n.toNat (n + 1).toNat, true) else (s, false)
def madeDrop (s : ByteArray) (n : Int) : ByteArray × Bool := if n = 0 ∧ 0 < s.size then (s.extract 0 (s.size - 1), true) else (s, false)
def madeWay (s : ByteArray) (n : Int) : ByteArray × Bool := if 0 ≤ n ∧ n ≤ 7 then (Tw.str (Tw.inWay s.data.toList n), true) else (s, false)
def madeOn (s : ByteArray) (n : Int) : ByteArray × Bool := if Tw.closed s.data.toList = true ∧ 0 ≤ n ∧ n ≤ (s.size : Int) - 1 then (Tw.str (Tw.movedOn s.data.toList n), true) else (s, false)
def madeFirst (s : ByteArray) (n : Int) : ByteArray × Bool := if n = 0 then (Tw.str (firstRes s.data.toList), Tw.closed s.data.toList) else (s, false)
def made (s : ByteArray) (k n : Int) : ByteArray × Bool :=
  if k = 0 then madeStep s n else if k = 1 then madeDrop s n else if k = 2 then madeWay s n else if k = 3 then madeOn s n else if k = 4 then madeFirst s n else (s, false)
def MadeOut (w : World) (r : ByteArray × Bool) (e : Ending) (w' : World) : Prop := e = .returned (.tuple #[.string r.1, .bool r.2]) ∧ Below w.heap.size w w'
theorem made_ret {x : ByteArray} {b : Bool} {r : ByteArray × Bool} (h : r = (x, b)) : Ending.returned (.tuple #[.string x, .bool b]) = .returned (.tuple #[.string r.1, .bool r.2]) := by rw [h]
theorem firstRes_len (l : List UInt8) : (firstRes l).length ≤ 40 := by
  unfold firstRes
  split
  · rename_i hc
    exact Tw.walkOk_len (Tw.closed_ok (Tw.closed_shape hc (Tw.first_shape hc)))
  · simp
theorem movedLen (l : List UInt8) (k : Int) : (Tw.movedOn l k).length ≤ l.length := by
  unfold Tw.movedOn
  split
  · rw [Tw.length_moved]
    exact Nat.le_refl _
  · simp
theorem inLen (l : List UInt8) (way : Int) : (Tw.inWay l way).length ≤ l.length := by
  unfold Tw.inWay
  split <;> simp
theorem cutOne {d : Int} (h0 : 0 ≤ d) (h3 : d ≤ 3) : ((⟨#[101, 110, 119, 115]⟩ : ByteArray).extract d.toNat (d + 1).toNat).size = 1 := by
  obtain rfl | rfl | rfl | rfl : d = 0 ∨ d = 1 ∨ d = 2 ∨ d = 3 := by omega
  all_goals rfl

theorem made_len (s : ByteArray) (k n : Int) (hs : s.size ≤ 41) : (made s k n).1.size ≤ 41 := by
  unfold made
  repeat' split
  · unfold madeStep
    split
    · rename_i _ h
      have := cutOne h.1 h.2.1
      simp only [ByteArray.size_append]
      omega
    · exact hs
  · unfold madeDrop
    split
    · simp
      omega
    · exact hs
  · unfold madeWay
    split
    · have := inLen s.data.toList n
      rw [← Tw.str_size, size_data] at this
      show (Tw.str _).size ≤ 41
      omega
    · exact hs
  · unfold madeOn
    split
    · have := movedLen s.data.toList n
      rw [← Tw.str_size, size_data] at this
      show (Tw.str _).size ≤ 41
      omega
    · exact hs
  · unfold madeFirst
    split
    · have := firstRes_len s.data.toList
      rw [← Tw.str_size] at this
      show (Tw.str _).size ≤ 41
      omega
    · exact hs
  · exact hs

end Go.Proofs.YtjcagkpolfacpaaDoor
