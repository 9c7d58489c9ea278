/-
  Texts of deeds: contracts of l1Number, withNumber, DeedText (both), toDeed, eqDeed.
-/
import Derived.Lib.ItoaNum
import Derived.Test.YtpkenccgjlhnlaaBase
import Derived.Test.YtpkenccgjlhnlaaTabs
import Derived.Test.YtpkenccgjlhnlaaWaysImpl
import Derived.Test.YtpkenccgjlhnlaaSteps
import Derived.IntWalk
import Derived.BigQuiet
import Derived.Deep.QuietTactic
import Derived.Deep.RegionHeld3
import Derived.Laws.StructEq
namespace Go.Proofs.Ytpkenccgjlhnlaa
open Go.RowKit

def deedWord (k : Nat) : List UInt8 := [[115, 116, 101, 112], [100, 114, 111, 112], [119, 97, 121], [111, 110], [102, 105, 114, 115, 116], [98, 97, 99, 107]].getD k []
/-- The text of a deed. -/
def deedText (k n : Int) : List UInt8 :=
  if k = 0 ∨ k = 2 ∨ k = 3 then (if 0 ≤ n ∧ n ≤ 99 then deedWord k.toNat ++ 32 :: Lib.decDigits n.toNat else [])
  else if k = 1 ∨ k = 4 ∨ k = 5 then (if n = 0 then deedWord k.toNat else []) else []
theorem dec_two {i : Nat} (hi : i < 100) : Lib.decDigits i = if i < 10 then [UInt8.ofNat (48 + i)] else [UInt8.ofNat (48 + i / 10), UInt8.ofNat (48 + i % 10)] := by
  have h : (List.range 100).all (fun i => decide (Lib.decDigits i = if i < 10 then [UInt8.ofNat (48 + i)] else [UInt8.ofNat (48 + i / 10), UInt8.ofNat (48 + i % 10)])) = true := by decide +kernel
  simpa using List.all_eq_true.1 h i (List.mem_range.2 hi)
theorem dec_few {i : Nat} (hi : i < 100) : (Tw.str (Lib.decDigits i)).size ≤ 2 := by
  rw [Tw.str_size, dec_two hi]
  split <;> simp




end Go.Proofs.Ytpkenccgjlhnlaa
