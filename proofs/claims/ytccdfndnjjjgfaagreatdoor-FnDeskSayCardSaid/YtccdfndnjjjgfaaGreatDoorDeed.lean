/-
  Texts of deeds: contracts of l1Number, withNumber, DeedText (both), toDeed, eqDeed.
-/
import Derived.Lib.ItoaNum
import Derived.Test.YtccdfndnjjjgfaaGreatDoorBase
import Derived.Test.YtccdfndnjjjgfaaGreatDoorTabs
import Derived.Test.YtccdfndnjjjgfaaGreatDoorWaysImpl
import Derived.Test.YtccdfndnjjjgfaaGreatDoorSteps
import Derived.IntWalk
import Derived.BigQuiet
import Derived.Deep.QuietTactic
import Derived.Deep.RegionHeld3
import Derived.Laws.StructEq
namespace Go.Proofs.YtccdfndnjjjgfaaGreatDoor
open Go.RowKit

def deedWord (k : Nat) : List UInt8 := [[115, 116, 101, 112], [100, 114, 111, 112], [119, 97, 121], [111, 110], [102, 105, 114, 115, 116], [98, 97, 99, 107]].getD k []
/-- The text of a deed. -/
def deedText (k n : Int) : List UInt8 :=
  if k = 0 ∨ k = 2 ∨ k = 3 then (if 0 ≤ n ∧ n ≤ 99 then deedWord k.toNat ++ 32 :: Lib.decDigits n.toNat else [])
  else if k = 1 ∨ k = 4 ∨ k = 5 then (if n = 0 then deedWord k.toNat else []) else []
theorem dec_two {i : Nat} (hi : i < 100) : Lib.decDigits i = if i < 10 then [UInt8.ofNat (48 + i)] else [UInt8.ofNat (48 + i / 10), UInt8.ofNat (48 + i % 10)] := by
  have h : (List.range 100).all (fun i => decide (Lib.decDigits i = if i < 10 then [UInt8.ofNat (48 + i)] else [UInt8.ofNat (48 + i / 10), UInt8.ofNat (48 + i % 10)])) = true := by decide +kernel
  simpa using List.all_eq_true.1 h i (List.mem_range.2 hi)
theorem dec_few {i : Nat} (hi : i < 100) : (Tw.str (Lib.decDigits i)).size ≤ 2 := by
  rw [Tw.str_size, dec_two hi]
  split <;> simp

theorem own_one (w : World) (b : UInt8) : (w.alloc (.cells #[.int .u8 b.toNat] 5)).ownsRow w.heap.size 5 1 (.slice (some ⟨w.heap.size, 0, none⟩) 1 1) 1 (bytesOf [b]) :=
  ⟨rfl, .inr ⟨w.heap.size, 1, #[.int .u8 b.toNat], rfl, Nat.le_refl _, heap_alloc_new w _, Nat.le_refl _, by decide, rfl, rfl⟩⟩
theorem digit_num {i : Nat} (hi : i < 10) : ((UInt8.ofNat (48 + i)).toNat : Int) = 48 + (i : Int) := by
  simp
  omega
theorem conv_digit {i : Nat} (hi : i < 10) (W : World) : (convert 36 9 (.slice (some ⟨W.heap.size, 0, none⟩) 1 1)).run Tryz.prog (W.alloc (.cells #[.int .u8 (48 + (i : Int))] 5)) = .ok (.string (Tw.str [UInt8.ofNat (48 + i)])) (W.alloc (.cells #[.int .u8 (48 + (i : Int))] 5)) := by
  have h := conv_own (own_one W (UInt8.ofNat (48 + i)))
  rwa [digit_num hi] at h
theorem conv_later {i : Nat} (hi : i < 10) {W w' : World} (hb : Below (W.alloc (.cells #[.int .u8 (48 + (i : Int))] 5)).heap.size (W.alloc (.cells #[.int .u8 (48 + (i : Int))] 5)) w') : (convert 36 9 (.slice (some ⟨W.heap.size, 0, none⟩) 1 1)).run Tryz.prog w' = .ok (.string (Tw.str [UInt8.ofNat (48 + i)])) w' := by
  have h := own_one W (UInt8.ofNat (48 + i))
  rw [digit_num hi] at h
  exact conv_own (own_below h hb)
set_option maxRecDepth 100000 in
set_option maxHeartbeats 800000 in
theorem number_digit (i : Nat) (hi : i < 10) (w : World) :
    Calls Tryz.prog 51 #[.int .i64 i] w fun e w' => e = .returned (.string (Tw.str [UInt8.ofNat (48 + i)])) ∧ Below w.heap.size w w' := by
  have hcv := conv_digit hi w
  have h0 : ¬ (i : Int) < 0 := by omega
  go_enter Tryz.func51, Tryz.ntmps51
  go_wp2
  go_ret
  exact ⟨rfl, (Below.refl _ _).alloc (Nat.le_refl _) _⟩


set_option maxHeartbeats 800000 in
theorem withNumber_any (k : Nat) (hk : k < 6) (w : World) :
    Calls Tryz.prog 75 #[.int .i64 k] w fun e w' => e = .returned (.bool (k == 0 || k == 2 || k == 3)) ∧ w = w' := by
  obtain rfl | rfl | rfl | rfl | rfl | rfl : k = 0 ∨ k = 1 ∨ k = 2 ∨ k = 3 ∨ k = 4 ∨ k = 5 := by omega
  all_goals
    go_enter Tryz.func75, Tryz.ntmps75
    go_wp2
    go_ret
    exact ⟨rfl, rfl⟩

end Go.Proofs.YtccdfndnjjjgfaaGreatDoor
