/-
  Contracts of WaysSame (both).
-/
import Derived.Test.YtjcagkpolfacpaaDoorWaysImpl
namespace Go.Proofs.YtjcagkpolfacpaaDoor
open Go.RowKit

/-- How many of the first k ways leave the walk as it is. -/
def sameTo (l : List UInt8) (k : Nat) : Nat := ((List.range k).filter fun (i : Nat) => Tw.inWay l (i : Int) == l).length
def waysSame (l : List UInt8) : Int := if Tw.walkOk l then sameTo l 8 else -1
theorem sameTo_le (l : List UInt8) (k : Nat) : sameTo l k ≤ k := by
  unfold sameTo
  exact Nat.le_trans (List.length_filter_le _ _) (by simp)
theorem sameTo_succ (l : List UInt8) (k : Nat) : sameTo l (k + 1) = sameTo l k + if (Tw.inWay l k == l) = true then 1 else 0 := by
  unfold sameTo
  rw [List.range_succ, List.filter_append, List.length_append]
  congr 1
  cases h : (Tw.inWay l k == l) <;> simp [h]
theorem beq_str (X : List UInt8) (s : ByteArray) : ((Tw.str X).toList == s.toList) = (X == s.data.toList) := by
  rw [Lib.toList_data, Lib.toList_data]
  rfl
theorem waysSame_yes {l : List UInt8} (h : Tw.walkOk l = true) : waysSame l = sameTo l 8 := by simp [waysSame, h]
theorem waysSame_no {l : List UInt8} (h : Tw.walkOk l = false) : waysSame l = -1 := by simp [waysSame, h]


set_option maxHeartbeats 800000 in
theorem implWaysSame (s : ByteArray) (w : World) (hs : s.size ≤ 1048576) (hw : WaysAt w) :
    Calls Tryd.prog 24 #[.string s] w fun e w' => e = .returned (.int .i64 (waysSame s.data.toList)) ∧ Below w.heap.size w w' := by
  cases hok : Tw.walkOk s.data.toList
  · have HOK := Lib.hid hok
    clear hok
    go_enter Tryd.func24, Tryd.ntmps24
    go_wp2_with (first | (go_at_call 23; refine (implWalkOk_is _ _ hs false HOK.out).mono ?_; rintro e w' ⟨rfl, rfl⟩))
    go_ret
    exact ⟨ret_int (waysSame_no HOK.out).symm, Below.refl _ _⟩
  · have HOK := Lib.hid hok
    clear hok
    go_enter Tryd.func24, Tryd.ntmps24
    go_wp2_with (first | (go_at_call 23; refine (implWalkOk_is _ _ hs true HOK.out).mono ?_; rintro e w' ⟨rfl, rfl⟩))
    go_loopw [3, 4, 8] (fun n _ i wr => ∃ k : Nat, k ≤ 8 ∧ i = .int .i64 k ∧ Below w.heap.size w wr ∧ ∃ m : Nat, m ≤ 8 ∧ Hid (m = sameTo s.data.toList k) ∧ n = .int .i64 m) (fun _ _ i _ => 8 - (intOf i).toNat)
    case atStart => exact ⟨0, Nat.zero_le _, rfl, Below.refl _ _, 0, by omega, (by show _ = _; rfl), rfl⟩
    case round =>
      obtain ⟨k, hk, rfl, hb, m, hm, HM, rfl⟩ := hrel
      have hwr : WaysAt wr := hw.below hb hw.lt
      by_cases hlt : k < 8
      · go_wp2_with (first | (go_at_call 36; refine (implInWay _ _ _ hs hwr).mono ?_; rintro e w2 ⟨rfl, hb2⟩))
        · have hbb := hb.trans (hb2.mono hb.size)
          have he : ((Tw.str (Tw.inWay s.data.toList k)).toList == s.toList) = true := by assumption
          rw [beq_str] at he
          have hk' := sameTo_le s.data.toList k
          have hm' := HM.out
          go_roundw
          case rel => exact ⟨k + 1, by omega, by go_num, hbb, m + 1, by omega, (by show _ = _; rw [sameTo_succ, he, HM.out]; rfl), by go_num⟩
          case measure => simp [intOf]; omega
        · have hbb := hb.trans (hb2.mono hb.size)
          have he : ((Tw.str (Tw.inWay s.data.toList k)).toList == s.toList) = false := by assumption
          rw [beq_str] at he
          go_roundw
          case rel => exact ⟨k + 1, by omega, by go_num, hbb, m, by omega, (by show _ = _; rw [sameTo_succ, he, HM.out]; rfl), rfl⟩
          case measure => simp [intOf]; omega
      · obtain rfl : k = 8 := by omega
        go_wp2
        go_ret
        exact ⟨ret_int (by rw [waysSame_yes HOK.out, HM.out]), hb⟩

end Go.Proofs.YtjcagkpolfacpaaDoor
