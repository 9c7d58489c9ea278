/-
  Plain: a deed leaves a desk a desk; deeds one after the other. No condition.
-/
import Derived.Test.YtccdfndnjjjgfaaGreatDoorDeskMade
import Derived.Test.YtccdfndnjjjgfaaGreatDoorAvoidPure
import Derived.Test.YtccdfndnjjjgfaaGreatDoorShapePure
namespace Go.Proofs.YtccdfndnjjjgfaaGreatDoor
open Go.RowKit

theorem deskOk_mk {s : ByteArray} {zs : List ByteArray} (h1 : Tw.walkOk s.data.toList = true) (h2 : zs.length ≤ 8) (h3 : ∀ z ∈ zs, Tw.walkOk z.data.toList = true) : deskOk s zs = true := by
  unfold deskOk walksOk
  rw [h1, decide_eq_true h2, List.all_eq_true.2 h3]
  rfl
theorem cutOne_list {n : Int} (h0 : 0 ≤ n) (h3 : n ≤ 3) : ∃ c : UInt8, 0 ≤ Tw.dir c ∧ ((⟨#[101, 110, 119, 115]⟩ : ByteArray).extract n.toNat (n + 1).toNat).data.toList = [c] := by
  obtain rfl | rfl | rfl | rfl : n = 0 ∨ n = 1 ∨ n = 2 ∨ n = 3 := by omega
  · exact ⟨101, by decide, rfl⟩
  · exact ⟨110, by decide, rfl⟩
  · exact ⟨119, by decide, rfl⟩
  · exact ⟨115, by decide, rfl⟩
theorem append_data (a b : ByteArray) : (a ++ b).data.toList = a.data.toList ++ b.data.toList := by simp
theorem walkOk_take {l : List UInt8} (h : Tw.walkOk l = true) (k : Nat) : Tw.walkOk (l.take k) = true := by
  have h1 := Tw.walkOk_len h
  unfold Tw.walkOk at *
  simp only [Bool.and_eq_true, decide_eq_true_eq] at *
  exact ⟨by rw [List.length_take]; omega, Tw.letters_take h.2 k⟩
theorem walkOk_way {l : List UInt8} (h : Tw.walkOk l = true) {n : Int} (h0 : 0 ≤ n) (h7 : n ≤ 7) : Tw.walkOk (Tw.inWay l n) = true := by
  rw [Tw.inWay_eq h h0 h7, Tw.walkOk_iff]
  exact ⟨by rw [Tw.length_way]; exact Tw.walkOk_len h, Tw.valid_way n⟩
theorem made_ok {s : ByteArray} (h : Tw.walkOk s.data.toList = true) (k n : Int) : Tw.walkOk (made s k n).1.data.toList = true := by
  unfold made
  split
  · unfold madeStep
    split
    · rename_i hn
      obtain ⟨c, hc, he⟩ := cutOne_list hn.1 hn.2.1
      rw [append_data, he]
      exact Tw.walkOk_snoc h (by rw [size_data]; exact hn.2.2) hc
    · exact h
  split
  · unfold madeDrop
    split
    · have e : (s.extract 0 (s.size - 1)).data.toList = s.data.toList.take (s.size - 1) := by
        rw [Lib.extract_data]
        simp
      rw [e]
      exact walkOk_take h _
    · exact h
  split
  · unfold madeWay
    split
    · rename_i hn
      rw [Tw.str_data]
      exact walkOk_way h hn.1 hn.2
    · exact h
  split
  · unfold madeOn
    split
    · rename_i hn
      rw [Tw.str_data]
      obtain ⟨m, rfl⟩ : ∃ m : Nat, n = m := ⟨n.toNat, by omega⟩
      rw [Tw.movedOn_eq hn.1 (by rw [size_data]; omega)]
      exact Tw.closed_ok (Tw.closed_moved m hn.1)
    · exact h
  split
  · unfold madeFirst
    split
    · rw [Tw.str_data]
      unfold firstRes
      split
      · rename_i hc
        exact Tw.closed_ok (Tw.closed_shape hc (Tw.first_shape hc))
      · rfl
    · exact h
  · exact h
theorem deskOk_done {s : ByteArray} {zs : List ByteArray} (h : deskOk s zs = true) (k n : Int) : deskOk (deskDone s zs k n).1 (deskDone s zs k n).2.1 = true := by
  obtain ⟨h1, h2, h3⟩ := deskOk_parts h
  unfold deskDone
  split
  · rename_i hk
    refine deskOk_mk (h3 _ ?_) (by rw [List.length_take]; omega) (fun z hz => h3 z (List.mem_of_mem_take hz))
    rw [List.getLastD_eq_getLast?]
    cases hl : zs.getLast? with
    | none => rw [List.getLast?_eq_none_iff.1 hl] at hk; exact absurd hk.2.2 (by simp)
    | some y => exact List.mem_of_getLast? hl
  · split
    · refine deskOk_mk (made_ok h1 k n) (by rw [List.length_drop, List.length_append, List.length_singleton]; omega) (fun z hz => ?_)
      have hz2 := List.mem_of_mem_drop hz
      rcases List.mem_append.1 hz2 with h4 | h4
      · exact h3 z h4
      · rw [List.mem_singleton.1 h4]
        exact h1
    · exact h
theorem deskOk_do {s : ByteArray} {zs : List ByteArray} (h : deskOk s zs = true) (k n : Int) : deskOk (deskDo s zs k n).1 (deskDo s zs k n).2.1 = true := by
  unfold deskDo
  rw [if_pos h]
  exact deskOk_done h k n

/-- Deeds one after the other. -/
def runStep (st : (ByteArray × List ByteArray) × Nat) (d : Int × Int) : (ByteArray × List ByteArray) × Nat :=
  if (deskDo st.1.1 st.1.2 d.1 d.2).2.2 = true then (((deskDo st.1.1 st.1.2 d.1 d.2).1, (deskDo st.1.1 st.1.2 d.1 d.2).2.1), st.2 + 1) else st
def runTo (s : ByteArray) (zs : List ByteArray) (ds : List (Int × Int)) : (ByteArray × List ByteArray) × Nat := ds.foldl runStep ((s, zs), 0)
def deskRun (s : ByteArray) (zs : List ByteArray) (ds : List (Int × Int)) : (ByteArray × List ByteArray) × Nat := if deskOk s zs = true ∧ ds.length ≤ 40 then runTo s zs ds else ((⟨#[]⟩, []), 0)
theorem runStep_ok {st : (ByteArray × List ByteArray) × Nat} (h : deskOk st.1.1 st.1.2 = true) (d : Int × Int) : deskOk (runStep st d).1.1 (runStep st d).1.2 = true ∧ (runStep st d).2 ≤ st.2 + 1 := by
  unfold runStep
  split
  · exact ⟨deskOk_do h d.1 d.2, Nat.le_refl _⟩
  · exact ⟨h, Nat.le_succ _⟩
theorem runTo_succ {s : ByteArray} {zs : List ByteArray} {ds : List (Int × Int)} {j : Nat} {d : Int × Int} (h : ds[j]? = some d) : runTo s zs (ds.take (j + 1)) = runStep (runTo s zs (ds.take j)) d := by
  unfold runTo
  rw [List.take_add_one, h, List.foldl_append]
  rfl

end Go.Proofs.YtccdfndnjjjgfaaGreatDoor
