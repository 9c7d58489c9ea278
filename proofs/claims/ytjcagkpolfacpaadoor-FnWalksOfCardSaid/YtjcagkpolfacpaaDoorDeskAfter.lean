/-
  The program's walkAfter: what a deed makes of a walk.
-/
import Derived.Test.YtjcagkpolfacpaaDoorDeskImpl
import Derived.Test.YtjcagkpolfacpaaDoorFirstOf
namespace Go.Proofs.YtjcagkpolfacpaaDoor
open Go.RowKit

/-- The walk and whether it is told, as the program has them, beside what the deed makes. -/
def AfterOk (s : ByteArray) (k n : Int) (x : ByteArray) (t : Bool) : Prop :=
  (t = true ∧ x ≠ s ∧ made s k n = (x, true)) ∨ ((t = false ∨ x = s) ∧ ¬ ((made s k n).2 = true ∧ (made s k n).1 ≠ s))
theorem after_made {s : ByteArray} {k n : Int} {x : ByteArray} {t : Bool} (h : made s k n = (x, t)) : AfterOk s k n x t := by
  cases t
  · refine .inr ⟨.inl rfl, fun h9 => ?_⟩
    rw [h] at h9
    exact absurd h9.1 (by simp)
  · rcases Decidable.em (x = s) with hx | hx
    · refine .inr ⟨.inr hx, fun h9 => ?_⟩
      rw [h] at h9
      exact h9.2 hx
    · exact .inl ⟨rfl, hx, h⟩
theorem after_not {s : ByteArray} {k n : Int} {x : ByteArray} (h : (made s k n).2 = false) : AfterOk s k n x false :=
  .inr ⟨.inl rfl, fun h9 => by rw [h] at h9; exact absurd h9.1 (by simp)⟩
theorem after_way {s : ByteArray} {n : Int} (hok : Tw.walkOk s.data.toList = true) : AfterOk s 2 n (Tw.str (Tw.inWay s.data.toList n)) (!(Tw.str (Tw.inWay s.data.toList n)).toList.isEmpty) := by
  have hm : made s 2 n = madeWay s n := rfl
  by_cases hn : 0 ≤ n ∧ n ≤ 7
  · have hm2 : made s 2 n = (Tw.str (Tw.inWay s.data.toList n), true) := by rw [hm]; unfold madeWay; rw [if_pos hn]
    have hi := inWay_yes hok hn.1 hn.2
    rcases Decidable.em (s.data.toList = []) with h0 | h0
    · have e : Tw.str (Tw.inWay s.data.toList n) = s := by rw [hi, h0]; exact (Tw.str_of s ▸ by rw [h0]; rfl)
      refine .inr ⟨.inr e, fun h9 => ?_⟩
      rw [hm2] at h9
      exact h9.2 e
    · have e : (Tw.str (Tw.inWay s.data.toList n)).toList.isEmpty = false := by
        rw [Lib.toList_data, Tw.str_data, hi]
        simpa using h0
      rw [e]
      exact after_made hm2
  · have hm2 : made s 2 n = (s, false) := by rw [hm]; unfold madeWay; rw [if_neg hn]
    have hi : Tw.inWay s.data.toList n = [] := inWay_no (fun h => hn h.2)
    have e : (!(Tw.str []).toList.isEmpty) = false := by rw [Lib.toList_data]; rfl
    rw [hi, e]
    exact after_not (by rw [hm2])
theorem after_on {s : ByteArray} {n : Int} : AfterOk s 3 n (Tw.str (Tw.movedOn s.data.toList n)) (!(Tw.str (Tw.movedOn s.data.toList n)).toList.isEmpty) := by
  have hm : made s 3 n = madeOn s n := rfl
  by_cases hn : Tw.closed s.data.toList = true ∧ 0 ≤ n ∧ n ≤ (s.size : Int) - 1
  · have hm2 : made s 3 n = (Tw.str (Tw.movedOn s.data.toList n), true) := by rw [hm]; unfold madeOn; rw [if_pos hn]
    have hl : n < (s.data.toList.length : Int) := by rw [size_data]; omega
    have hi : Tw.movedOn s.data.toList n = Tw.moved s.data.toList n.toNat := by
      unfold Tw.movedOn
      rw [if_pos (by rw [hn.1, decide_eq_true hn.2.1, decide_eq_true hl]; rfl)]
    have h0 := Tw.closed_len hn.1
    have e : (Tw.str (Tw.movedOn s.data.toList n)).toList.isEmpty = false := by
      rw [Lib.toList_data, Tw.str_data, hi, List.isEmpty_eq_false_iff]
      intro h9
      have := Tw.length_moved s.data.toList n.toNat
      rw [h9] at this
      simp at this
      omega
    rw [e]
    exact after_made hm2
  · have hm2 : made s 3 n = (s, false) := by rw [hm]; unfold madeOn; rw [if_neg hn]
    have hi : Tw.movedOn s.data.toList n = [] := by
      unfold Tw.movedOn
      rw [if_neg]
      intro h
      simp only [Bool.and_eq_true, decide_eq_true_eq] at h
      rw [size_data] at h
      exact hn ⟨h.1.1, h.1.2, by omega⟩
    have e : (!(Tw.str []).toList.isEmpty) = false := by rw [Lib.toList_data]; rfl
    rw [hi, e]
    exact after_not (by rw [hm2])


end Go.Proofs.YtjcagkpolfacpaaDoor
