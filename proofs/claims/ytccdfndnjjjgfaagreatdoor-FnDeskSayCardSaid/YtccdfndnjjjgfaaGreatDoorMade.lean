/-
  The reference's l12Made: some short text, and nothing that was there has turned.
-/
import Derived.Test.YtccdfndnjjjgfaaGreatDoorFirstSpec
import Derived.Test.YtccdfndnjjjgfaaGreatDoorWays
import Derived.Laws.StructEq
namespace Go.Proofs.YtccdfndnjjjgfaaGreatDoor
open Go.RowKit

/-- What a deed makes of a walk, and whether it can be done. -/
def madeStep (s : ByteArray) (n : Int) : ByteArray × Bool := if 0 ≤ n ∧ n ≤ 3 ∧ s.size < 40 then (s ++ (⟨#[101, 110, 119, 115]⟩ : ByteArray).extract n.toNat (n + 1).toNat, true) else (s, false)
def madeDrop (s : ByteArray) (n : Int) : ByteArray × Bool := if n = 0 ∧ 0 < s.size then (s.extract 0 (s.size - 1), true) else (s, false)
def madeWay (s : ByteArray) (n : Int) : ByteArray × Bool := if 0 ≤ n ∧ n ≤ 7 then (Tw.str (Tw.inWay s.data.toList n), true) else (s, false)
def madeOn (s : ByteArray) (n : Int) : ByteArray × Bool := if Tw.closed s.data.toList = true ∧ 0 ≤ n ∧ n ≤ (s.size : Int) - 1 then (Tw.str (Tw.movedOn s.data.toList n), true) else (s, false)
def madeFirst (s : ByteArray) (n : Int) : ByteArray × Bool := if n = 0 then (Tw.str (firstRes s.data.toList), Tw.closed s.data.toList) else (s, false)
def made (s : ByteArray) (k n : Int) : ByteArray × Bool :=
  if k = 0 then madeStep s n else if k = 1 then madeDrop s n else if k = 2 then madeWay s n else if k = 3 then madeOn s n else if k = 4 then madeFirst s n else (s, false)
def MadeOut (w : World) (r : ByteArray × Bool) (e : Ending) (w' : World) : Prop := e = .returned (.tuple #[.string r.1, .bool r.2]) ∧ Below w.heap.size w w'
theorem made_ret {x : ByteArray} {b : Bool} {r : ByteArray × Bool} (h : r = (x, b)) : Ending.returned (.tuple #[.string x, .bool b]) = .returned (.tuple #[.string r.1, .bool r.2]) := by rw [h]
theorem firstRes_len (l : List UInt8) : (firstRes l).length ≤ 40 := by
  unfold firstRes
  split
  · rename_i hc
    exact Tw.walkOk_len (Tw.closed_ok (Tw.closed_shape hc (Tw.first_shape hc)))
  · simp
theorem movedLen (l : List UInt8) (k : Int) : (Tw.movedOn l k).length ≤ l.length := by
  unfold Tw.movedOn
  split
  · rw [Tw.length_moved]
    exact Nat.le_refl _
  · simp
theorem inLen (l : List UInt8) (way : Int) : (Tw.inWay l way).length ≤ l.length := by
  unfold Tw.inWay
  split <;> simp
theorem cutOne {d : Int} (h0 : 0 ≤ d) (h3 : d ≤ 3) : ((⟨#[101, 110, 119, 115]⟩ : ByteArray).extract d.toNat (d + 1).toNat).size = 1 := by
  obtain rfl | rfl | rfl | rfl : d = 0 ∨ d = 1 ∨ d = 2 ∨ d = 3 := by omega
  all_goals rfl

theorem made_below (k n : Int) (w : World) : Below w.heap.size w (w.alloc (.cells #[.int .i64 k, .int .i64 n] 53)) := (Below.refl _ _).alloc (Nat.le_refl _) _
set_option maxRecDepth 100000 in
set_option maxHeartbeats 800000 in
theorem made_step (s : ByteArray) (n : Int) (w : World) (hs : s.size ≤ 41) : Calls Tryz.prog 103 #[.string s, .agg #[.int .i64 0, .int .i64 n]] w (MadeOut w (madeStep s n)) := by
  have hB := Lib.hid (made_below 0 n w)
  by_cases hn : 0 ≤ n ∧ n ≤ 3
  · have hone := cutOne hn.1 hn.2
    have hn0 := hn.1
    have hn3 := hn.2
    by_cases h40 : s.size < 40
    · go_enter Tryz.func103, Tryz.ntmps103
      go_wp2_with (first
        | (go_at_call 110; refine (in_yes n 0 3 _ hn0 hn3).mono ?_; rintro e w' ⟨rfl, rfl⟩))
      go_ret2
      exact ⟨made_ret (by unfold madeStep; rw [if_pos ⟨hn0, hn3, h40⟩]), hB.out⟩
    · go_enter Tryz.func103, Tryz.ntmps103
      go_wp2_with (first
        | (go_at_call 110; refine (in_yes n 0 3 _ hn0 hn3).mono ?_; rintro e w' ⟨rfl, rfl⟩))
      go_ret2
      exact ⟨made_ret (by unfold madeStep; rw [if_neg (fun h => h40 h.2.2)]), hB.out⟩
  · go_enter Tryz.func103, Tryz.ntmps103
    go_wp2_with (first
      | (go_at_call 110; refine (in_no n 0 3 _ hn).mono ?_; rintro e w' ⟨rfl, rfl⟩))
    go_ret2
    exact ⟨made_ret (by unfold madeStep; rw [if_neg (fun h => hn ⟨h.1, h.2.1⟩)]), hB.out⟩
set_option maxRecDepth 100000 in
set_option maxHeartbeats 800000 in
theorem made_drop (s : ByteArray) (n : Int) (w : World) (hs : s.size ≤ 41) : Calls Tryz.prog 103 #[.string s, .agg #[.int .i64 1, .int .i64 n]] w (MadeOut w (madeDrop s n)) := by
  have hB := Lib.hid (made_below 1 n w)
  rcases (by rcases Decidable.em (n = 0) with h | h; exact .inl h; exact .inr (beq_false_of_ne h) : n = 0 ∨ (n == 0) = false) with rfl | hn
  · by_cases h0 : 0 < s.size
    · have h1 : (1 : Int) ≤ (s.size : Int) := by omega
      go_enter Tryz.func103, Tryz.ntmps103
      go_wp2
      go_ret2
      exact ⟨made_ret (by unfold madeDrop; rw [if_pos ⟨rfl, h0⟩]), hB.out⟩
    · go_enter Tryz.func103, Tryz.ntmps103
      go_wp2
      go_ret2
      exact ⟨made_ret (by unfold madeDrop; rw [if_neg (fun h => h0 h.2)]), hB.out⟩
  · go_enter Tryz.func103, Tryz.ntmps103
    go_wp2
    go_ret2
    exact ⟨made_ret (by unfold madeDrop; rw [if_neg (fun h => ne_of_beq_false hn h.1)]), hB.out⟩
set_option maxRecDepth 100000 in
set_option maxHeartbeats 800000 in
theorem made_way (s : ByteArray) (n : Int) (w : World) (hs : s.size ≤ 41) : Calls Tryz.prog 103 #[.string s, .agg #[.int .i64 2, .int .i64 n]] w (MadeOut w (madeWay s n)) := by
  have hB := Lib.hid (made_below 2 n w)
  by_cases hn : 0 ≤ n ∧ n ≤ 7
  · have hn0 := hn.1
    have hn7 := hn.2
    have hl := inLen s.data.toList n
    rw [← Tw.str_size, size_data] at hl
    go_enter Tryz.func103, Tryz.ntmps103
    go_wp2_with (first
      | (go_at_call 110; refine (in_yes n 0 7 _ hn0 hn7).mono ?_; rintro e w' ⟨rfl, rfl⟩)
      | (go_at_call 136; refine (specInWay s n _ (by omega)).mono ?_; rintro e w' ⟨rfl, rfl⟩))
    go_ret2
    exact ⟨made_ret (by unfold madeWay; rw [if_pos ⟨hn0, hn7⟩]), hB.out⟩
  · go_enter Tryz.func103, Tryz.ntmps103
    go_wp2_with (first
      | (go_at_call 110; refine (in_no n 0 7 _ hn).mono ?_; rintro e w' ⟨rfl, rfl⟩))
    go_ret2
    exact ⟨made_ret (by unfold madeWay; rw [if_neg hn]), hB.out⟩
set_option maxRecDepth 100000 in
set_option maxHeartbeats 800000 in
theorem made_on (s : ByteArray) (n : Int) (w : World) (hs : s.size ≤ 41) (hz : -9223372036854775808 ≤ n ∧ n ≤ 9223372036854775807) : Calls Tryz.prog 103 #[.string s, .agg #[.int .i64 3, .int .i64 n]] w (MadeOut w (madeOn s n)) := by
  have hB := Lib.hid (made_below 3 n w)
  have hcl := fun W => specClosedOk s W (by omega)
  cases hc : Tw.closed s.data.toList
  · rw [hc] at hcl
    have HC0 := Lib.hid hc
    have HCL := Lib.hid hcl
    have k0 := heap_alloc_new w (.cells #[.int .i64 3, .int .i64 n] 53)
    have HK := Lib.hid k0
    clear hcl hc k0
    go_enter Tryz.func103, Tryz.ntmps103
    go_wp2_with (first
      | (go_at_call 53; refine (HCL.out _).mono ?_; rintro e w1 ⟨rfl, hb1⟩; have r1 := (hb1.block w.heap.size (by simp)).trans HK.out; have c0 := cell_of_row _ _ 0 _ _ _ r1; have c1 := cell_of_row _ _ 1 _ _ _ r1; clear r1))
    go_ret2
    exact ⟨made_ret (by unfold madeOn; rw [if_neg (fun h => by have := HC0.out; rw [h.1] at this; cases this)]), hB.out.trans (hb1.mono hB.out.size)⟩
  · rw [hc] at hcl
    have HC0 := Lib.hid hc
    have HCL := Lib.hid hcl
    have h1 := Tw.closed_len hc
    rw [size_data] at h1
    clear hcl hc
    have k0 := heap_alloc_new w (.cells #[.int .i64 3, .int .i64 n] 53)
    have HK := Lib.hid k0
    clear k0
    have hm := movedLen s.data.toList n
    rw [← Tw.str_size, size_data] at hm
    by_cases hn : 0 ≤ n ∧ n ≤ (s.size : Int) - 1
    · have hn0 := hn.1
      have hn1 := hn.2
      go_enter Tryz.func103, Tryz.ntmps103
      go_wp2_with (first
        | (go_at_call 53; refine (HCL.out _).mono ?_; rintro e w1 ⟨rfl, hb1⟩; have r1 := (hb1.block w.heap.size (by simp)).trans HK.out; have c0 := cell_of_row _ _ 0 _ _ _ r1; have c1 := cell_of_row _ _ 1 _ _ _ r1; clear r1)
        | (go_at_call 110; refine (in_yes n 0 _ _ hn0 hn1).mono ?_; rintro e w' ⟨rfl, rfl⟩)
        | (go_at_call 137; refine (specMovedOn s n _ (by omega) hz).mono ?_; rintro e w2 ⟨rfl, hb2⟩))
      go_ret2
      exact ⟨made_ret (by unfold madeOn; rw [if_pos ⟨HC0.out, hn0, hn1⟩]), (hB.out.trans (hb1.mono hB.out.size)).trans (hb2.mono (hB.out.trans (hb1.mono hB.out.size)).size)⟩
    · go_enter Tryz.func103, Tryz.ntmps103
      go_wp2_with (first
        | (go_at_call 53; refine (HCL.out _).mono ?_; rintro e w1 ⟨rfl, hb1⟩; have r1 := (hb1.block w.heap.size (by simp)).trans HK.out; have c0 := cell_of_row _ _ 0 _ _ _ r1; have c1 := cell_of_row _ _ 1 _ _ _ r1; clear r1)
        | (go_at_call 110; refine (in_no n 0 _ _ hn).mono ?_; rintro e w' ⟨rfl, rfl⟩))
      go_ret2
      exact ⟨made_ret (by unfold madeOn; rw [if_neg (fun h => hn h.2)]), hB.out.trans (hb1.mono hB.out.size)⟩
set_option maxRecDepth 100000 in
set_option maxHeartbeats 800000 in
theorem made_first (s : ByteArray) (n : Int) (w : World) (hs : s.size ≤ 41) : Calls Tryz.prog 103 #[.string s, .agg #[.int .i64 4, .int .i64 n]] w (MadeOut w (madeFirst s n)) := by
  have hB := Lib.hid (made_below 4 n w)
  rcases (by rcases Decidable.em (n = 0) with h | h; exact .inl h; exact .inr (beq_false_of_ne h) : n = 0 ∨ (n == 0) = false) with rfl | hn
  · have hf := firstRes_len s.data.toList
    rw [← Tw.str_size] at hf
    go_enter Tryz.func103, Tryz.ntmps103
    go_wp2_with (first
      | (go_at_call 138; refine (specFirstOf s _ (by omega)).mono ?_; rintro e w1 ⟨rfl, hb1⟩))
    go_ret2
    exact ⟨made_ret (by unfold madeFirst; rw [if_pos rfl]), hB.out.trans (hb1.mono hB.out.size)⟩
  · go_enter Tryz.func103, Tryz.ntmps103
    go_wp2
    go_ret2
    exact ⟨made_ret (by unfold madeFirst; rw [if_neg (ne_of_beq_false hn)]), hB.out⟩
set_option maxRecDepth 100000 in
set_option maxHeartbeats 800000 in
theorem made_other (s : ByteArray) (k n : Int) (w : World) (b0 : (k == 0) = false) (b1 : (k == 1) = false) (b2 : (k == 2) = false) (b3 : (k == 3) = false) (b4 : (k == 4) = false) : Calls Tryz.prog 103 #[.string s, .agg #[.int .i64 k, .int .i64 n]] w (MadeOut w (s, false)) := by
  have hB := Lib.hid (made_below k n w)
  go_enter Tryz.func103, Tryz.ntmps103
  go_wp2
  go_ret2
  exact ⟨rfl, hB.out⟩
theorem made_len (s : ByteArray) (k n : Int) (hs : s.size ≤ 41) : (made s k n).1.size ≤ 41 := by
  unfold made
  repeat' split
  · unfold madeStep
    split
    · rename_i _ h
      have := cutOne h.1 h.2.1
      simp only [ByteArray.size_append]
      omega
    · exact hs
  · unfold madeDrop
    split
    · simp
      omega
    · exact hs
  · unfold madeWay
    split
    · have := inLen s.data.toList n
      rw [← Tw.str_size, size_data] at this
      show (Tw.str _).size ≤ 41
      omega
    · exact hs
  · unfold madeOn
    split
    · have := movedLen s.data.toList n
      rw [← Tw.str_size, size_data] at this
      show (Tw.str _).size ≤ 41
      omega
    · exact hs
  · unfold madeFirst
    split
    · have := firstRes_len s.data.toList
      rw [← Tw.str_size] at this
      show (Tw.str _).size ≤ 41
      omega
    · exact hs
  · exact hs
theorem made_any (s : ByteArray) (k n : Int) (w : World) (hs : s.size ≤ 41) (hz : -9223372036854775808 ≤ n ∧ n ≤ 9223372036854775807) : Calls Tryz.prog 103 #[.string s, .agg #[.int .i64 k, .int .i64 n]] w (MadeOut w (made s k n)) := by
  rcases Decidable.em (k = 0) with rfl | h0
  · have := made_step s n w hs
    exact this
  rcases Decidable.em (k = 1) with rfl | h1
  · have := made_drop s n w hs
    exact this
  rcases Decidable.em (k = 2) with rfl | h2
  · have := made_way s n w hs
    exact this
  rcases Decidable.em (k = 3) with rfl | h3
  · have := made_on s n w hs hz
    exact this
  rcases Decidable.em (k = 4) with rfl | h4
  · have := made_first s n w hs
    exact this
  have e : made s k n = (s, false) := by unfold made; rw [if_neg h0, if_neg h1, if_neg h2, if_neg h3, if_neg h4]
  rw [e]
  exact made_other s k n w (beq_false_of_ne h0) (beq_false_of_ne h1) (beq_false_of_ne h2) (beq_false_of_ne h3) (beq_false_of_ne h4)

end Go.Proofs.YtccdfndnjjjgfaaGreatDoor
