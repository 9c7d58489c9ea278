/-
  The program's walkAfter: what a deed makes of a walk.
-/
import Derived.Test.YtccdfndnjjjgfaaGreatDoorDeskImpl
import Derived.Test.YtccdfndnjjjgfaaGreatDoorFirstOf
namespace Go.Proofs.YtccdfndnjjjgfaaGreatDoor
open Go.RowKit

/-- The walk and whether it is told, as the program has them, beside what the deed makes. -/
def AfterOk (s : ByteArray) (k n : Int) (x : ByteArray) (t : Bool) : Prop :=
  (t = true ∧ x ≠ s ∧ made s k n = (x, true)) ∨ ((t = false ∨ x = s) ∧ ¬ ((made s k n).2 = true ∧ (made s k n).1 ≠ s))
theorem after_made {s : ByteArray} {k n : Int} {x : ByteArray} {t : Bool} (h : made s k n = (x, t)) : AfterOk s k n x t := by
  cases t
  · refine .inr ⟨.inl rfl, fun h9 => ?_⟩
    rw [h] at h9
    exact absurd h9.1 (by simp)
  · rcases Decidable.em (x = s) with hx | hx
    · refine .inr ⟨.inr hx, fun h9 => ?_⟩
      rw [h] at h9
      exact h9.2 hx
    · exact .inl ⟨rfl, hx, h⟩
theorem after_not {s : ByteArray} {k n : Int} {x : ByteArray} (h : (made s k n).2 = false) : AfterOk s k n x false :=
  .inr ⟨.inl rfl, fun h9 => by rw [h] at h9; exact absurd h9.1 (by simp)⟩
theorem after_way {s : ByteArray} {n : Int} (hok : Tw.walkOk s.data.toList = true) : AfterOk s 2 n (Tw.str (Tw.inWay s.data.toList n)) (!(Tw.str (Tw.inWay s.data.toList n)).toList.isEmpty) := by
  have hm : made s 2 n = madeWay s n := rfl
  by_cases hn : 0 ≤ n ∧ n ≤ 7
  · have hm2 : made s 2 n = (Tw.str (Tw.inWay s.data.toList n), true) := by rw [hm]; unfold madeWay; rw [if_pos hn]
    have hi := inWay_yes hok hn.1 hn.2
    rcases Decidable.em (s.data.toList = []) with h0 | h0
    · have e : Tw.str (Tw.inWay s.data.toList n) = s := by rw [hi, h0]; exact (Tw.str_of s ▸ by rw [h0]; rfl)
      refine .inr ⟨.inr e, fun h9 => ?_⟩
      rw [hm2] at h9
      exact h9.2 e
    · have e : (Tw.str (Tw.inWay s.data.toList n)).toList.isEmpty = false := by
        rw [Lib.toList_data, Tw.str_data, hi]
        simpa using h0
      rw [e]
      exact after_made hm2
  · have hm2 : made s 2 n = (s, false) := by rw [hm]; unfold madeWay; rw [if_neg hn]
    have hi : Tw.inWay s.data.toList n = [] := inWay_no (fun h => hn h.2)
    have e : (!(Tw.str []).toList.isEmpty) = false := by rw [Lib.toList_data]; rfl
    rw [hi, e]
    exact after_not (by rw [hm2])
theorem after_on {s : ByteArray} {n : Int} : AfterOk s 3 n (Tw.str (Tw.movedOn s.data.toList n)) (!(Tw.str (Tw.movedOn s.data.toList n)).toList.isEmpty) := by
  have hm : made s 3 n = madeOn s n := rfl
  by_cases hn : Tw.closed s.data.toList = true ∧ 0 ≤ n ∧ n ≤ (s.size : Int) - 1
  · have hm2 : made s 3 n = (Tw.str (Tw.movedOn s.data.toList n), true) := by rw [hm]; unfold madeOn; rw [if_pos hn]
    have hl : n < (s.data.toList.length : Int) := by rw [size_data]; omega
    have hi : Tw.movedOn s.data.toList n = Tw.moved s.data.toList n.toNat := by
      unfold Tw.movedOn
      rw [if_pos (by rw [hn.1, decide_eq_true hn.2.1, decide_eq_true hl]; rfl)]
    have h0 := Tw.closed_len hn.1
    have e : (Tw.str (Tw.movedOn s.data.toList n)).toList.isEmpty = false := by
      rw [Lib.toList_data, Tw.str_data, hi, List.isEmpty_eq_false_iff]
      intro h9
      have := Tw.length_moved s.data.toList n.toNat
      rw [h9] at this
      simp at this
      omega
    rw [e]
    exact after_made hm2
  · have hm2 : made s 3 n = (s, false) := by rw [hm]; unfold madeOn; rw [if_neg hn]
    have hi : Tw.movedOn s.data.toList n = [] := by
      unfold Tw.movedOn
      rw [if_neg]
      intro h
      simp only [Bool.and_eq_true, decide_eq_true_eq] at h
      rw [size_data] at h
      exact hn ⟨h.1.1, h.1.2, by omega⟩
    have e : (!(Tw.str []).toList.isEmpty) = false := by rw [Lib.toList_data]; rfl
    rw [hi, e]
    exact after_not (by rw [hm2])

def aftStep (s : ByteArray) (n : Int) : ByteArray × Bool := if 0 ≤ n ∧ n ≤ 3 ∧ s.size < 40 then (s ++ (⟨#[101, 110, 119, 115]⟩ : ByteArray).extract n.toNat (n + 1).toNat, true) else (⟨#[]⟩, false)
def aftDrop (s : ByteArray) (n : Int) : ByteArray × Bool := if n = 0 ∧ 0 < s.size then (s.extract 0 (s.size - 1), true) else (⟨#[]⟩, false)
def aftWay (s : ByteArray) (n : Int) : ByteArray × Bool := (Tw.str (Tw.inWay s.data.toList n), !(Tw.str (Tw.inWay s.data.toList n)).toList.isEmpty)
def aftOn (s : ByteArray) (n : Int) : ByteArray × Bool := (Tw.str (Tw.movedOn s.data.toList n), !(Tw.str (Tw.movedOn s.data.toList n)).toList.isEmpty)
def aftFirst (s : ByteArray) (n : Int) : ByteArray × Bool := if n = 0 then (Tw.str (firstRes s.data.toList), Tw.closed s.data.toList) else (⟨#[]⟩, false)
/-- The walk and whether it is told, as the program has them. -/
def aft (s : ByteArray) (k n : Int) : ByteArray × Bool :=
  if k = 0 then aftStep s n else if k = 1 then aftDrop s n else if k = 2 then aftWay s n else if k = 3 then aftOn s n else if k = 4 then aftFirst s n else (⟨#[]⟩, false)
def AfterOut (w : World) (s : ByteArray) (k n : Int) (e : Ending) (w' : World) : Prop := e = .returned (.tuple #[.string (aft s k n).1, .bool (aft s k n).2]) ∧ AfterOk s k n (aft s k n).1 (aft s k n).2 ∧ Below w.heap.size w w'
theorem after_ret {w w' : World} {s : ByteArray} {k n : Int} {x : ByteArray} {t : Bool} (h : aft s k n = (x, t)) (h2 : AfterOk s k n x t) (hb : Below w.heap.size w w') : AfterOut w s k n (.returned (.tuple #[.string x, .bool t])) w' := by
  unfold AfterOut
  rw [h]
  exact ⟨rfl, h2, hb⟩
def desk2 (w : World) (s : ByteArray) (v : Value) (k n : Int) : World := (w.alloc (.cells #[.string s, v] 27)).alloc (.cells #[.int .i64 k, .int .i64 n] 53)
theorem desk2_facts (w : World) (s : ByteArray) (v : Value) (k n : Int) :
    Below w.heap.size w (desk2 w s v k n) ∧ (desk2 w s v k n).heap.size = w.heap.size + 2 ∧ (desk2 w s v k n).heap[w.heap.size]? = some (.cells #[.string s, v] 27 (0, 0)) ∧ (desk2 w s v k n).heap[w.heap.size + 1]? = some (.cells #[.int .i64 k, .int .i64 n] 53 (0, 0)) := by
  unfold desk2
  exact ⟨((Below.refl _ _).alloc (Nat.le_refl _) _).alloc (by simp) _, by simp, heap_alloc2_old _ _ _, heap_alloc2_new _ _ _⟩
set_option maxRecDepth 100000 in
set_option maxHeartbeats 800000 in
theorem after_step (s : ByteArray) (v : Value) (n : Int) (w : World) (hs : s.size ≤ 1048576) :
    Calls Tryz.prog 87 #[.agg #[.string s, v], .agg #[.int .i64 0, .int .i64 n]] w (AfterOut w s 0 n) := by
  have hB := Lib.hid ((desk2_facts w s v 0 n).1)
  unfold desk2 at hB
  by_cases h40 : s.size < 40
  · by_cases hn0 : 0 ≤ n
    · by_cases hn4 : n < 4
      · have hn3 : n ≤ 3 := by omega
        obtain ⟨_, _, r0, r1⟩ := desk2_facts w s v 0 n
        have c0 := cell_of_row _ _ 0 _ _ _ r0
        have c1 := cell_of_row _ _ 1 _ _ _ r1
        have e1 := IntWalk.i64_in (n + 1) ⟨by omega, by omega⟩
        have e2 : n ≤ n + 1 := by omega
        have e3 : n + 1 ≤ 4 := by omega
        have e4 : 0 ≤ n + 1 := by omega
        clear r0 r1
        have hone := cutOne hn0 hn3
        have e6 : ¬ (9223372036854775807 < s.size + 1) := by omega
        have e8 := hone
        rw [ByteArray.size_extract] at e8
        have e7 : ¬ (9223372036854775807 < s.size + (min (n + 1).toNat 4 - n.toNat)) := by omega
        clear e8
        unfold desk2 at c0 c1
        go_enter Tryz.func87, Tryz.ntmps87
        go_wp2
        go_region_held3 (fun w' => w'.cell? ⟨w.heap.size, 0, none⟩ = some (.string s) ∧ w'.cell? ⟨w.heap.size + 1, 1, none⟩ = some (.int .i64 n))
          (exact ⟨c0, c1⟩)
          (fail)
        go_wp2
        go_ret2
        exact after_ret (by show aftStep s n = _; unfold aftStep; rw [if_pos ⟨hn0, hn3, h40⟩]) (after_made (by show madeStep s n = _; unfold madeStep; rw [if_pos ⟨hn0, hn3, h40⟩])) hB.out.drew
      · have HM := Lib.hid (show (made s 0 n).2 = false by show (madeStep s n).2 = _; unfold madeStep; rw [if_neg (fun h => hn4 (by omega))])
        have HA := Lib.hid (show aft s 0 n = (⟨#[]⟩, false) by show aftStep s n = _; unfold aftStep; rw [if_neg (fun h => hn4 (by omega))])
        go_enter Tryz.func87, Tryz.ntmps87
        go_wp2
        go_ret2
        exact after_ret HA.out (after_not HM.out) hB.out
    · have HM := Lib.hid (show (made s 0 n).2 = false by show (madeStep s n).2 = _; unfold madeStep; rw [if_neg (fun h => hn0 h.1)])
      have HA := Lib.hid (show aft s 0 n = (⟨#[]⟩, false) by show aftStep s n = _; unfold aftStep; rw [if_neg (fun h => hn0 h.1)])
      go_enter Tryz.func87, Tryz.ntmps87
      go_wp2
      go_ret2
      exact after_ret HA.out (after_not HM.out) hB.out
  · have HM := Lib.hid (show (made s 0 n).2 = false by show (madeStep s n).2 = _; unfold madeStep; rw [if_neg (fun h => h40 h.2.2)])
    have HA := Lib.hid (show aft s 0 n = (⟨#[]⟩, false) by show aftStep s n = _; unfold aftStep; rw [if_neg (fun h => h40 h.2.2)])
    go_enter Tryz.func87, Tryz.ntmps87
    go_wp2
    go_ret2
    exact after_ret HA.out (after_not HM.out) hB.out
set_option maxRecDepth 100000 in
set_option maxHeartbeats 800000 in
theorem after_drop (s : ByteArray) (v : Value) (n : Int) (w : World) (hs : s.size ≤ 1048576) :
    Calls Tryz.prog 87 #[.agg #[.string s, v], .agg #[.int .i64 1, .int .i64 n]] w (AfterOut w s 1 n) := by
  have hB := Lib.hid ((desk2_facts w s v 1 n).1)
  unfold desk2 at hB
  by_cases h0 : 0 < s.size
  · have hne : s.toList.isEmpty = false := notEmpty h0
    have h1 : (1 : Int) ≤ (s.size : Int) := by omega
    rcases (by rcases Decidable.em (n = 0) with h | h; exact .inl h; exact .inr (beq_false_of_ne h) : n = 0 ∨ (n == 0) = false) with rfl | hn
    · go_enter Tryz.func87, Tryz.ntmps87
      go_wp2
      go_ret2
      exact after_ret (by show aftDrop s 0 = _; unfold aftDrop; rw [if_pos ⟨rfl, h0⟩]) (after_made (by show madeDrop s 0 = _; unfold madeDrop; rw [if_pos ⟨rfl, h0⟩])) hB.out
    · go_enter Tryz.func87, Tryz.ntmps87
      go_wp2
      go_ret2
      exact after_ret (by show aftDrop s n = _; unfold aftDrop; rw [if_neg (fun h => ne_of_beq_false hn h.1)]) (after_not (by show (madeDrop s n).2 = _; unfold madeDrop; rw [if_neg (fun h => ne_of_beq_false hn h.1)])) hB.out
  · obtain rfl : s = ⟨#[]⟩ := nil_of_size (by omega)
    go_enter Tryz.func87, Tryz.ntmps87
    go_wp2
    go_ret2
    exact after_ret (by show aftDrop _ n = _; unfold aftDrop; rw [if_neg (fun h => h0 h.2)]) (after_not (by show (madeDrop _ n).2 = _; unfold madeDrop; rw [if_neg (fun h => h0 h.2)])) hB.out
set_option maxRecDepth 100000 in
set_option maxHeartbeats 800000 in
theorem after_wayI (s : ByteArray) (v : Value) (n : Int) (w : World) (hs : s.size ≤ 1048576) (hw : WaysAt w) (hok : Hid (Tw.walkOk s.data.toList = true)) :
    Calls Tryz.prog 87 #[.agg #[.string s, v], .agg #[.int .i64 2, .int .i64 n]] w (AfterOut w s 2 n) := by
  have hB := Lib.hid ((desk2_facts w s v 2 n).1)
  have hW := Lib.hid (hw.below' hB.out)
  have hA := Lib.hid (after_way (n := n) hok.out)
  have hR := Lib.hid (show aft s 2 n = (Tw.str (Tw.inWay s.data.toList n), !(Tw.str (Tw.inWay s.data.toList n)).toList.isEmpty) from rfl)
  obtain ⟨x, hx⟩ : ∃ x, Tw.str (Tw.inWay s.data.toList n) = x := ⟨_, rfl⟩
  have HX := Lib.hid hx
  rw [hx] at hA hR
  unfold desk2 at hB hW
  clear hx
  go_enter Tryz.func87, Tryz.ntmps87
  go_wp2_with (first
    | (go_at_call 118; refine (implInWay s n _ hs hW.out).mono ?_; rw [HX.out]; rintro e w1 ⟨rfl, hb1⟩))
  go_ret2
  exact after_ret hR.out hA.out (hB.out.trans (hb1.mono hB.out.size))
set_option maxRecDepth 100000 in
set_option maxHeartbeats 800000 in
theorem after_onI (s : ByteArray) (v : Value) (n : Int) (w : World) (hs : s.size ≤ 1048576) (hd : DirsAt w) :
    Calls Tryz.prog 87 #[.agg #[.string s, v], .agg #[.int .i64 3, .int .i64 n]] w (AfterOut w s 3 n) := by
  have hB := Lib.hid ((desk2_facts w s v 3 n).1)
  have hW := Lib.hid (hd.below' hB.out)
  have hA := Lib.hid (after_on (s := s) (n := n))
  have hR := Lib.hid (show aft s 3 n = (Tw.str (Tw.movedOn s.data.toList n), !(Tw.str (Tw.movedOn s.data.toList n)).toList.isEmpty) from rfl)
  obtain ⟨x, hx⟩ : ∃ x, Tw.str (Tw.movedOn s.data.toList n) = x := ⟨_, rfl⟩
  have HX := Lib.hid hx
  rw [hx] at hA hR
  unfold desk2 at hB hW
  clear hx
  go_enter Tryz.func87, Tryz.ntmps87
  go_wp2_with (first
    | (go_at_call 119; refine (implMovedOn s n _ hs hW.out).mono ?_; rw [HX.out]; rintro e w1 ⟨rfl, hb1⟩))
  go_ret2
  exact after_ret hR.out hA.out (hB.out.trans (hb1.mono hB.out.size))
set_option maxRecDepth 100000 in
set_option maxHeartbeats 800000 in
theorem after_firstI (s : ByteArray) (v : Value) (n : Int) (w : World) (hs : s.size ≤ 1048576) (hw : WaysAt w) (hd : DirsAt w) :
    Calls Tryz.prog 87 #[.agg #[.string s, v], .agg #[.int .i64 4, .int .i64 n]] w (AfterOut w s 4 n) := by
  have hB := Lib.hid ((desk2_facts w s v 4 n).1)
  have hW := Lib.hid (hw.below' hB.out)
  have hD := Lib.hid (hd.below' hB.out)
  unfold desk2 at hB hW hD
  rcases (by rcases Decidable.em (n = 0) with h | h; exact .inl h; exact .inr (beq_false_of_ne h) : n = 0 ∨ (n == 0) = false) with rfl | hn
  · go_enter Tryz.func87, Tryz.ntmps87
    go_wp2_with (first
      | (go_at_call 120; refine (implFirstOf s _ hs hW.out hD.out).mono ?_; rintro e w1 ⟨rfl, hb1⟩))
    go_ret2
    exact after_ret (by show aftFirst s 0 = _; unfold aftFirst; rw [if_pos rfl]) (after_made (by show madeFirst s 0 = _; unfold madeFirst; rw [if_pos rfl])) (hB.out.trans (hb1.mono hB.out.size))
  · go_enter Tryz.func87, Tryz.ntmps87
    go_wp2
    go_ret2
    exact after_ret (by show aftFirst s n = _; unfold aftFirst; rw [if_neg (ne_of_beq_false hn)]) (after_not (by show (madeFirst s n).2 = _; unfold madeFirst; rw [if_neg (ne_of_beq_false hn)])) hB.out
set_option maxRecDepth 100000 in
set_option maxHeartbeats 800000 in
theorem after_otherI (s : ByteArray) (v : Value) (k n : Int) (w : World) (b0 : (k == 0) = false) (b1 : (k == 1) = false) (b2 : (k == 2) = false) (b3 : (k == 3) = false) (b4 : (k == 4) = false) :
    Calls Tryz.prog 87 #[.agg #[.string s, v], .agg #[.int .i64 k, .int .i64 n]] w (AfterOut w s k n) := by
  have hB := Lib.hid ((desk2_facts w s v k n).1)
  unfold desk2 at hB
  go_enter Tryz.func87, Tryz.ntmps87
  go_wp2
  go_ret2
  exact after_ret (by unfold aft; rw [if_neg (ne_of_beq_false b0), if_neg (ne_of_beq_false b1), if_neg (ne_of_beq_false b2), if_neg (ne_of_beq_false b3), if_neg (ne_of_beq_false b4)]) (after_not (by unfold made; rw [if_neg (ne_of_beq_false b0), if_neg (ne_of_beq_false b1), if_neg (ne_of_beq_false b2), if_neg (ne_of_beq_false b3), if_neg (ne_of_beq_false b4)])) hB.out
theorem after_any (s : ByteArray) (v : Value) (k n : Int) (w : World) (hs : s.size ≤ 1048576) (hw : WaysAt w) (hd : DirsAt w) (hok : Tw.walkOk s.data.toList = true) :
    Calls Tryz.prog 87 #[.agg #[.string s, v], .agg #[.int .i64 k, .int .i64 n]] w (AfterOut w s k n) := by
  rcases Decidable.em (k = 0) with rfl | h0
  · exact after_step s v n w hs
  rcases Decidable.em (k = 1) with rfl | h1
  · exact after_drop s v n w hs
  rcases Decidable.em (k = 2) with rfl | h2
  · exact after_wayI s v n w hs hw (Lib.hid hok)
  rcases Decidable.em (k = 3) with rfl | h3
  · exact after_onI s v n w hs hd
  rcases Decidable.em (k = 4) with rfl | h4
  · exact after_firstI s v n w hs hw hd
  exact after_otherI s v k n w (beq_false_of_ne h0) (beq_false_of_ne h1) (beq_false_of_ne h2) (beq_false_of_ne h3) (beq_false_of_ne h4)

end Go.Proofs.YtccdfndnjjjgfaaGreatDoor
