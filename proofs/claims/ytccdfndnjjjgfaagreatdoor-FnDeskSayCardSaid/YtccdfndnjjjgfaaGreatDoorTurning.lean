/-
  Contracts of TurningOf (both).
-/
import Derived.Test.YtccdfndnjjjgfaaGreatDoorClosed
import Derived.Deep.RegionHeld3
namespace Go.Proofs.YtccdfndnjjjgfaaGreatDoor
open Go.RowKit

/-- How a step turns against the one before. -/
def turn (a b : Int) : Int := if (b - a + 4) % 4 = 1 then 1 else if (b - a + 4) % 4 = 3 then -1 else 0
def turnTo (l : List UInt8) (k : Nat) : Int := ((List.range k).map fun i => turn (Tw.dir (l.getD i 0)) (Tw.dir (l.getD ((i + 1) % l.length) 0))).sum
def turningOf (l : List UInt8) : Int := turnTo l l.length
theorem turnTo_succ (l : List UInt8) (k : Nat) : turnTo l (k + 1) = turnTo l k + turn (Tw.dir (l.getD k 0)) (Tw.dir (l.getD ((k + 1) % l.length) 0)) := by
  unfold turnTo
  rw [List.range_succ, List.map_append, List.sum_append]
  simp
theorem turn_small (a b : Int) : -1 ≤ turn a b ∧ turn a b ≤ 1 := by
  unfold turn
  split
  · omega
  · split <;> omega
theorem turnTo_small (l : List UInt8) (k : Nat) : -(k : Int) ≤ turnTo l k ∧ turnTo l k ≤ k := by
  induction k with
  | zero => exact ⟨Int.le_refl _, Int.le_refl _⟩
  | succ k ih =>
    rw [turnTo_succ]
    have := turn_small (Tw.dir (l.getD k 0)) (Tw.dir (l.getD ((k + 1) % l.length) 0))
    omega
theorem next_dir {s : ByteArray} {k j : Nat} (hk : k < s.size) (hj : j < s.size) (e : (k + 1) % s.size = j) : turnTo s.data.toList (k + 1) = turnTo s.data.toList k + turn (Tw.dir s[k]) (Tw.dir s[j]) := by
  rw [turnTo_succ, size_data, e, List.getD_eq_getElem?_getD, List.getD_eq_getElem?_getD, List.getElem?_eq_getElem (by rw [size_data]; exact hk), List.getElem?_eq_getElem (by rw [size_data]; exact hj)]
  rfl
theorem dir_four {s : ByteArray} (h : Tw.walkOk s.data.toList = true) {k : Nat} (hk : k < s.size) : Tw.dir s[k] = 0 ∨ Tw.dir s[k] = 1 ∨ Tw.dir s[k] = 2 ∨ Tw.dir s[k] = 3 := by
  have h1 := Tw.walkOk_dir h (k := k) (by rw [size_data]; exact hk)
  rw [getElem_data s k hk] at h1
  have h2 := (Tw.dir_range s[k]).2
  omega

set_option maxRecDepth 100000 in
set_option maxHeartbeats 1600000 in
theorem implTurningOf (s : ByteArray) (w : World) (hs : s.size ≤ 1048576) (hw : DirsAt w) :
    Calls Tryz.prog 126 #[.string s] w fun e w' => e = .returned (.tuple #[.int .i64 (if Tw.closed s.data.toList then turningOf s.data.toList else 0), .bool (Tw.closed s.data.toList)]) ∧ Below w.heap.size w w' := by
  have hc := implClosedOk s w hs hw
  cases hok : Tw.closed s.data.toList
  · rw [hok] at hc
    have HC := Lib.hid hc
    clear hok hc hw
    go_enter Tryz.func126, Tryz.ntmps126
    go_wp2_with (first | (go_at_call 123; refine HC.out.mono ?_; rintro e w1 ⟨rfl, hb1⟩))
    refine bodyPost_ret (v := .tuple #[.int .i64 0, .bool false]) (by simp [results, Tryz.results126, go_sem]) rfl ?_
    exact ⟨rfl, hb1⟩
  · rw [hok] at hc
    have HC := Lib.hid hc
    have HW := Lib.hid (Tw.closed_ok hok)
    have h40 : s.size ≤ 40 := by have := Tw.walkOk_len HW.out; rwa [size_data] at this
    clear hok hc hw
    go_enter Tryz.func126, Tryz.ntmps126
    go_wp2_with (first | (go_at_call 123; refine HC.out.mono ?_; rintro e w1 ⟨rfl, hb1⟩))
    have HB := Lib.hid hb1
    clear hb1
    go_loop [4, 5] (fun t i => ∃ (k : Nat) (m : Int), i = .int .i64 k ∧ k ≤ s.size ∧ t = .int .i64 m ∧ Hid (turnTo s.data.toList k = m) ∧ -(k : Int) ≤ m ∧ m ≤ k) (fun _ i => s.size - (intOf i).toNat)
    case atStart => exact ⟨0, 0, rfl, Nat.zero_le _, rfl, rfl, by omega, by omega⟩
    case round =>
      obtain ⟨k, m, rfl, hk, rfl, HT, hm0, hm1⟩ := hrel
      by_cases hlt : k < s.size
      · obtain ⟨j, hj⟩ : ∃ j, (k + 1) % s.size = j := ⟨_, rfl⟩
        have hjs : j < s.size := by rw [← hj]; exact Nat.mod_lt _ (by omega)
        have hrem : ((k : Int) + 1).tmod (s.size : Int) = (j : Int) := by
          rw [Int.tmod_eq_emod_of_nonneg (by omega), ← hj]
          exact (Int.natCast_emod (k + 1) s.size).symm
        have HN := Lib.hid (next_dir hlt hjs hj)
        have hd1 := dir_four HW.out hlt
        have hd2 := dir_four HW.out hjs
        have hn0 : (0 : Int) < (s.size : Int) := by omega
        obtain ⟨a, ha⟩ : ∃ a, Tw.dir s[k] = a := ⟨_, rfl⟩
        obtain ⟨b, hb⟩ : ∃ b, Tw.dir s[j] = b := ⟨_, rfl⟩
        have HA : Hid (∀ W : World, Calls Tryz.prog 113 #[.int .u8 (s[k]).toNat] W fun e w' => e = .returned (.int .i64 a) ∧ W = w') := fun W => ha ▸ dirOf_any _ W
        have HB2 : Hid (∀ W : World, Calls Tryz.prog 113 #[.int .u8 (s[j]).toNat] W fun e w' => e = .returned (.int .i64 b) ∧ W = w') := fun W => hb ▸ dirOf_any _ W
        rw [ha] at HN hd1
        rw [hb] at HN hd2
        clear hj ha hb
        go_upto_region 9 with (first
          | (go_at_call 113; first
              | (refine (HA.out _).mono ?_; rintro e w2 ⟨rfl, rfl⟩)
              | (refine (HB2.out _).mono ?_; rintro e w2 ⟨rfl, rfl⟩)))
        rcases hd1 with rfl | rfl | rfl | rfl <;> rcases hd2 with rfl | rfl | rfl | rfl
        all_goals
          go_wp2_with fail
          go_round
          case rel => exact ⟨k + 1, _, by go_num, by omega, by first | rfl | (congr 1; omega), (by show _ = _; rw [HN.out, HT.out]; simp [turn]; try omega), by omega, by omega⟩
          case measure => simp [intOf]; omega
      · obtain rfl : k = s.size := by omega
        go_wp2_with fail
        refine bodyPost_ret (v := .tuple #[.int .i64 m, .bool true]) (by simp [results, Tryz.results126, go_sem]) rfl ?_
        refine ⟨?_, HB.out⟩
        rw [← HT.out]
        show _ = Ending.returned (.tuple #[.int .i64 (turningOf s.data.toList), _])
        unfold turningOf
        rw [size_data]

theorem turn_any (a b : Int) (ha : a = 0 ∨ a = 1 ∨ a = 2 ∨ a = 3) (hb : b = 0 ∨ b = 1 ∨ b = 2 ∨ b = 3) (w : World) :
    Calls Tryz.prog 107 #[.int .i64 a, .int .i64 b] w fun e w' => e = .returned (.int .i64 (turn a b)) ∧ w = w' := by
  rcases ha with rfl | rfl | rfl | rfl <;> rcases hb with rfl | rfl | rfl | rfl
  all_goals
    go_enter Tryz.func107, Tryz.ntmps107
    go_wp2
    go_ret
    exact ⟨ret_int (by decide), rfl⟩

set_option maxRecDepth 100000 in
set_option maxHeartbeats 1600000 in
theorem specTurningOf (s : ByteArray) (w : World) (hs : s.size ≤ 1048576) :
    Calls Tryz.prog 57 #[.string s] w fun e w' => e = .returned (.tuple #[.int .i64 (if Tw.closed s.data.toList then turningOf s.data.toList else 0), .bool (Tw.closed s.data.toList)]) ∧ Below w.heap.size w w' := by
  have hc := specClosedOk s w hs
  cases hok : Tw.closed s.data.toList
  · rw [hok] at hc
    have HC := Lib.hid hc
    clear hok hc
    go_enter Tryz.func57, Tryz.ntmps57
    go_wp2_with (first | (go_at_call 53; refine HC.out.mono ?_; rintro e w1 ⟨rfl, hb1⟩))
    refine bodyPost_ret (v := .tuple #[.int .i64 0, .bool false]) (by simp [results, Tryz.results57, go_sem]) rfl ?_
    exact ⟨rfl, hb1⟩
  · rw [hok] at hc
    have HC := Lib.hid hc
    have HW := Lib.hid (Tw.closed_ok hok)
    have h40 : s.size ≤ 40 := by have := Tw.walkOk_len HW.out; rwa [size_data] at this
    clear hok hc
    go_enter Tryz.func57, Tryz.ntmps57
    go_wp2_with (first | (go_at_call 53; refine HC.out.mono ?_; rintro e w1 ⟨rfl, hb1⟩))
    have HB := Lib.hid hb1
    clear hb1
    go_loopw [4, 5] (fun t i wr => ∃ (k : Nat) (m : Int), i = .int .i64 k ∧ k ≤ s.size ∧ t = .int .i64 m ∧ Hid (turnTo s.data.toList k = m) ∧ -(k : Int) ≤ m ∧ m ≤ k ∧ Hid (Below w.heap.size w wr)) (fun _ i _ => s.size - (intOf i).toNat)
    case atStart => exact ⟨0, 0, rfl, Nat.zero_le _, rfl, rfl, by omega, by omega, HB.out⟩
    case round =>
      obtain ⟨k, m, rfl, hk, rfl, HT, hm0, hm1, HBR⟩ := hrel
      by_cases hlt : k < s.size
      · obtain ⟨j, hj⟩ : ∃ j, (k + 1) % s.size = j := ⟨_, rfl⟩
        have hjs : j < s.size := by rw [← hj]; exact Nat.mod_lt _ (by omega)
        have hz1 := IntWalk.i64_in ((k : Int) + 1) ⟨by omega, by omega⟩
        have hrem : ((k : Int) + 1).tmod (s.size : Int) = (j : Int) := by
          rw [Int.tmod_eq_emod_of_nonneg (by omega), ← hj]
          exact (Int.natCast_emod (k + 1) s.size).symm
        have hrem2 : ((k : Int) + 1) % (s.size : Int) = (j : Int) := by
          rw [← hj]
          exact (Int.natCast_emod (k + 1) s.size).symm
        have hne : ¬ s = ByteArray.empty := fun e => by
          rw [e] at hlt
          exact absurd hlt (by simp)
        have hz2 := IntWalk.i64_in (j : Int) ⟨by omega, by omega⟩
        have HN := Lib.hid (next_dir hlt hjs hj)
        have hd1 := dir_four HW.out hlt
        have hd2 := dir_four HW.out hjs
        have hn0 : (0 : Int) < (s.size : Int) := by omega
        obtain ⟨p, hp⟩ : ∃ p, s[k] = p := ⟨_, rfl⟩
        obtain ⟨q, hq⟩ : ∃ q, s[j] = q := ⟨_, rfl⟩
        rw [hp] at HN hd1
        rw [hq] at HN hd2
        obtain ⟨a, ha⟩ : ∃ a, Tw.dir p = a := ⟨_, rfl⟩
        obtain ⟨b, hb⟩ : ∃ b, Tw.dir q = b := ⟨_, rfl⟩
        have HA : Hid (∀ W : World, Calls Tryz.prog 104 #[.int .u8 p.toNat] W fun e w' => e = .returned (.int .i64 a) ∧ W = w') := fun W => ha ▸ look_any _ W
        have HB2 : Hid (∀ W : World, Calls Tryz.prog 104 #[.int .u8 q.toNat] W fun e w' => e = .returned (.int .i64 b) ∧ W = w') := fun W => hb ▸ look_any _ W
        rw [ha] at HN hd1
        rw [hb] at HN hd2
        obtain ⟨t, ht⟩ : ∃ t, turn a b = t := ⟨_, rfl⟩
        have hts := turn_small a b
        have HU : Hid (∀ W : World, Calls Tryz.prog 107 #[.int .i64 a, .int .i64 b] W fun e w' => e = .returned (.int .i64 t) ∧ W = w') := fun W => ht ▸ turn_any a b hd1 hd2 W
        rw [ht] at HN hts
        have hz3 := IntWalk.i64_in (m + t) ⟨by omega, by omega⟩
        clear hj ha hb hd1 hd2 ht
        go_wp2_with fail
        refine wp_region_held_drew (S := fun _ => True) (by kernel_rfl) True.intro (fun hHeld => ?_)
        refine wpAnyH_take (i := 0) (v := .int .i64 m) rfl (by kernel_rfl) (by kernel_rfl) (by kernel_rfl) (fun _ _ _ h => h) (Or.inl ⟨by kernel_rfl, ?_⟩) (by assumption) ?_
        · intro w hSw
          go_simp
        change wpAnyH _ _ _ _ _ _ _ (Act.put _ (some 15) _) _
        simp only [Act.put, List.setIfInBounds_toArray, List.set_cons_zero, List.set_cons_succ]
        refine wpAnyH_take (i := 1) (v := .string s) rfl (by kernel_rfl) (by kernel_rfl) (by kernel_rfl) (fun _ _ _ h => h) (Or.inl ⟨by kernel_rfl, ?_⟩) (by assumption) ?_
        · intro w hSw
          go_simp
        change wpAnyH _ _ _ _ _ _ _ (Act.put _ (some 16) _) _
        simp only [Act.put, List.setIfInBounds_toArray, List.set_cons_zero, List.set_cons_succ]
        refine wpAnyH_take (i := 2) (v := .int .i64 (k : Int)) rfl (by kernel_rfl) (by kernel_rfl) (by kernel_rfl) (fun _ _ _ h => h) (Or.inl ⟨by kernel_rfl, ?_⟩) (by assumption) ?_
        · intro w hSw
          go_simp
        change wpAnyH _ _ _ _ _ _ _ (Act.put _ (some 17) _) _
        simp only [Act.put, List.setIfInBounds_toArray, List.set_cons_zero, List.set_cons_succ]
        refine wpAnyH_take (i := 3) (v := .int .u8 (p.toNat : Int)) rfl (by kernel_rfl) (by kernel_rfl) (by kernel_rfl) (fun _ _ _ h => h) (Or.inl ⟨by kernel_rfl, ?_⟩) (by assumption) ?_
        · intro w hSw
          go_simp
        change wpAnyH _ _ _ _ _ _ _ (Act.put _ (some 18) _) _
        simp only [Act.put, List.setIfInBounds_toArray, List.set_cons_zero, List.set_cons_succ]
        refine wpAnyH_take (i := 5) (v := .string s) rfl (by kernel_rfl) (by kernel_rfl) (by kernel_rfl) (fun _ _ _ h => h) (Or.inl ⟨by kernel_rfl, ?_⟩) (by assumption) ?_
        · intro w hSw
          go_simp
        change wpAnyH _ _ _ _ _ _ _ (Act.put _ (some 20) _) _
        simp only [Act.put, List.setIfInBounds_toArray, List.set_cons_zero, List.set_cons_succ]
        refine wpAnyH_take (i := 6) (v := .int .i64 (k : Int)) rfl (by kernel_rfl) (by kernel_rfl) (by kernel_rfl) (fun _ _ _ h => h) (Or.inl ⟨by kernel_rfl, ?_⟩) (by assumption) ?_
        · intro w hSw
          go_simp
        change wpAnyH _ _ _ _ _ _ _ (Act.put _ (some 21) _) _
        simp only [Act.put, List.setIfInBounds_toArray, List.set_cons_zero, List.set_cons_succ]
        refine wpAnyH_take (i := 7) (v := .int .i64 ((k : Int) + 1)) rfl (by kernel_rfl) (by kernel_rfl) (by kernel_rfl) (fun _ _ _ h => h) (Or.inl ⟨by kernel_rfl, ?_⟩) (by assumption) ?_
        · intro w hSw
          go_simp
        change wpAnyH _ _ _ _ _ _ _ (Act.put _ (some 22) _) _
        simp only [Act.put, List.setIfInBounds_toArray, List.set_cons_zero, List.set_cons_succ]
        refine wpAnyH_take (i := 8) (v := .string s) rfl (by kernel_rfl) (by kernel_rfl) (by kernel_rfl) (fun _ _ _ h => h) (Or.inl ⟨by kernel_rfl, ?_⟩) (by assumption) ?_
        · intro w hSw
          go_simp
        change wpAnyH _ _ _ _ _ _ _ (Act.put _ (some 23) _) _
        simp only [Act.put, List.setIfInBounds_toArray, List.set_cons_zero, List.set_cons_succ]
        refine wpAnyH_take (i := 9) (v := .int .i64 (s.size : Int)) rfl (by kernel_rfl) (by kernel_rfl) (by kernel_rfl) (fun _ _ _ h => h) (Or.inl ⟨by kernel_rfl, ?_⟩) (by assumption) ?_
        · intro w hSw
          go_simp
        change wpAnyH _ _ _ _ _ _ _ (Act.put _ (some 24) _) _
        simp only [Act.put, List.setIfInBounds_toArray, List.set_cons_zero, List.set_cons_succ]
        refine wpAnyH_take (i := 10) (v := .int .i64 (j : Int)) rfl (by kernel_rfl) (by kernel_rfl) (by kernel_rfl) (fun _ _ _ h => h) (Or.inl ⟨by kernel_rfl, ?_⟩) (by assumption) ?_
        · intro w hSw
          go_simp
        change wpAnyH _ _ _ _ _ _ _ (Act.put _ (some 25) _) _
        simp only [Act.put, List.setIfInBounds_toArray, List.set_cons_zero, List.set_cons_succ]
        refine wpAnyH_take (i := 11) (v := .int .u8 (q.toNat : Int)) rfl (by kernel_rfl) (by kernel_rfl) (by kernel_rfl) (fun _ _ _ h => h) (Or.inl ⟨by kernel_rfl, ?_⟩) (by assumption) ?_
        · intro w hSw
          go_simp
        change wpAnyH _ _ _ _ _ _ _ (Act.put _ (some 26) _) _
        simp only [Act.put, List.setIfInBounds_toArray, List.set_cons_zero, List.set_cons_succ]
        refine wpAnyH_ready (rs := [4]) (by kernel_rfl) (by simp) ?_
        refine AllReadyH.cons rfl (fun K hK => ?_) AllReadyH.nil
        go_simp
        go_at_call 104
        refine (HA.out _).mono ?_
        rintro e w2 ⟨rfl, rfl⟩
        go_wp2_with fail
        refine hK.out _ _ True.intro (fun hHeld => ?_)
        clear hK K
        refine wpAnyH_ready (rs := [12]) (by kernel_rfl) (by simp) ?_
        refine AllReadyH.cons rfl (fun K hK => ?_) AllReadyH.nil
        go_simp
        go_at_call 104
        refine (HB2.out _).mono ?_
        rintro e w2 ⟨rfl, rfl⟩
        go_wp2_with fail
        refine hK.out _ _ True.intro (fun hHeld => ?_)
        clear hK K
        refine wpAnyH_ready (rs := [13]) (by kernel_rfl) (by simp) ?_
        refine AllReadyH.cons rfl (fun K hK => ?_) AllReadyH.nil
        go_simp
        go_at_call 107
        refine (HU.out _).mono ?_
        rintro e w2 ⟨rfl, rfl⟩
        go_wp2_with fail
        refine hK.out _ _ True.intro (fun hHeld => ?_)
        clear hK K
        refine wpAnyH_take (i := 14) (v := .int .i64 (m + t)) rfl (by kernel_rfl) (by kernel_rfl) (by kernel_rfl) (fun _ _ _ h => h) (Or.inl ⟨by kernel_rfl, ?_⟩) (by assumption) ?_
        · intro w hSw
          go_simp
        change wpAnyH _ _ _ _ _ _ _ (Act.put _ (some 29) _) _
        simp only [Act.put, List.setIfInBounds_toArray, List.set_cons_zero, List.set_cons_succ]
        refine wpAnyH_take (i := 15) (v := .int .i64 (m + t)) rfl (by kernel_rfl) (by kernel_rfl) (by kernel_rfl) (fun _ _ _ h => h) (Or.inl ⟨by kernel_rfl, ?_⟩) (by assumption) ?_
        · intro w hSw
          go_simp
        change wpAnyH _ _ _ _ _ _ _ (Act.put _ (some 4) _) _
        simp only [Act.put, List.setIfInBounds_toArray, List.set_cons_zero, List.set_cons_succ]
        refine wpAnyH_done (by kernel_rfl) ?_ _
        go_wp2_with fail
        go_roundw
        case rel => exact ⟨k + 1, _, by go_num, by omega, rfl, (by show _ = _; rw [HN.out, HT.out]), by omega, by omega, HBR.out.drew⟩
        case measure => simp [intOf]; omega
      · obtain rfl : k = s.size := by omega
        go_wp2_with fail
        refine bodyPost_ret (v := .tuple #[.int .i64 m, .bool true]) (by simp [results, Tryz.results57, go_sem]) rfl ?_
        refine ⟨?_, HBR.out⟩
        rw [← HT.out]
        show _ = Ending.returned (.tuple #[.int .i64 (turningOf s.data.toList), _])
        unfold turningOf
        rw [size_data]

end Go.Proofs.YtccdfndnjjjgfaaGreatDoor
