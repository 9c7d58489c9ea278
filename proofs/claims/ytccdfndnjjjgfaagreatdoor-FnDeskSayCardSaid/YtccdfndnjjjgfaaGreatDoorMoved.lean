/-
  Contracts of movedRound, MovedOn (both).
-/
import Derived.Test.YtccdfndnjjjgfaaGreatDoorClosed
import Derived.Test.YtccdfndnjjjgfaaGreatDoorWaysImpl
import Derived.Laws.IdiomStrings
import Derived.BigQuiet
namespace Go.Proofs.YtccdfndnjjjgfaaGreatDoor
open Go.RowKit

theorem bytesOf_append (a b : List UInt8) : bytesOf (a ++ b) = bytesOf a ++ bytesOf b := by simp [bytesOf]
theorem bytesOf_length (a : List UInt8) : (bytesOf a).length = a.length := by simp [bytesOf]
theorem bytesOf_one (a : List UInt8) : ∀ u ∈ bytesOf a, u.oneCell' = true := by
  intro u hu
  obtain ⟨b, _, rfl⟩ := List.mem_map.1 hu
  rfl
/-- A row of bytes lies from cell o of block g on. -/
def BytesAt (w : World) (g : Nat) (l : List UInt8) : Prop := ∀ (i : Nat) (b : UInt8), l[i]? = some b → w.cell? ⟨g, i, none⟩ = some (.int .u8 b.toNat)
theorem BytesAt.news {w : World} {g : Nat} {l : List UInt8} (h : BytesAt w g l) (k m : Nat) : ∀ j u, (bytesOf ((l.drop k).take m))[j]? = some u → w.cell? ((⟨g, k, none⟩ : Addr).add j) = some u := by
  intro j u hu
  have ha : (⟨g, k, none⟩ : Addr).add j = ⟨g, k + j, none⟩ := by unfold Addr.add; split <;> simp_all
  rw [ha]
  unfold bytesOf at hu
  rw [List.getElem?_map] at hu
  obtain ⟨b, hb, rfl⟩ := Option.map_eq_some_iff.1 hu
  rw [List.getElem?_take] at hb
  split at hb
  · rw [List.getElem?_drop] at hb
    exact h _ _ hb
  · cases hb
theorem BytesAt.below {w w' : World} {B g : Nat} {l : List UInt8} (h : BytesAt w g l) (hb : Below B w w') (hg : g < B) : BytesAt w' g l := fun i b hi => (hb.cell (p := ⟨g, i, none⟩) hg).trans (h i b hi)
theorem BytesAt.grown {w w' : World} {row : Option Nat} {g : Nat} {l : List UInt8} (h : BytesAt w g l) (hg : w.grownBy w' row) (hlt : g < w.heap.size) (hne : some g ≠ row) : BytesAt w' g l := fun i b hi => (hg.cell_far ⟨g, i, none⟩ hlt hne).trans (h i b hi)

set_option maxRecDepth 100000 in
set_option maxHeartbeats 1600000 in
theorem movedRound_any (w : World) (g n c k : Nat) (l : List UInt8) (hn : l.length = n) (h1 : n ≤ 1000) (hk : k < n) (hc : n ≤ c) (hg : g < w.heap.size) (hl : BytesAt w g l) :
    Calls Tryz.prog 143 #[.slice (some ⟨g, 0, none⟩) n c, .int .i64 k] w fun e w' => ∃ b cap, e = .returned (.slice (some ⟨b, 0, none⟩) n cap) ∧ w'.ownsRow w.heap.size 5 1 (.slice (some ⟨b, 0, none⟩) n cap) n (bytesOf (Tw.moved l k)) ∧ Below w.heap.size w w' := by
  obtain ⟨i0, hi0, hz0, hz1, hz2⟩ := info_parts u8info
  have HN := Lib.hid hn
  have HL := Lib.hid hl
  clear hn hl
  have hkc : k < c := by omega
  go_enter Tryz.func143, Tryz.ntmps143
  go_wp2_with (first
    | (at_make; refine wpList_make_own _ rfl _ _ 36 rfl w.heap.size 5 i0 _ 1 Tryz.underlying36 hi0 hz0 hz1 .i64 .i64 _ n rfl rfl rfl (by rw [hz2]; omega) (by unfold maxLen; omega) (Nat.le_refl _) ?_; intro w1 hown1 hg1; have hL1 := HL.out.grown hg1 hg (by simp); have hs1 := hg1.size)
    | (at_builtin; refine wpList_append_fits _ rfl (.tmp 9) (.tmp 12) 36 rfl w.heap.size 5 i0 1 Tryz.underlying36 hi0 hz1 w.heap.size 0 n [] rfl hown1 ⟨g, k, none⟩ (n - k) (c - k) (bytesOf ((l.drop k).take (n - k))) rfl (by rw [bytesOf_length, List.length_take, List.length_drop, HN.out]; omega) (hL1.news k (n - k)) (bytesOf_one _) (by omega) ?_; intro w2 hown2 hg2; have hL2 := hL1.grown hg2 (by omega) (by simp; omega); have hs2 := hg2.size; simp only [Nat.zero_add, List.nil_append] at hown2)
    | (at_builtin; refine wpList_append_fits _ rfl (.tmp 14) (.tmp 17) 36 rfl w.heap.size 5 i0 1 Tryz.underlying36 hi0 hz1 w.heap.size (n - k) n _ rfl hown2 ⟨g, 0, none⟩ k c (bytesOf ((l.drop 0).take k)) rfl (by rw [bytesOf_length, List.length_take, List.length_drop, HN.out]; omega) (hL2.news 0 k) (bytesOf_one _) (by omega) ?_; intro w3 hown3 hg3))
  go_ret
  have e1 : n - k + k = n := by omega
  have e2 : bytesOf ((l.drop k).take (n - k)) ++ bytesOf ((l.drop 0).take k) = bytesOf (Tw.moved l k) := by
    rw [← bytesOf_append, List.drop_zero, List.take_of_length_le (by rw [List.length_drop, HN.out]; exact Nat.le_refl _)]
    rfl
  rw [e1, e2] at hown3
  have hb1 : Below w.heap.size w w1 := (Below.refl _ _).grown hg1 (Nat.le_refl _) (fun j hj => by cases hj)
  have hb2 := hb1.grown hg2 hb1.size (fun j hj => by cases hj; exact Nat.le_refl _)
  have hb3 := hb2.grown hg3 hb2.size (fun j hj => by cases hj; exact Nat.le_refl _)
  exact ⟨_, _, by simp [e1], hown3, hb3⟩

/-! ### MovedOn -/
theorem moved_str (s : ByteArray) (k : Nat) : s.extract k s.size ++ s.extract 0 k = Tw.str (Tw.moved s.data.toList k) := by
  rw [← Tw.str_of (s.extract k s.size), ← Tw.str_of (s.extract 0 k), Tw.str_append, Lib.extract_data, Lib.extract_data]
  congr 1
  unfold Tw.moved
  rw [List.take_of_length_le (by simp), List.drop_zero, Nat.sub_zero]

set_option maxHeartbeats 800000 in
theorem specMovedOn (s : ByteArray) (k : Int) (w : World) (hs : s.size ≤ 1048576) (hk : -9223372036854775808 ≤ k ∧ k ≤ 9223372036854775807) :
    Calls Tryz.prog 137 #[.string s, .int .i64 k] w fun e w' => e = .returned (.string (Tw.str (Tw.movedOn s.data.toList k))) ∧ Below w.heap.size w w' := by
  cases hcl : Tw.closed s.data.toList
  · have HCL := Lib.hid hcl
    clear hcl
    have hc := (specClosedOk s w hs)
    rw [HCL.out] at hc
    have HC := Lib.hid hc
    clear hc
    go_enter Tryz.func137, Tryz.ntmps137
    go_wp2_with (first | (go_at_call 53; refine HC.out.mono ?_; rintro e w1 ⟨rfl, hb1⟩))
    go_ret
    exact ⟨ret_str (by simp [Tw.movedOn, HCL.out]; rfl), hb1⟩
  · have HCL := Lib.hid hcl
    clear hcl
    have hc := (specClosedOk s w hs)
    rw [HCL.out] at hc
    have HC := Lib.hid hc
    clear hc
    have h40 : s.size ≤ 40 := by have := Tw.walkOk_len (Tw.closed_ok HCL.out); rwa [size_data] at this
    have hpos : 0 < s.size := by have := Tw.closed_len HCL.out; rwa [size_data] at this
    by_cases hin : 0 ≤ k ∧ k < s.size
    · obtain ⟨k, rfl⟩ := Int.eq_ofNat_of_zero_le hin.1
      have hlt : k < s.size := by omega
      clear hin
      go_enter Tryz.func137, Tryz.ntmps137
      go_wp2_with (first
        | (go_at_call 53; refine HC.out.mono ?_; rintro e w1 ⟨rfl, hb1⟩)
        | (go_at_call 110; refine (in_yes _ _ _ _ (by omega) (by omega)).mono ?_; rintro e w' ⟨rfl, rfl⟩))
      go_quiet (fail)
      go_wp2
      go_ret
      have h : (k : Int) < (s.data.toList.length : Int) := by rw [size_data]; omega
      exact ⟨ret_str (by rw [Tw.movedOn_eq HCL.out (by omega)]; exact moved_str s k), below_drewN hb1 _⟩
    · have HIN := Lib.hid hin
      clear hin
      go_enter Tryz.func137, Tryz.ntmps137
      go_wp2_with (first
        | (go_at_call 53; refine HC.out.mono ?_; rintro e w1 ⟨rfl, hb1⟩)
        | (go_at_call 110; refine (in_no _ _ _ _ (fun h => HIN.out ⟨h.1, by omega⟩)).mono ?_; rintro e w' ⟨rfl, rfl⟩))
      go_ret
      refine ⟨ret_str ?_, hb1⟩
      have e : Tw.movedOn s.data.toList k = [] := by
        unfold Tw.movedOn
        rw [if_neg]
        intro h
        simp only [Bool.and_eq_true, decide_eq_true_eq] at h
        rw [size_data] at h
        exact HIN.out ⟨h.1.2, h.2⟩
      rw [e]
      rfl

theorem row_bytes {s : ByteArray} {cap j : Nat} {b : UInt8} (h : s.data.toList[j]? = some b) : (bytesRow s cap)[j]? = some (.int .u8 b.toNat) := by
  have hj : j < s.size := by have := (List.getElem?_eq_some_iff.1 h).1; rwa [size_data] at this
  unfold bytesRow
  rw [Array.getElem?_append_left (by simpa using hj), Array.getElem?_map, ← Array.getElem?_toList, h]
  rfl

set_option maxRecDepth 100000 in
set_option maxHeartbeats 1600000 in
theorem implMovedOn_yes (s : ByteArray) (k : Nat) (w : World) (hs : s.size ≤ 1048576) (hw : DirsAt w) (hcl : Tw.closed s.data.toList = true) (hk : k < s.size) :
    Calls Tryz.prog 119 #[.string s, .int .i64 k] w fun e w' => e = .returned (.string (Tw.str (Tw.movedOn s.data.toList k))) ∧ Below w.heap.size w w' := by
  have HCL := Lib.hid hcl
  clear hcl
  have hc := (implClosedOk s w hs hw)
  rw [HCL.out] at hc
  have HC := Lib.hid hc
  clear hc
  have h40 : s.size ≤ 40 := by have := Tw.walkOk_len (Tw.closed_ok HCL.out); rwa [size_data] at this
  go_enter Tryz.func119, Tryz.ntmps119
  go_wp2_with (first
    | (go_at_call 123; refine HC.out.mono ?_; rintro e w1 ⟨rfl, hb1⟩; have hcv := run_bytes_of_string (P := Tryz.prog) w1 9 36 5 s Tryz.underlying9 Tryz.underlying36 Tryz.underlying5))
  refine (movedRound_any _ w1.heap.size s.size _ k s.data.toList (size_data s) (by omega) hk (by have := grownCap_ge w1 s.size 0 5; omega) (by simp) (by intro i b hi; exact (World.cell?_alloc_mark w1 _ _ _ i).trans (row_bytes hi))).mono ?_
  rintro e w2 ⟨b, cap, rfl, hown2, hb2⟩
  have hcv2 := conv_own hown2
  have hs1 := hb1.size
  have hb3 : Below w.heap.size w w2 := ((hb1.alloc hs1 _).drew).trans (hb2.mono (by simp; omega))
  clear hb2 hown2 hcv
  go_wp2
  go_ret
  exact ⟨ret_str (by rw [Tw.movedOn_eq HCL.out (by rw [size_data]; exact hk)]), hb3⟩

set_option maxHeartbeats 800000 in
theorem implMovedOn (s : ByteArray) (k : Int) (w : World) (hs : s.size ≤ 1048576) (hw : DirsAt w) :
    Calls Tryz.prog 119 #[.string s, .int .i64 k] w fun e w' => e = .returned (.string (Tw.str (Tw.movedOn s.data.toList k))) ∧ Below w.heap.size w w' := by
  cases hcl : Tw.closed s.data.toList
  · have HCL := Lib.hid hcl
    clear hcl
    have hc := (implClosedOk s w hs hw)
    rw [HCL.out] at hc
    have HC := Lib.hid hc
    clear hc
    go_enter Tryz.func119, Tryz.ntmps119
    go_wp2_with (first | (go_at_call 123; refine HC.out.mono ?_; rintro e w1 ⟨rfl, hb1⟩))
    go_ret
    exact ⟨ret_str (by simp [Tw.movedOn, HCL.out]; rfl), hb1⟩
  · by_cases hin : 0 ≤ k ∧ k < s.size
    · obtain ⟨k, rfl⟩ := Int.eq_ofNat_of_zero_le hin.1
      exact implMovedOn_yes s k w hs hw hcl (by omega)
    · have hout : k < 0 ∨ (s.size : Int) ≤ k := by omega
      have HCL := Lib.hid hcl
      clear hcl
      have hc := (implClosedOk s w hs hw)
      rw [HCL.out] at hc
      have HC := Lib.hid hc
      clear hc
      have e : Tw.movedOn s.data.toList k = [] := by
        unfold Tw.movedOn
        rw [if_neg]
        intro h
        simp only [Bool.and_eq_true, decide_eq_true_eq] at h
        rw [size_data] at h
        omega
      have HE := Lib.hid e
      clear e hin
      rcases hout with hout | hout
      all_goals
        go_enter Tryz.func119, Tryz.ntmps119
        go_wp2_with (first | (go_at_call 123; refine HC.out.mono ?_; rintro e w1 ⟨rfl, hb1⟩))
        go_ret
        exact ⟨ret_str (by rw [HE.out]; rfl), hb1⟩

end Go.Proofs.YtccdfndnjjjgfaaGreatDoor
