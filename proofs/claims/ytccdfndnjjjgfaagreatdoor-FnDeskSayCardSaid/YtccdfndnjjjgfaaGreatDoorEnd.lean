/-
  The contract of endOf.
-/
import Derived.Test.YtccdfndnjjjgfaaGreatDoorPlaces
import Derived.Test.YtccdfndnjjjgfaaGreatDoorSteps
import Derived.Deep.RegionLaw
import Derived.Deep.RegionWith
import Derived.OneCell
namespace Go.Proofs.YtccdfndnjjjgfaaGreatDoor
open Go.RowKit

theorem two_setCell {w : World} {b : Nat} {x y : Value} {t : TypeId} (h : w.heap[b]? = some (.cells #[x, y] t (0, 0))) (u v : Value) : ((w.setCell ⟨b, 0, none⟩ u).setCell ⟨b, 1, none⟩ v).heap[b]? = some (.cells #[u, v] t (0, 0)) := by
  simp [World.setCell, Array.getElem?_modify, h]
theorem step_eq (p : Int × Int) (c : UInt8) : Tw.step p c = (p.1 + Tw.east (Tw.dir c), p.2 + Tw.north (Tw.dir c)) := rfl

set_option maxRecDepth 100000 in
set_option maxHeartbeats 3200000 in
theorem implEndOf (s : ByteArray) (w : World) (hw : DirsAt w) (hok : Tw.walkOk s.data.toList = true) :
    Calls Tryz.prog 121 #[.string s] w fun e w' => e = .returned (.agg #[.int .i64 (Tw.endOf s.data.toList).1, .int .i64 (Tw.endOf s.data.toList).2]) ∧ Below w.heap.size w w' := by
  have HOK := Lib.hid hok
  clear hok
  have h40 : s.size ≤ 40 := by have := Tw.walkOk_len HOK.out; rwa [size_data] at this
  go_enter Tryz.func121, Tryz.ntmps121
  go_wp2
  go_loopw [4] (fun i wr => ∃ k : Nat, k ≤ s.size ∧ i = .int .i64 k ∧ Below w.heap.size w wr ∧ w.heap.size + 2 ≤ wr.heap.size ∧ wr.heap[w.heap.size]? = some (.cells #[.int .i64 0, .int .i64 0] 130 (0, 0)) ∧
      wr.heap[w.heap.size + 1]? = some (.cells #[.int .i64 (Tw.placeAt s.data.toList k).1, .int .i64 (Tw.placeAt s.data.toList k).2] 130 (0, 0)))
    (fun i _ => s.size - (intOf i).toNat)
  case atStart =>
    refine ⟨0, Nat.zero_le _, rfl, ((Below.refl _ _).alloc (Nat.le_refl _) _).alloc (by simp) _, by simp, heap_alloc2_old _ _ _, ?_⟩
    rw [Tw.placeAt_zero]
    exact heap_alloc2_new _ _ _
  case round =>
    obtain ⟨k, hk, rfl, hb, hsz, hr0, hr1⟩ := hrel
    by_cases hlt : k < s.size
    · have hd : 0 ≤ Tw.dir s[k] := Tw.walkOk_dir HOK.out (k := k) (by rw [size_data]; exact hlt)
      have hd3 := (Tw.dir_range s[k]).2
      obtain ⟨p, hp⟩ : ∃ p, p = Tw.placeAt s.data.toList k := ⟨_, rfl⟩
      have hr := Tw.placeAt_range s.data.toList k
      rw [← hp] at hr hr1
      have HP := Lib.hid hp
      clear hp
      have hx2 : -1000000 ≤ p.1 ∧ p.1 ≤ 1000000 := ⟨by omega, by omega⟩
      have hy2 : -1000000 ≤ p.2 ∧ p.2 ≤ 1000000 := ⟨by omega, by omega⟩
      have hk0 : (0 : Int) ≤ (k : Int) := by omega
      have hdr := hw.below hb hw.lt
      have c0 : wr.cell? ⟨w.heap.size + 1, 0, none⟩ = some (.int .i64 p.1) := cell_of_row _ _ _ _ _ _ hr1
      have c1 : wr.cell? ⟨w.heap.size + 1, 1, none⟩ = some (.int .i64 p.2) := cell_of_row _ _ _ _ _ _ hr1
      have hs2 := hb.size
      have HR0 := Lib.hid hr0
      have HR1 := Lib.hid hr1
      clear hr0 hr1
      go_wp2_with fail
      go_region_law (first
        | (go_simp; go_at_call 113; refine (dirOf_any _ _).mono ?_; rintro e w' ⟨rfl, rfl⟩)
        | (go_simp; go_at_call 146; refine (stepped_any p.1 p.2 _ _ hdr.drew hd hd3 hx2 hy2).mono ?_; rintro e w3 ⟨rfl, hb3⟩; have e0 : w3.heap[w.heap.size + 1]? = _ := (hb3.block _ (by show w.heap.size + 1 < wr.heap.size; omega)).trans HR1.out; have e1 := cell_of_row _ _ 0 _ _ _ e0; have e2 := cell_of_row _ _ 1 _ _ _ e0; have e3 := frozen_of_row _ _ 0 _ _ e0; have e4 := frozen_of_row _ _ 1 _ _ e0; have E0 := Lib.hid e0; clear e0))
      all_goals
        go_wp2
        go_roundw
        case rel =>
          have e2 : Tw.placeAt s.data.toList (k + 1) = (p.1 + Tw.east (Tw.dir s[k]), p.2 + Tw.north (Tw.dir s[k])) := by
            rw [Tw.placeAt_succ _ _ (by rw [size_data]; exact hlt), ← HP.out]
            rfl
          have hs3 : wr.heap.size ≤ w3.heap.size := hb3.size
          refine ⟨k + 1, by omega, by go_num, ((hb.drew.trans (hb3.mono hb.size)).setCell (by simp) _).setCell (by simp) _, by simp; omega, ?_, ?_⟩
          · rw [Below.heap_setCell _ _ _ _ (by simp), Below.heap_setCell _ _ _ _ (by simp)]
            exact (hb3.block _ (by show w.heap.size < wr.heap.size; omega)).trans HR0.out
          · rw [e2]
            exact two_setCell E0.out _ _
        case measure => simp [intOf]; omega
    · obtain rfl : k = s.size := by omega
      have c0 := cell_of_row _ _ 0 _ _ _ hr1
      have c1 := cell_of_row _ _ 1 _ _ _ hr1
      have d0 := cell_of_row _ _ 0 _ _ _ hr0
      have d1 := cell_of_row _ _ 1 _ _ _ hr0
      have f0 := frozen_of_row _ _ 0 _ _ hr0
      have f1 := frozen_of_row _ _ 1 _ _ hr0
      have HR0 := Lib.hid hr0
      clear hr0 hr1
      go_wp2
      have e : Tw.endOf s.data.toList = Tw.placeAt s.data.toList s.size := by rw [← size_data, Tw.placeAt_all]
      have q := two_setCell HR0.out (.int .i64 (Tw.placeAt s.data.toList s.size).1) (.int .i64 (Tw.placeAt s.data.toList s.size).2)
      have q0 := cell_of_row _ _ 0 _ _ _ q
      have q1 := cell_of_row _ _ 1 _ _ _ q
      simp at q0 q1
      refine bodyPost_ret (v := .agg #[.int .i64 (Tw.placeAt s.data.toList s.size).1, .int .i64 (Tw.placeAt s.data.toList s.size).2]) (by simp [results, Tryz.results121, go_sem, q0, q1]) rfl ⟨by rw [e], ?_⟩
      exact (hb.setCell (by simp) _).setCell (by simp) _

end Go.Proofs.YtccdfndnjjjgfaaGreatDoor
