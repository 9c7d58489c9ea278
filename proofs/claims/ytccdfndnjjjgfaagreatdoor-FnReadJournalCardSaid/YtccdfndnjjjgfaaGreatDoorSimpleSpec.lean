/-
  The reference's SimpleOk: some truth, and nothing that was there has turned.
-/
import Derived.Test.YtccdfndnjjjgfaaGreatDoorAvoids
import Derived.Test.YtccdfndnjjjgfaaGreatDoorClosed
namespace Go.Proofs.YtccdfndnjjjgfaaGreatDoor
open Go.RowKit

set_option maxRecDepth 100000 in
set_option maxHeartbeats 3200000 in
theorem specSimple_yes (s : ByteArray) (w : World) (hs : s.size ≤ 1048576) (hok : Tw.walkOk s.data.toList = true) :
    Calls Tryz.prog 54 #[.string s] w fun e w' => (∃ b : Bool, e = .returned (.bool b)) ∧ Below w.heap.size w w' := by
  have HOK := Lib.hid hok
  clear hok
  have h40 : s.size ≤ 40 := by have := Tw.walkOk_len HOK.out; rwa [size_data] at this
  obtain ⟨ps, hps⟩ : ∃ ps, Tw.places s.data.toList = ps := ⟨_, rfl⟩
  obtain ⟨n, hn⟩ : ∃ n, ps.length = n := ⟨_, rfl⟩
  have hn41 : 1 ≤ n ∧ n ≤ 41 := by rw [← hn, ← hps, Tw.places_length, size_data]; omega
  have HPS := Lib.hid hps
  have HN := Lib.hid hn
  clear hps hn
  have hcl := fun W => specClosedOk s W hs
  obtain ⟨c, hc⟩ : ∃ c, Tw.closed s.data.toList = c := ⟨_, rfl⟩
  rw [hc] at hcl
  have HCL := Lib.hid hcl
  clear hcl hc
  go_enter Tryz.func54, Tryz.ntmps54
  go_wp2_with (first
    | (go_at_call 50; refine (specPlacesOf_n _ _ hs HOK.out ps n HPS.out HN.out).mono ?_; rintro e w1 ⟨g, cap, bs, rfl, hbl, hown, hrows, hb1⟩))
  have HBL := Lib.hid hbl
  clear hbl
  have hgb := hown.lt g rfl
  have hcell : Hid (∀ (i : Nat), i < n → ∃ (p : Int × Int) (b : Nat), b < w1.heap.size ∧ w1.cell? ⟨g, i, none⟩ = some (.slice (some ⟨b, 0, none⟩) 2 2) ∧ w1.cell? ⟨b, 0, none⟩ = some (.int .i64 p.1) ∧ w1.cell? ⟨b, 1, none⟩ = some (.int .i64 p.2)) := by
    intro i hi
    have hp : ps[i]? = some (ps[i]'(by rw [HN.out]; exact hi)) := List.getElem?_eq_getElem _
    have hbb : bs[i]? = some (bs[i]'(by rw [HBL.out]; exact hi)) := List.getElem?_eq_getElem _
    have hh := hrows i _ _ hp hbb
    exact ⟨_, _, lt_of_heap hh, row_cell hown hbb, (pair_cells hh).1, (pair_cells hh).2⟩
  clear hrows
  go_loopw [4, 5] (fun i _ wr => ∃ k : Nat, 1 ≤ k ∧ k ≤ n ∧ i = .int .i64 k ∧ Below w1.heap.size w1 wr) (fun i _ _ => n - (intOf i).toNat)
  case atStart => exact ⟨1, Nat.le_refl _, by omega, rfl, Below.refl _ _⟩
  case round =>
    obtain ⟨k, hk1, hk, rfl, hbr⟩ := hrel
    by_cases hlt : k < n
    · go_wp2_with fail
      obtain ⟨wo, hwo⟩ : ∃ wo : World, wo = wr := ⟨_, rfl⟩
      subst hwo
      go_loopw [5] (fun j wr => ∃ m : Nat, 1 ≤ m ∧ m ≤ k ∧ j = .int .i64 m ∧ Below w1.heap.size w1 wr) (fun j _ => k - (intOf j).toNat)
      case atStart => exact ⟨1, Nat.le_refl _, hk1, rfl, hbr⟩
      case round =>
        obtain ⟨m, hm1, hm, rfl, hbr2⟩ := hrel
        by_cases hlt2 : m < k
        · obtain ⟨p, b, hb, c1, c2, c3⟩ := hcell.out k hlt
          obtain ⟨q, d, hd, e1, e2, e3⟩ := hcell.out m (by omega)
          have C1 := (hbr2.cell (p := ⟨g, k, none⟩) hgb.2).trans c1
          have C2 := (hbr2.cell (p := ⟨b, 0, none⟩) hb).trans c2
          have C3 := (hbr2.cell (p := ⟨b, 1, none⟩) hb).trans c3
          have E1 := (hbr2.cell (p := ⟨g, m, none⟩) hgb.2).trans e1
          have E2 := (hbr2.cell (p := ⟨d, 0, none⟩) hd).trans e2
          have E3 := (hbr2.cell (p := ⟨d, 1, none⟩) hd).trans e3
          clear c1 c2 c3 e1 e2 e3
          have i1 : (0 : Int) ≤ (k : Int) := by omega
          have i2 : (k : Int) < (n : Int) := by omega
          have i3 : (0 : Int) ≤ (m : Int) := by omega
          have i4 : (m : Int) < (n : Int) := by omega
          have i5 : (m : Int) < (k : Int) := by omega
          cases hx1 : (p.1 == q.1)
          · go_wp2_with fail
            go_quiet (fail)
            go_wp2
            go_roundw
            case rel => exact ⟨m + 1, by omega, by omega, by go_num, below_drewN hbr2 _⟩
            case measure => simp [intOf]; omega
          · cases hy1 : (p.2 == q.2)
            · go_wp2_with fail
              go_quiet (fail)
              go_wp2
              go_roundw
              case rel => exact ⟨m + 1, by omega, by omega, by go_num, below_drewN hbr2 _⟩
              case measure => simp [intOf]; omega
            · go_wp2_with fail
              go_quiet (fail)
              go_wp2
              go_ret
              exact ⟨⟨_, rfl⟩, below_drewN (hb1.trans (hbr2.mono hb1.size)) _⟩
        · obtain rfl : m = k := by omega
          go_wp2
          go_roundw
          case rel => exact ⟨m + 1, by omega, by omega, by go_num, hbr2⟩
          case measure => simp [intOf]; omega
    · obtain rfl : k = n := by omega
      go_wp2_with (first | (go_at_call 53; refine (HCL.out _).mono ?_; rintro e w2 ⟨rfl, hb2⟩))
      go_ret
      exact ⟨⟨_, rfl⟩, (hb1.trans (hbr.mono hb1.size)).trans (hb2.mono (hb1.trans (hbr.mono hb1.size)).size)⟩

set_option maxHeartbeats 800000 in
theorem specSimple_any (s : ByteArray) (w : World) (hs : s.size ≤ 1048576) :
    Calls Tryz.prog 54 #[.string s] w fun e w' => (∃ b : Bool, e = .returned (.bool b)) ∧ Below w.heap.size w w' := by
  cases hok : Tw.walkOk s.data.toList
  · have HOK := Lib.hid hok
    go_enter Tryz.func54, Tryz.ntmps54
    go_wp2_with (first
      | (go_at_call 50; refine (specPlacesOf_no _ _ hs HOK.out).mono ?_; rintro e w1 ⟨⟨a, c, rfl⟩, hb1⟩))
    refine wp_loop_rounds 1 ?_
    rw [rounds_succ]
    go_wp2_with (first | (go_at_call 53; refine (specClosedOk s _ hs).mono ?_; rintro e w2 ⟨rfl, hb2⟩))
    go_ret
    exact ⟨⟨_, rfl⟩, hb1.trans (hb2.mono hb1.size)⟩
  · exact specSimple_yes s w hs hok

end Go.Proofs.YtccdfndnjjjgfaaGreatDoor
