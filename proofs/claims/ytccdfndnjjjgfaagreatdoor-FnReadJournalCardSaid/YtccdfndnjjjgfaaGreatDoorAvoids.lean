/-
  Contracts of AvoidsOk (both).
-/
import Derived.Test.YtccdfndnjjjgfaaGreatDoorAllDiff
import Derived.Test.YtccdfndnjjjgfaaGreatDoorPlacesSpec
import Derived.BigQuiet
import Derived.Deep.QuietTactic
namespace Go.Proofs.YtccdfndnjjjgfaaGreatDoor
open Go.RowKit

theorem places_near (l : List UInt8) (h : l.length ≤ 1000) : ∀ p ∈ Tw.places l, near p := by
  intro p hp
  obtain ⟨k, hk, rfl⟩ := List.mem_map.1 hp
  have hk' : k < l.length + 1 := List.mem_range.1 hk
  have hr := Tw.placeAt_range l k
  unfold near
  omega

set_option maxHeartbeats 800000 in
theorem implAvoidsOk (s : ByteArray) (w : World) (hs : s.size ≤ 1048576) (hw : DirsAt w) :
    Calls Tryz.prog 125 #[.string s] w fun e w' => e = .returned (.bool (Tw.avoids s.data.toList)) ∧ Below w.heap.size w w' := by
  cases hok : Tw.walkOk s.data.toList
  · have HOK := Lib.hid hok
    clear hok
    go_enter Tryz.func125, Tryz.ntmps125
    go_wp2_with (first | (go_at_call 67; refine (implWalkOk_is _ _ hs false HOK.out).mono ?_; rintro e w' ⟨rfl, rfl⟩))
    go_ret
    exact ⟨ret_bool (by rw [Tw.avoids, HOK.out, Bool.false_and]), Below.refl _ _⟩
  · have HOK := Lib.hid hok
    clear hok
    have h40 : s.size ≤ 40 := by have := Tw.walkOk_len HOK.out; rwa [size_data] at this
    have hnear := places_near s.data.toList (by rw [size_data]; omega)
    have HPL := Lib.hid (Tw.places_length s.data.toList)
    go_enter Tryz.func125, Tryz.ntmps125
    go_wp2_with (first
      | (go_at_call 67; refine (implWalkOk_is _ _ hs true HOK.out).mono ?_; rintro e w' ⟨rfl, rfl⟩)
      | (go_at_call 147; refine (implPlacesOf _ _ hw HOK.out).mono ?_; rintro e w1 ⟨v, rfl, ⟨g, cap, rfl, hown⟩, hb1⟩)
      | (go_at_call 148; refine (allDifferent_any _ g _ _ _ rfl (by rw [HPL.out]; omega) (by rw [HPL.out, size_data]; omega) hnear (hown.lt g rfl).2 (fun i p hp => place_cells hown hp)).mono ?_; rintro e w2 ⟨rfl, hb2⟩))
    go_ret
    exact ⟨ret_bool (by rw [Tw.avoids, HOK.out, Bool.true_and]), hb1.trans (hb2.mono hb1.size)⟩

/-- Up to place k no place is there twice. -/
def apartTo (ps : List (Int × Int)) (k : Nat) : Prop := ∀ i j, j < i → i < k → ps[j]? ≠ ps[i]?
theorem apartTo_succ {ps : List (Int × Int)} {k : Nat} (h : apartTo ps k) (hk : ∀ j, j < k → ps[j]? ≠ ps[k]?) : apartTo ps (k + 1) := by
  intro i j hji hi
  rcases Nat.lt_or_ge i k with h1 | h1
  · exact h i j hji h1
  · obtain rfl : i = k := by omega
    exact hk j hji
theorem noTwice_of_apart {ps : List (Int × Int)} (h : apartTo ps ps.length) : Tw.noTwice ps = true := Tw.noTwice_iff.2 fun i j hij hj => h j i hij hj

set_option maxRecDepth 100000 in
set_option maxHeartbeats 3200000 in
theorem specAvoidsOk_yes (s : ByteArray) (w : World) (hs : s.size ≤ 1048576) (hok : Tw.walkOk s.data.toList = true) :
    Calls Tryz.prog 55 #[.string s] w fun e w' => e = .returned (.bool (Tw.avoids s.data.toList)) ∧ Below w.heap.size w w' := by
  have HOK := Lib.hid hok
  clear hok
  have h40 : s.size ≤ 40 := by have := Tw.walkOk_len HOK.out; rwa [size_data] at this
  obtain ⟨ps, hps⟩ : ∃ ps, Tw.places s.data.toList = ps := ⟨_, rfl⟩
  obtain ⟨n, hn⟩ : ∃ n, ps.length = n := ⟨_, rfl⟩
  have hn41 : n ≤ 41 := by rw [← hn, ← hps, Tw.places_length, size_data]; omega
  have HPS := Lib.hid hps
  have HN := Lib.hid hn
  clear hps hn
  go_enter Tryz.func55, Tryz.ntmps55
  go_wp2_with (first
    | (go_at_call 50; refine (specPlacesOf_n _ _ hs HOK.out ps n HPS.out HN.out).mono ?_; rintro e w1 ⟨g, cap, bs, rfl, hbl, hown, hrows, hb1⟩))
  have HBL := Lib.hid hbl
  clear hbl
  have hgb := hown.lt g rfl
  have hcell : Hid (∀ (i : Nat), i < n → ∃ (p : Int × Int) (b : Nat), ps[i]? = some p ∧ b < w1.heap.size ∧ w1.cell? ⟨g, i, none⟩ = some (.slice (some ⟨b, 0, none⟩) 2 2) ∧ w1.cell? ⟨b, 0, none⟩ = some (.int .i64 p.1) ∧ w1.cell? ⟨b, 1, none⟩ = some (.int .i64 p.2)) := by
    intro i hi
    have hp : ps[i]? = some (ps[i]'(by rw [HN.out]; exact hi)) := List.getElem?_eq_getElem _
    have hbb : bs[i]? = some (bs[i]'(by rw [HBL.out]; exact hi)) := List.getElem?_eq_getElem _
    have hh := hrows i _ _ hp hbb
    exact ⟨_, _, hp, lt_of_heap hh, row_cell hown hbb, (pair_cells hh).1, (pair_cells hh).2⟩
  clear hrows
  go_loopw [4, 5] (fun i _ wr => ∃ k : Nat, k ≤ n ∧ i = .int .i64 k ∧ Below w1.heap.size w1 wr ∧ Hid (apartTo ps k)) (fun i _ _ => n - (intOf i).toNat)
  case atStart => exact ⟨0, Nat.zero_le _, rfl, Below.refl _ _, fun i j h1 h2 => by omega⟩
  case round =>
    obtain ⟨k, hk, rfl, hbr, HA⟩ := hrel
    by_cases hlt : k < n
    · go_wp2_with fail
      obtain ⟨wo, hwo⟩ : ∃ wo : World, wo = wr := ⟨_, rfl⟩
      subst hwo
      go_loopw [5] (fun j wr => ∃ m : Nat, m ≤ k ∧ j = .int .i64 m ∧ Below w1.heap.size w1 wr ∧ Hid (∀ j, j < m → ps[j]? ≠ ps[k]?)) (fun j _ => k - (intOf j).toNat)
      case atStart => exact ⟨0, Nat.zero_le _, rfl, hbr, fun j h => by omega⟩
      case round =>
        obtain ⟨m, hm, rfl, hbr2, HM⟩ := hrel
        by_cases hlt2 : m < k
        · obtain ⟨p, b, hp, hb, c1, c2, c3⟩ := hcell.out k hlt
          obtain ⟨q, d, hq, hd, e1, e2, e3⟩ := hcell.out m (by omega)
          have C1 := (hbr2.cell (p := ⟨g, k, none⟩) hgb.2).trans c1
          have C2 := (hbr2.cell (p := ⟨b, 0, none⟩) hb).trans c2
          have C3 := (hbr2.cell (p := ⟨b, 1, none⟩) hb).trans c3
          have E1 := (hbr2.cell (p := ⟨g, m, none⟩) hgb.2).trans e1
          have E2 := (hbr2.cell (p := ⟨d, 0, none⟩) hd).trans e2
          have E3 := (hbr2.cell (p := ⟨d, 1, none⟩) hd).trans e3
          have HP := Lib.hid hp
          have HQ := Lib.hid hq
          clear c1 c2 c3 e1 e2 e3 hp hq
          have i1 : (0 : Int) ≤ (k : Int) := by omega
          have i2 : (k : Int) < (n : Int) := by omega
          have i3 : (0 : Int) ≤ (m : Int) := by omega
          have i4 : (m : Int) < (n : Int) := by omega
          have i5 : (m : Int) < (k : Int) := by omega
          by_cases hx : p.1 = q.1
          · have hx1 : (p.1 == q.1) = true := by simpa using hx
            have HX := Lib.hid hx
            clear hx
            by_cases hy : p.2 = q.2
            · have hy1 : (p.2 == q.2) = true := by simpa using hy
              have HY := Lib.hid hy
              clear hy
              go_wp2_with fail
              go_quiet (fail)
              go_wp2
              go_ret
              refine ⟨ret_bool ?_, below_drewN (hb1.trans (hbr2.mono hb1.size)) _⟩
              have e : Tw.noTwice ps = false := Tw.noTwice_false hlt2 (by rw [HN.out]; exact hlt) (by rw [HP.out, HQ.out]; exact congrArg some (Prod.ext HX.out.symm HY.out.symm))
              rw [Tw.avoids, HPS.out, e, Bool.and_false]
            · have hy1 : (p.2 == q.2) = false := by simpa using hy
              have HY := Lib.hid hy
              clear hy
              go_wp2_with fail
              go_quiet (fail)
              go_wp2
              go_roundw
              case rel =>
                refine ⟨m + 1, by omega, by go_num, below_drewN hbr2 _, ?_⟩
                show ∀ j, j < m + 1 → _
                intro j hj
                rcases Nat.lt_or_ge j m with h1 | h1
                · exact HM.out j h1
                · obtain rfl : j = m := by omega
                  rw [HP.out, HQ.out]
                  intro h
                  exact HY.out (by rw [Option.some.inj h])
              case measure => simp [intOf]; omega
          · have hx1 : (p.1 == q.1) = false := by simpa using hx
            have HX := Lib.hid hx
            clear hx
            go_wp2_with fail
            go_quiet (fail)
            go_wp2
            go_roundw
            case rel =>
              refine ⟨m + 1, by omega, by go_num, below_drewN hbr2 _, ?_⟩
              show ∀ j, j < m + 1 → _
              intro j hj
              rcases Nat.lt_or_ge j m with h1 | h1
              · exact HM.out j h1
              · obtain rfl : j = m := by omega
                rw [HP.out, HQ.out]
                intro h
                exact HX.out (by rw [Option.some.inj h])
            case measure => simp [intOf]; omega
        · obtain rfl : m = k := by omega
          go_wp2
          go_roundw
          case rel => exact ⟨m + 1, by omega, by go_num, hbr2, apartTo_succ HA.out HM.out⟩
          case measure => simp [intOf]; omega
    · obtain rfl : k = n := by omega
      go_wp2_with (first | (go_at_call 65; refine (specWalkOk_is _ _ hs true HOK.out).mono ?_; rintro e w' ⟨rfl, rfl⟩))
      go_ret
      refine ⟨ret_bool ?_, hb1.trans (hbr.mono hb1.size)⟩
      have e : Tw.noTwice ps = true := noTwice_of_apart (by rw [HN.out]; exact HA.out)
      rw [Tw.avoids, HPS.out, e, HOK.out]
      rfl

set_option maxHeartbeats 800000 in
theorem specAvoidsOk (s : ByteArray) (w : World) (hs : s.size ≤ 1048576) :
    Calls Tryz.prog 55 #[.string s] w fun e w' => e = .returned (.bool (Tw.avoids s.data.toList)) ∧ Below w.heap.size w w' := by
  cases hok : Tw.walkOk s.data.toList
  · have HOK := Lib.hid hok
    go_enter Tryz.func55, Tryz.ntmps55
    go_wp2_with (first
      | (go_at_call 50; refine (specPlacesOf_no _ _ hs HOK.out).mono ?_; rintro e w1 ⟨⟨a, c, rfl⟩, hb1⟩))
    refine wp_loop_rounds 1 ?_
    rw [rounds_succ]
    go_wp2_with (first | (go_at_call 65; refine (specWalkOk_is _ _ hs false HOK.out).mono ?_; rintro e w' ⟨rfl, rfl⟩))
    go_ret
    exact ⟨ret_bool (by rw [Tw.avoids, HOK.out, Bool.false_and]), hb1⟩
  · exact specAvoidsOk_yes s w hs hok

end Go.Proofs.YtccdfndnjjjgfaaGreatDoor
