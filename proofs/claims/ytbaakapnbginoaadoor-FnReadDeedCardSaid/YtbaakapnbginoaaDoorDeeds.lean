/-
  Slices of deeds: how they lie, and contracts of szDeedS, toDeedS, eqDeed, eqDeedS.
-/
import Derived.Test.YtbaakapnbginoaaDoorDeed
import Derived.Test.YtbaakapnbginoaaDoorStrs
import Derived.Test.YtbaakapnbginoaaDoorPlacesOf
import Derived.Deep.Slices
namespace Go.Proofs.YtbaakapnbginoaaDoor
open Go.RowKit

theorem add_next (a : Addr) (i : Nat) : a.add (i + 1) = ⟨(a.add i).block, (a.add i).off + 1, none⟩ := by
  rw [← Go.Deep.add_add]
  simp [Addr.add]
/-- A slice of deeds as it lies: nil, or its numbers two by two. -/
def DeedsAt (w : World) (v : Value) (ds : List (Int × Int)) : Prop :=
  (v = .slice none 0 0 ∧ ds = []) ∨ ∃ a cap, v = .slice (some a) ds.length cap ∧ ds.length ≤ cap ∧ ∀ (j : Nat) (d : Int × Int), ds[j]? = some d → w.cell? (a.add (j * 2)) = some (.int .i64 d.1) ∧ w.cell? ⟨(a.add (j * 2)).block, (a.add (j * 2)).off + 1, none⟩ = some (.int .i64 d.2)
theorem DeedsAt.below' {w w' : World} {v : Value} {ds : List (Int × Int)} (h : DeedsAt w v ds) (hb : Below w.heap.size w w') : DeedsAt w' v ds := by
  rcases h with h | ⟨a, cap, rfl, hl, hc⟩
  · exact .inl h
  · exact .inr ⟨a, cap, rfl, hl, fun j d hd => ⟨cell_keep hb (hc j d hd).1, cell_keep hb (hc j d hd).2⟩⟩

theorem own_deeds {w : World} {base g n cap : Nat} {ds : List (Int × Int)} (h : w.ownsRow base 23 2 (.slice (some ⟨g, 0, none⟩) n cap) n (pairCells ds)) (hn : ds.length = n) (hcap : n ≤ cap) : DeedsAt w (.slice (some ⟨g, 0, none⟩) n cap) ds := by
  refine .inr ⟨⟨g, 0, none⟩, cap, by rw [hn], by omega, fun j d hd => ?_⟩
  have e : ∀ i, (⟨g, 0, none⟩ : Addr).add i = ⟨g, i, none⟩ := fun i => by unfold Addr.add; split <;> simp_all
  rw [e]
  exact ⟨own_cell h (pairCells_get ds j d hd).1, own_cell h (pairCells_get ds j d hd).2⟩
theorem deedInfo : (Tryd.prog.info? 23).map (fun i => (i.zero, i.size, i.bytes)) = some (some (.agg #[.int .i64 0, .int .i64 0]), 2, 16) := by kernel_rfl

set_option maxHeartbeats 400000 in
theorem szDeeds_any (v : Value) (ds : List (Int × Int)) (w : World) (h : DeedsAt w v ds) (hn : ds.length ≤ 9223372036854775807) (r : Int) (hr : (if (ds.length : Int) ≤ 1048576 then 1048576 - (ds.length : Int) else -1) = r) :
    Calls Tryd.prog 30 #[v, .int .i64 1048576] w fun e w' => e = .returned (.int .i64 r) ∧ w = w' := by
  have hv : ∃ a cap, v = .slice a ds.length cap := by
    rcases h with ⟨rfl, rfl⟩ | ⟨a, cap, rfl, _⟩
    · exact ⟨_, _, rfl⟩
    · exact ⟨_, _, rfl⟩
  obtain ⟨a, cap, rfl⟩ := hv
  by_cases hl : (ds.length : Int) ≤ 1048576
  · rw [if_pos hl] at hr
    have HR := Lib.hid hr
    clear hr h
    have h0 : ¬ (1048576 - (ds.length : Int)) < 0 := by omega
    go_enter Tryd.func30, Tryd.ntmps30
    go_wp2
    go_ret
    exact ⟨ret_int HR.out, rfl⟩
  · rw [if_neg hl] at hr
    have HR := Lib.hid hr
    clear hr h
    have h0 : (1048576 - (ds.length : Int)) < 0 := by omega
    go_enter Tryd.func30, Tryd.ntmps30
    go_wp2
    go_ret
    exact ⟨ret_int HR.out, rfl⟩

set_option maxHeartbeats 800000 in
theorem eqDeed_same (k n : Int) (w : World) :
    Calls Tryd.prog 16 #[.agg #[.int .i64 k, .int .i64 n], .agg #[.int .i64 k, .int .i64 n]] w fun e w' => e = .returned (.bool true) ∧ Below w.heap.size w w' := by
  go_enter Tryd.func16, Tryd.ntmps16
  go_wp2
  go_ret
  exact ⟨rfl, ((Below.refl _ _).alloc (Nat.le_refl _) _).alloc (by simp) _⟩

set_option maxRecDepth 100000 in
set_option maxHeartbeats 1600000 in
theorem toDeeds_any (v : Value) (ds : List (Int × Int)) (w : World) (h : DeedsAt w v ds) (hn : ds.length ≤ 1048576) :
    Calls Tryd.prog 32 #[v] w fun e w' => e = .returned (.slice (some ⟨w.heap.size, 0, none⟩) ds.length ds.length) ∧ w'.ownsRow w.heap.size 23 2 (.slice (some ⟨w.heap.size, 0, none⟩) ds.length ds.length) ds.length (pairCells ds) ∧ Below w.heap.size w w' := by
  obtain ⟨i0, hi0, hz0, hz1, hz2⟩ := info_parts deedInfo
  rcases h with ⟨rfl, rfl⟩ | ⟨a, cap, rfl, hl, hc⟩
  · go_enter Tryd.func32, Tryd.ntmps32
    go_wp2_with (first
      | (at_make; refine wpList_make_full _ rfl _ _ 28 rfl w.heap.size 23 i0 _ 2 Tryd.underlying28 hi0 hz0 hz1 .i64 .i64 _ _ 0 rfl rfl rfl rfl (by rw [hz2]; omega) (by unfold maxLen; omega) (Nat.le_refl _) ?_; intro w1 hown1 hg1))
    refine wp_loop_rounds 1 ?_
    rw [rounds_succ]
    go_wp2
    go_ret
    have e0 := List.length_eq_zero_iff.1 (show _ = 0 from hown1.1)
    rw [e0] at hown1
    exact ⟨rfl, hown1, (Below.refl _ _).grown hg1 (Nat.le_refl _) (fun k hk => by cases hk)⟩
  · obtain ⟨n, hnn⟩ : ∃ n, ds.length = n := ⟨_, rfl⟩
    rw [hnn] at hn hl ⊢
    have HC := Lib.hid hc
    have HN := Lib.hid hnn
    clear hc hnn
    go_enter Tryd.func32, Tryd.ntmps32
    go_wp2_with (first
      | (at_make; refine wpList_make_full _ rfl _ _ 28 rfl w.heap.size 23 i0 _ 2 Tryd.underlying28 hi0 hz0 hz1 .i64 .i64 _ _ n rfl rfl rfl rfl (by rw [hz2]; omega) (by unfold maxLen; omega) (Nat.le_refl _) ?_; intro w1 hown1 hg1))
    have hb1 : Below w.heap.size w w1 := (Below.refl _ _).grown hg1 (Nat.le_refl _) (fun k hk => by cases hk)
    obtain ⟨xs, hxs⟩ : ∃ xs, (madeCells (Value.agg #[.int .i64 0, .int .i64 0]).cells (n * 2)).toList = xs := ⟨_, rfl⟩
    rw [hxs] at hown1
    clear hg1 hxs
    go_loopw [4] (fun i wr => ∃ k : Nat, k ≤ n ∧ i = .int .i64 k ∧ Below w.heap.size w wr ∧ ∃ xs, wr.ownsRow w.heap.size 23 2 (.slice (some ⟨w.heap.size, 0, none⟩) n n) n xs ∧ Hid (∀ (j : Nat) d, j < k → ds[j]? = some d → xs[j * 2]? = some (.int .i64 d.1) ∧ xs[j * 2 + 1]? = some (.int .i64 d.2))) (fun i _ => n - (intOf i).toNat)
    case atStart => exact ⟨0, Nat.zero_le _, rfl, hb1, xs, hown1, fun j z hj => by omega⟩
    case round =>
      obtain ⟨k, hk, rfl, hb, xs, hown, HX⟩ := hrel
      by_cases hlt : k < n
      · obtain ⟨d, hd⟩ : ∃ d, ds[k]? = some d := ⟨ds[k]'(by rw [HN.out]; exact hlt), List.getElem?_eq_getElem (by rw [HN.out]; exact hlt)⟩
        have c0 : wr.cell? (a.add (k * 2)) = some (.int .i64 d.1) := cell_keep hb (HC.out k d hd).1
        have c1 : wr.cell? ⟨(a.add (k * 2)).block, (a.add (k * 2)).off + 1, none⟩ = some (.int .i64 d.2) := cell_keep hb (HC.out k d hd).2
        have hxl : xs.length = n * 2 := hown.1
        have hk3 : (0 : Int) ≤ (k : Int) := by omega
        have hk4 : (k : Int) < (n : Int) := by omega
        have HD := Lib.hid hd
        have HXL := Lib.hid hxl
        clear hd hxl
        go_wp2_with (first
          | (go_at_call 25; refine (toDeed_any d.1 d.2 _).mono ?_; rintro e w3 ⟨rfl, hb3⟩; have hown3 := own_below hown hb3; have e0 : w3.cell? ⟨w.heap.size, k * 2, none⟩ = some (xs[k * 2]'(by rw [HXL.out]; omega)) := (hown3.cellAt (k * 2) (by omega)).trans (List.getElem?_eq_getElem _); have e1 : w3.cell? ⟨w.heap.size, k * 2 + 1, none⟩ = some (xs[k * 2 + 1]'(by rw [HXL.out]; omega)) := (hown3.cellAt (k * 2 + 1) (by omega)).trans (List.getElem?_eq_getElem _); have f0 := hown3.frozenAt (k * 2); have f1 := hown3.frozenAt (k * 2 + 1)))
        have hst0 := (hown3.stored (k * 2) (.int .i64 d.1)).1
        have hst1 := (hst0.stored (k * 2 + 1) (.int .i64 d.2)).1
        go_roundw
        case rel =>
          refine ⟨k + 1, by omega, by go_num, ((hb.trans (hb3.mono hb.size)).setCell (by simp) _).setCell (by simp) _, _, hst1, ?_⟩
          intro j y hj hy
          rw [List.getElem?_set, List.getElem?_set, List.getElem?_set, List.getElem?_set]
          have hl := HXL.out
          simp only [List.length_set]
          rcases Nat.lt_or_ge j k with h1 | h1
          · rw [if_neg (by omega), if_neg (by omega), if_neg (by omega), if_neg (by omega)]
            exact HX.out j y h1 hy
          · obtain rfl : j = k := by omega
            rw [HD.out] at hy
            obtain rfl := Option.some.inj hy
            rw [if_neg (by omega), if_pos rfl, if_pos (by omega), if_pos rfl, if_pos (by omega)]
            exact ⟨rfl, rfl⟩
        case measure => simp [intOf]; omega
      · obtain rfl : k = n := by omega
        go_wp2_with fail
        go_ret
        have e : xs = pairCells ds := by
          have hxl : xs.length = k * 2 := hown.1
          apply List.ext_getElem?
          intro j
          rcases Nat.lt_or_ge j (k * 2) with h1 | h1
          · have hq : j / 2 < k := by omega
            obtain ⟨d, hd⟩ : ∃ d, ds[j / 2]? = some d := ⟨ds[j / 2]'(by rw [HN.out]; exact hq), List.getElem?_eq_getElem (by rw [HN.out]; exact hq)⟩
            have hx := HX.out (j / 2) d hq hd
            have hp := pairCells_get ds (j / 2) d hd
            rcases (by omega : j = j / 2 * 2 ∨ j = j / 2 * 2 + 1) with h2 | h2
            · rw [h2, hx.1, hp.1]
            · rw [h2, hx.2, hp.2]
          · rw [List.getElem?_eq_none (by omega), List.getElem?_eq_none (by rw [pairCells_length, HN.out]; omega)]
        rw [e] at hown
        exact ⟨rfl, hown, hb⟩

end Go.Proofs.YtbaakapnbginoaaDoor
