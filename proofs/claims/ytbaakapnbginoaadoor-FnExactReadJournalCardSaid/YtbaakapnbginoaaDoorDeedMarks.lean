/-
  The marks of deeds: markDeedS, heldDeedS.
-/
import Derived.Test.YtbaakapnbginoaaDoorExt
import Derived.Test.YtbaakapnbginoaaDoorDeeds
namespace Go.Proofs.YtbaakapnbginoaaDoor
open Go.RowKit

/-- Deeds in a row that is known whole. -/
def RowAt (w : World) (v : Value) (ds : List (Int × Int)) : Prop :=
  (v = .slice none 0 0 ∧ ds = []) ∨ ∃ (g cap : Nat) (cur : Array Value), v = .slice (some ⟨g, 0, none⟩) ds.length cap ∧ ds.length ≤ cap ∧ w.heap[g]? = some (.cells cur 23 (0, 0)) ∧ cap * 2 ≤ cur.size ∧ ∀ (j : Nat) (d : Int × Int), ds[j]? = some d → cur[j * 2]? = some (.int .i64 d.1) ∧ cur[j * 2 + 1]? = some (.int .i64 d.2)
theorem RowAt.deeds {w : World} {v : Value} {ds : List (Int × Int)} (h : RowAt w v ds) : DeedsAt w v ds := by
  rcases h with h | ⟨g, cap, cur, rfl, hl, hg, _, hc⟩
  · exact .inl h
  · refine .inr ⟨⟨g, 0, none⟩, cap, rfl, hl, fun j d hd => ?_⟩
    rw [add_plain, Nat.zero_add]
    exact ⟨(cell_of_row _ _ _ _ _ _ hg).trans (hc j d hd).1, (cell_of_row _ _ _ _ _ _ hg).trans (hc j d hd).2⟩
theorem RowAt.ext {w X : World} {v : Value} {ds : List (Int × Int)} (h : RowAt w v ds) (e : Ext w X) : RowAt X v ds := by
  rcases h with h | ⟨g, cap, cur, rfl, hl, hg, hz, hc⟩
  · exact .inl h
  · exact .inr ⟨g, cap, cur, rfl, hl, e.row hg, hz, hc⟩
theorem RowAt.lt {w : World} {v : Value} {ds : List (Int × Int)} (h : RowAt w v ds) {b : Nat} (hb : v.ownBlock = some b) : b < w.heap.size := by
  rcases h with ⟨rfl, _⟩ | ⟨g, _, _, rfl, _, hg, _⟩
  · cases hb
  · obtain rfl : g = b := Option.some.inj hb
    exact lt_at hg
theorem RowAt.belowB {w w' : World} {v : Value} {ds : List (Int × Int)} {B : Nat} (h : RowAt w v ds) (hv : ∀ b, v.ownBlock = some b → b < B) (hb : Below B w w') : RowAt w' v ds := by
  rcases h with h | ⟨g, cap, cur, rfl, hl, hg, hz, hc⟩
  · exact .inl h
  · exact .inr ⟨g, cap, cur, rfl, hl, (hb.block _ (hv g rfl)).trans hg, hz, hc⟩
theorem row_but {w w' : World} {g n cap : Nat} {u : Value} {ds : List (Int × Int)} (h : RowAt w (.slice (some ⟨g, 0, none⟩) n cap) ds) (k : But u w w') (hne : u.ownBlock ≠ some g) : RowAt w' (.slice (some ⟨g, 0, none⟩) n cap) ds := by
  rcases h with ⟨h, _⟩ | ⟨g', cap', cur, he, hl, hg, hz, hc⟩
  · cases h
  · simp only [Value.slice.injEq, Option.some.injEq, Addr.mk.injEq, and_true] at he
    obtain ⟨rfl, rfl, rfl⟩ := he
    exact .inr ⟨g, cap, cur, rfl, hl, (k.block g (lt_at hg) hne).trans hg, hz, hc⟩
theorem row_own {w : World} {base n : Nat} {v : Value} {ds : List (Int × Int)} (h : w.ownsRow base 23 2 v n (pairCells ds)) (hn : ds.length = n) : RowAt w v ds := by
  rcases h.2 with ⟨rfl, h0⟩ | ⟨g, cap, cur, rfl, _, hg, hl, _, hs, ht⟩
  · exact .inl ⟨rfl, List.length_eq_zero_iff.1 (by omega)⟩
  · refine .inr ⟨g, cap, cur, by rw [hn], by omega, hg, by omega, fun j d hd => ?_⟩
    have hj := (List.getElem?_eq_some_iff.1 hd).1
    have hp := pairCells_get ds j d hd
    have e : ∀ i, i < n * 2 → cur[i]? = (pairCells ds)[i]? := fun i hi => by
      have := congrArg (·[i]?) ht
      rw [List.getElem?_take, if_pos hi, Array.getElem?_toList] at this
      exact this
    exact ⟨(e _ (by omega)).trans hp.1, (e _ (by omega)).trans hp.2⟩
theorem row_set {w : World} {g n cap j : Nat} {ds : List (Int × Int)} (h : RowAt w (.slice (some ⟨g, 0, none⟩) n cap) ds) (hj : j < n) (a b : Int) : RowAt ((w.setCell ⟨g, j * 2, none⟩ (.int .i64 a)).setCell ⟨g, j * 2 + 1, none⟩ (.int .i64 b)) (.slice (some ⟨g, 0, none⟩) n cap) (ds.set j (a, b)) := by
  rcases h with ⟨h, _⟩ | ⟨g', cap', cur, he, hl, hg, hz, hc⟩
  · cases h
  · simp only [Value.slice.injEq, Option.some.injEq, Addr.mk.injEq, and_true] at he
    obtain ⟨rfl, rfl, rfl⟩ := he
    refine .inr ⟨g, cap, (cur.set! (j * 2) (.int .i64 a)).set! (j * 2 + 1) (.int .i64 b), by rw [List.length_set], by rw [List.length_set]; exact hl, ?_, by simpa using hz, fun i y hi => ?_⟩
    · simp [World.setCell, Array.getElem?_modify, hg]
    · rw [List.getElem?_set] at hi
      simp only [Array.set!_eq_setIfInBounds, Array.getElem?_setIfInBounds, Array.size_setIfInBounds]
      by_cases hij : j = i
      · subst hij
        rw [if_pos rfl] at hi
        have hi2 : (a, b) = y := by
          rw [if_pos hj] at hi
          exact Option.some.inj hi
        subst hi2
        rw [if_neg (by omega), if_pos rfl, if_pos (by omega), if_pos rfl, if_pos (by omega)]
        exact ⟨rfl, rfl⟩
      · rw [if_neg hij] at hi
        rw [if_neg (by omega), if_neg (by omega), if_neg (by omega), if_neg (by omega)]
        exact hc i y hi
theorem row_cells {w : World} {g n cap j : Nat} {ds : List (Int × Int)} (h : RowAt w (.slice (some ⟨g, 0, none⟩) n cap) ds) {d : Int × Int} (hd : ds[j]? = some d) : w.cell? ⟨g, j * 2, none⟩ = some (.int .i64 d.1) ∧ w.cell? ⟨g, j * 2 + 1, none⟩ = some (.int .i64 d.2) ∧ w.frozen? ⟨g, j * 2, none⟩ = false ∧ w.frozen? ⟨g, j * 2 + 1, none⟩ = false := by
  rcases h with ⟨h, _⟩ | ⟨g', cap', cur, he, hl, hg, hz, hc⟩
  · cases h
  · simp only [Value.slice.injEq, Option.some.injEq, Addr.mk.injEq, and_true] at he
    obtain ⟨rfl, _, _⟩ := he
    exact ⟨(cell_of_row _ _ _ _ _ _ hg).trans (hc j d hd).1, (cell_of_row _ _ _ _ _ _ hg).trans (hc j d hd).2, frozen_of_row _ _ _ _ _ hg, frozen_of_row _ _ _ _ _ hg⟩
/-- The marks of deeds. -/
def marksD (k : Int) (n : Nat) : List (Int × Int) := (List.range n).map fun (i : Nat) => (k + 2 * (i : Int), k + 2 * (i : Int) + 1)
theorem marksD_length (k : Int) (n : Nat) : (marksD k n).length = n := by simp [marksD]
theorem marksD_at {k : Int} {n i : Nat} (h : i < n) : (marksD k n)[i]? = some (k + 2 * (i : Int), k + 2 * (i : Int) + 1) := by simp [marksD, h]
theorem marksD_succ (k : Int) (n : Nat) : marksD k (n + 1) = marksD k n ++ [(k + 2 * (n : Int), k + 2 * (n : Int) + 1)] := by unfold marksD; rw [List.range_succ, List.map_append]; rfl
theorem setD_take {ds : List (Int × Int)} {k : Int} {j : Nat} (h : ds.take j = marksD k j) (hj : j < ds.length) : (ds.set j (k + 2 * (j : Int), k + 2 * (j : Int) + 1)).take (j + 1) = marksD k (j + 1) := by
  rw [marksD_succ, List.take_add_one, List.take_set_of_le (Nat.le_refl _), h, List.getElem?_set, if_pos rfl, if_pos hj]
  rfl

set_option maxRecDepth 100000 in
set_option maxHeartbeats 800000 in
theorem markDeeds_any (v : Value) (ds : List (Int × Int)) (n : Nat) (hn0 : ds.length = n) (k : Int) (w : World) (h : RowAt w v ds) (hn : n ≤ 1048577) (hk : 0 ≤ k) (hk2 : k ≤ 4194304) :
    Calls Tryd.prog 20 #[v, .int .i64 k] w fun e w' => e = .returned (.int .i64 (k + 2 * (n : Int))) ∧ RowAt w' v (marksD k n) ∧ But v w w' := by
  have h' := h
  rcases h with ⟨rfl, rfl⟩ | ⟨g, cap, cur, rfl, hl, hg, hc, hz⟩
  · obtain rfl : n = 0 := hn0.symm
    go_enter Tryd.func20, Tryd.ntmps20
    go_wp2
    refine wp_loop_rounds 1 ?_
    rw [rounds_succ]
    go_wp2
    go_ret
    exact ⟨ret_int (by omega), .inl ⟨rfl, rfl⟩, But.refl _ _⟩
  · rw [hn0] at hl h' ⊢
    clear hg hc hz cur
    have HP0 := Lib.hid h'
    have HN := Lib.hid hn0
    clear h' hn0
    go_enter Tryd.func20, Tryd.ntmps20
    go_wp2
    go_loopw [1, 5] (fun c i wr => ∃ (j : Nat) (ys : List (Int × Int)), j ≤ n ∧ i = .int .i64 j ∧ c = .int .i64 (k + 2 * (j : Int)) ∧ Hid (RowAt wr (.slice (some ⟨g, 0, none⟩) n cap) ys) ∧ Hid (ys.length = n) ∧ Hid (ys.take j = marksD k j) ∧ Hid (But (.slice (some ⟨g, 0, none⟩) n cap) w wr)) (fun _ i _ => n - (intOf i).toNat)
    case atStart => exact ⟨0, ds, Nat.zero_le _, rfl, by go_num, HP0.out, HN.out, rfl, But.refl _ _⟩
    case round =>
      obtain ⟨j, ys, hj, rfl, rfl, HP, HL, HT, HB⟩ := hrel
      by_cases hlt : j < n
      · have hk3 : (0 : Int) ≤ (j : Int) := by omega
        have hk4 : (j : Int) < (n : Int) := by omega
        obtain ⟨d, hd⟩ : ∃ d, ys[j]? = some d := ⟨ys[j]'(by rw [HL.out]; exact hlt), List.getElem?_eq_getElem (by rw [HL.out]; exact hlt)⟩
        obtain ⟨c0, c1, f0, f1⟩ := row_cells HP.out hd
        clear hd
        go_wp2_with fail
        go_roundw
        case rel =>
          refine ⟨j + 1, ys.set j (k + 2 * (j : Int), k + 2 * (j : Int) + 1), by omega, by go_num, by go_num, row_set HP.out hlt _ _, ?_, setD_take HT.out (by rw [HL.out]; exact hlt), ?_⟩
          · show _ = _
            rw [List.length_set]
            exact HL.out
          · exact HB.out.trans ((But.setCell _ rfl _).trans (But.setCell _ rfl _))
        case measure => simp [intOf]; omega
      · obtain rfl : j = n := by omega
        go_wp2_with fail
        go_ret
        have e := HT.out
        rw [List.take_of_length_le (by rw [HL.out]; exact Nat.le_refl _)] at e
        exact ⟨rfl, e ▸ HP.out, HB.out⟩

set_option maxRecDepth 100000 in
set_option maxHeartbeats 800000 in
theorem heldDeeds_any (v : Value) (n : Nat) (k : Int) (w : World) (h : RowAt w v (marksD k n)) (hn : n ≤ 1048577) (hk : 0 ≤ k) (hk2 : k ≤ 4194304) :
    Calls Tryd.prog 21 #[v, .int .i64 k] w fun e w' => e = .returned (.int .i64 (k + 2 * (n : Int))) ∧ w = w' := by
  have h' := h
  rcases h with ⟨rfl, h0⟩ | ⟨g, cap, cur, rfl, hl, hg, hc, hz⟩
  · have e : n = 0 := by have := marksD_length k n; rw [h0] at this; exact this.symm
    subst e
    go_enter Tryd.func21, Tryd.ntmps21
    go_wp2
    refine wp_loop_rounds 1 ?_
    rw [rounds_succ]
    go_wp2
    go_ret
    exact ⟨ret_int (by omega), rfl⟩
  · rw [marksD_length] at hl h' ⊢
    clear hg hc hz cur
    have HP0 := Lib.hid h'
    clear h'
    go_enter Tryd.func21, Tryd.ntmps21
    go_wp2
    go_loop [1, 5] (fun c i => ∃ j : Nat, j ≤ n ∧ i = .int .i64 j ∧ c = .int .i64 (k + 2 * (j : Int))) (fun _ i => n - (intOf i).toNat)
    case atStart => exact ⟨0, Nat.zero_le _, rfl, by go_num⟩
    case round =>
      obtain ⟨j, hj, rfl, rfl⟩ := hrel
      by_cases hlt : j < n
      · have hk3 : (0 : Int) ≤ (j : Int) := by omega
        have hk4 : (j : Int) < (n : Int) := by omega
        obtain ⟨c0, c1, _, _⟩ := row_cells HP0.out (marksD_at (k := k) hlt)
        go_wp2_with fail
        go_round
        case rel => exact ⟨j + 1, by omega, by go_num, by go_num⟩
        case measure => simp [intOf]; omega
      · obtain rfl : j = n := by omega
        go_wp2_with fail
        go_ret
        exact ⟨rfl, rfl⟩

set_option maxHeartbeats 400000 in
theorem szDeeds_left (v : Value) (ds : List (Int × Int)) (w : World) (h : DeedsAt w v ds) (n : Nat) (hn0 : ds.length = n) (hn : n ≤ 9223372036854775807) (left r : Int) (h0 : 0 ≤ left) (h1 : left ≤ 1048576) (hr : (if (n : Int) ≤ left then left - (n : Int) else -1) = r) :
    Calls Tryd.prog 30 #[v, .int .i64 left] w fun e w' => e = .returned (.int .i64 r) ∧ w = w' := by
  have hv : ∃ a cap, v = .slice a n cap := by
    rcases h with ⟨rfl, rfl⟩ | ⟨a, cap, rfl, _⟩
    · exact ⟨none, 0, by rw [← hn0]; rfl⟩
    · exact ⟨_, _, by rw [hn0]⟩
  obtain ⟨a, cap, rfl⟩ := hv
  by_cases hl : (n : Int) ≤ left
  · rw [if_pos hl] at hr
    have HR := Lib.hid hr
    clear hr h hn0
    go_enter Tryd.func30, Tryd.ntmps30
    go_wp2
    go_ret
    exact ⟨ret_int HR.out, rfl⟩
  · rw [if_neg hl] at hr
    have HR := Lib.hid hr
    clear hr h hn0
    go_enter Tryd.func30, Tryd.ntmps30
    go_wp2
    go_ret
    exact ⟨ret_int HR.out, rfl⟩

theorem toDeeds_row (v : Value) (ds : List (Int × Int)) (w : World) (h : DeedsAt w v ds) (n : Nat) (hn0 : ds.length = n) (hn : n ≤ 1048576) :
    Calls Tryd.prog 32 #[v] w fun e w' => ∃ g, e = .returned (.slice (some ⟨g, 0, none⟩) n n) ∧ RowAt w' (.slice (some ⟨g, 0, none⟩) n n) ds ∧ w.heap.size ≤ g ∧ Below w.heap.size w w' := by
  subst hn0
  refine (toDeeds_any v ds w h hn).mono ?_
  rintro e w' ⟨rfl, hown, hb⟩
  exact ⟨_, rfl, row_own hown rfl, Nat.le_refl _, hb⟩

end Go.Proofs.YtbaakapnbginoaaDoor
