/-
  Contract of the reference's ReadDeed. Condition: a text of at most 2^20 bytes.
-/
import Derived.Test.YtbaakapnbginoaaDoorReadDeed
namespace Go.Proofs.YtbaakapnbginoaaDoor
open Go.RowKit

theorem data_nil {s : ByteArray} (h : s.data.toList = []) : s = ⟨#[]⟩ := nil_of_sizeR (by rw [← size_data, h]; rfl)
theorem str_back {l : List UInt8} {s : ByteArray} (h : Tw.str l = s) : l = s.data.toList := by rw [← h]; rfl

/-- The deeds that the reference tries. -/
def candOf (s : List UInt8) : List (Int × Int) :=
  if (cutAll 32 s).length = 2 then [(1, 0), (4, 0), (5, 0), (0, digitsRes ((cutAll 32 s).getD 1 [])), (2, digitsRes ((cutAll 32 s).getD 1 [])), (3, digitsRes ((cutAll 32 s).getD 1 []))] else [(1, 0), (4, 0), (5, 0)]
theorem cand_mem {s : List UInt8} {k n : Int} (h0 : s ≠ []) (ht : deedText k n = s) : (k, n) ∈ candOf s := by
  have t := told_of (ht ▸ h0)
  obtain ⟨hk0, hk6⟩ := told_kind t
  have hw := word_clean (k := k.toNat) (by omega)
  rw [text_told t] at ht
  unfold candOf
  split at ht
  · rename_i hk
    have hn : 0 ≤ n ∧ n ≤ 99 := by unfold told at t; omega
    have hd := num_dec (n := n.toNat) (by omega)
    have hc : cutAll 32 s = [deedWord k.toNat, Lib.decDigits n.toNat] := by rw [← ht]; exact cutAll_two hw.1 hd.2.2.1
    have hv : digitsRes (Lib.decDigits n.toNat) = n := by
      unfold digitsRes
      rw [num_mono hd.1 (by omega), hd.2.1, if_pos rfl]
      omega
    have e2 : ([deedWord k.toNat, Lib.decDigits n.toNat] : List (List UInt8)).length = 2 := rfl
    rw [hc, if_pos e2]
    show (k, n) ∈ [(1, 0), (4, 0), (5, 0), (0, digitsRes (Lib.decDigits n.toNat)), (2, digitsRes (Lib.decDigits n.toNat)), (3, digitsRes (Lib.decDigits n.toNat))]
    rw [hv]
    rcases hk with rfl | rfl | rfl <;> simp
  · have hn : (k = 1 ∨ k = 4 ∨ k = 5) ∧ n = 0 := by unfold told at t; omega
    obtain ⟨hk, rfl⟩ := hn
    split <;> (rcases hk with rfl | rfl | rfl <;> simp)
theorem cand_none {s : List UInt8} (h : ∀ d, d ∈ candOf s → s ≠ [] → deedText d.1 d.2 = s → False) : readOf s = ((0, 0), false) :=
  readOf_none fun k n h0 ht => h (k, n) (cand_mem h0 ht) h0 ht

theorem own_le2 {w : World} {base g n cap size : Nat} {e : TypeId} {xs : List Value} (h : w.ownsRow base e size (.slice (some ⟨g, 0, none⟩) n cap) n xs) : n ≤ cap := by
  rcases h.2 with ⟨h1, _⟩ | ⟨g', cap', cur, h1, _, _, hl, _⟩
  · cases h1
  · cases h1
    exact hl
theorem own_six (W : World) (base : Nat) (hb : base ≤ W.heap.size) (x0 x1 x2 x3 x4 x5 : Int) : (W.alloc (.cells #[.int .i64 x0, .int .i64 x1, .int .i64 x2, .int .i64 x3, .int .i64 x4, .int .i64 x5] 23)).ownsRow base 23 2 (.slice (some ⟨W.heap.size, 0, none⟩) 3 3) 3 (pairCells [(x0, x1), (x2, x3), (x4, x5)]) :=
  ⟨rfl, .inr ⟨W.heap.size, 3, _, rfl, hb, heap_alloc_new W _, Nat.le_refl _, by decide, rfl, rfl⟩⟩

set_option maxRecDepth 100000 in
set_option maxHeartbeats 1600000 in
theorem specReadDeed (s : ByteArray) (w : World) (hs : s.size ≤ 1048576) :
    Calls Tryd.prog 14 #[.string s] w (ReadOut s.data.toList w) := by
  obtain ⟨i0, hi0, hz0, hz1, hz2⟩ := info_parts deedInfo
  obtain ⟨W, hW⟩ : ∃ W, W = w.alloc (.cells #[.int .i64 0, .int .i64 0] 23) := ⟨_, rfl⟩
  have hb0 : Below w.heap.size w W := by rw [hW]; exact (Below.refl _ _).alloc (Nat.le_refl _) _
  have hWs : W.heap.size = w.heap.size + 1 := by rw [hW]; simp
  have hr0 : W.heap[w.heap.size]? = some (.cells #[.int .i64 0, .int .i64 0] 23 (0, 0)) := by rw [hW]; exact heap_alloc_new _ _
  have hct := cut_any s 32 W hs
  obtain ⟨n, hnn⟩ : ∃ n, (words 32 s).length = n := ⟨_, rfl⟩
  rw [hnn] at hct
  have hcl : (cutAll 32 s.data.toList).length = n := by rw [← hnn]; unfold words; rw [List.length_map]
  have HCT := Lib.hid hct
  have HR0 := Lib.hid hr0
  have HW := Lib.hid hW
  have HCL := Lib.hid hcl
  have HNN := Lib.hid hnn
  clear hct hr0 hW hcl hnn
  by_cases hn2 : n = 2
  · subst hn2
    obtain ⟨z, hz⟩ : ∃ z, (cutAll 32 s.data.toList)[1]? = some z := ⟨(cutAll 32 s.data.toList)[1]'(by rw [HCL.out]; omega), List.getElem?_eq_getElem _⟩
    have hzs : (strVals (words 32 s))[1]? = some (.string (Tw.str z)) := by
      unfold strVals words
      rw [List.getElem?_map, List.getElem?_map, hz]
      rfl
    obtain ⟨y, hy⟩ : ∃ y, Tw.str z = y := ⟨_, rfl⟩
    rw [hy] at hzs
    have hyz : y.data.toList = z := by rw [← hy]; rfl
    have hys : y.size ≤ 9223372036854775807 := by
      rw [← hy, Tw.str_size]
      have := part_size (sep := 32) (l := s.data.toList) (List.mem_of_getElem? hz)
      rw [size_data] at this
      omega
    have hdg := fun W => digits_any y W hys
    rw [hyz] at hdg
    obtain ⟨r, hr⟩ : ∃ r, digitsRes z = r := ⟨_, rfl⟩
    rw [hr] at hdg
    have hds : candOf s.data.toList = [(1, 0), (4, 0), (5, 0), (0, r), (2, r), (3, r)] := by
      unfold candOf
      rw [if_pos HCL.out]
      have e : (cutAll 32 s.data.toList).getD 1 [] = z := by rw [List.getD_eq_getElem?_getD, hz]; rfl
      rw [e, hr]
    have HDG := Lib.hid hdg
    have HDS0 := Lib.hid hds
    have HZS := Lib.hid hzs
    clear hdg hds hzs hyz hy hz hr hys
    go_enter Tryd.func14, Tryd.ntmps14
    go_wp2_with fail
    rw [← HW.out]
    go_wp2_with (first
      | (go_at_call 60; refine HCT.out.mono ?_; rintro e w1 ⟨g, cap, rfl, hown, hb1⟩; have hc1 : ∀ o, (w1.alloc o).cell? ⟨g, 1, none⟩ = some (.string y) := fun o => own_cell (hown.alloc o) HZS.out; have HB1 := Lib.hid hb1; have hcap := own_le hown; have hl1 : W.heap.size ≤ w1.heap.size := hb1.size; have own3 := own_six w1 w1.heap.size (Nat.le_refl _) 1 0 4 0 5 0; have OWN3 := Lib.hid own3; clear hown hb1 own3)
      | (go_at_call 61; refine (HDG.out _).mono ?_; rintro e w' ⟨rfl, rfl⟩)
      | (at_builtin; refine wpList_append_lies _ rfl _ _ 28 rfl w1.heap.size 23 i0 _ 2 16 Tryd.underlying28 hi0 hz0 hz1 hz2 rfl (by omega) _ 3 (pairCells [(1, 0), (4, 0), (5, 0)]) rfl (OWN3.out.alloc _) ⟨w1.heap.size + 1, 0, none⟩ 3 3 (pairCells [(0, r), (2, r), (3, r)]) rfl rfl (World.news_of_block (cs := (pairCells [(0, r), (2, r), (3, r)]).toArray) (t := 23) (fr := (0, 0)) (heap_alloc2_new w1 _ _)) (by simp [Value.oneCell', pairCells]) (by omega) (by unfold maxLen; omega) (by omega) (by simp; omega) (w1.heap.size + 1 + 1) (by simp) ?_; intro g4 cap4 w4 hown4 hgrow4 hat4 hlt4))
    have hbx : Below W.heap.size W w4 := ((HB1.out.alloc (by omega) _).alloc (by simp; omega) _).grown hgrow4 (by simp; omega) (fun j hj => by have h9 : w1.heap.size = j := Option.some.inj hj; omega)
    have hk4 := own_le2 hown4
    have hdeeds := own_deeds (ds := [(1, 0), (4, 0), (5, 0), (0, r), (2, r), (3, r)]) hown4 rfl hk4
    obtain ⟨ds, hds⟩ : ∃ ds : List (Int × Int), ds = [(1, 0), (4, 0), (5, 0), (0, r), (2, r), (3, r)] := ⟨_, rfl⟩
    rw [← hds] at hdeeds
    have HDS : Hid (candOf s.data.toList = ds) := by show _ = _; rw [hds]; exact HDS0.out
    have hnl : ds.length = 6 := by rw [hds]; rfl
    obtain ⟨W2, hW2⟩ : ∃ W2, W2 = w4 := ⟨_, rfl⟩
    rw [← hW2] at hdeeds hbx
    obtain ⟨a, ha⟩ : ∃ a : Addr, (⟨g4, 0, none⟩ : Addr) = a := ⟨_, rfl⟩
    have hcell : ∀ (j : Nat) (d : Int × Int), ds[j]? = some d → W2.cell? (a.add (j * 2)) = some (.int .i64 d.1) ∧ W2.cell? ⟨(a.add (j * 2)).block, (a.add (j * 2)).off + 1, none⟩ = some (.int .i64 d.2) := by
      rcases hdeeds with ⟨h9, _⟩ | ⟨a', cap', h9, _, h8⟩
      · cases h9
      · simp only [Value.slice.injEq, Option.some.injEq] at h9
        obtain ⟨h7, _, _⟩ := h9
        rw [← ha, h7]
        exact h8
    have hb2 := hb0.trans (hbx.mono hb0.size)
    have hWle : w.heap.size < W2.heap.size := by have := hbx.size; omega
    have HROW := Lib.hid ((hbx.block w.heap.size (by omega)).trans HR0.out)
    have HN := Lib.hid hnl
    have HC := Lib.hid hcell
    rw [ha, ← hW2]
    clear hcell hnl hds hdeeds hbx hgrow4 hown4 hat4 hb0 hW2 ha
    go_loopw [7] (fun i wr => ∃ k : Nat, k ≤ 6 ∧ i = .int .i64 k ∧ Below W2.heap.size W2 wr ∧ Hid (∀ j d, j < k → ds[j]? = some d → s ≠ ⟨#[]⟩ → Tw.str (deedText d.1 d.2) ≠ s)) (fun i _ => 6 - (intOf i).toNat)
    case atStart => exact ⟨0, by omega, rfl, Below.refl _ _, fun j d hj => absurd hj (by omega)⟩
    case round =>
      obtain ⟨k, hk, rfl, hb, HK⟩ := hrel
      by_cases hlt : k < 6
      · obtain ⟨d, hd⟩ : ∃ d, ds[k]? = some d := ⟨ds[k]'(by rw [HN.out]; exact hlt), List.getElem?_eq_getElem (by rw [HN.out]; exact hlt)⟩
        have c0 := cell_keep hb (HC.out k d hd).1
        have c1 := cell_keep hb (HC.out k d hd).2
        have hk3 : (0 : Int) ≤ (k : Int) := by omega
        have hk4 : (k : Int) < 6 := by omega
        have HD := Lib.hid hd
        clear hd
        have hnext : Hid (¬ (s ≠ ⟨#[]⟩ ∧ Tw.str (deedText d.1 d.2) = s) → ∀ j d', j < k + 1 → ds[j]? = some d' → s ≠ ⟨#[]⟩ → Tw.str (deedText d'.1 d'.2) ≠ s) := fun h9 j d' hj hd' h0 h8 => by
          rcases Nat.lt_or_ge j k with h7 | h7
          · exact HK.out j d' h7 hd' h0 h8
          · obtain rfl : j = k := by omega
            rw [HD.out] at hd'
            obtain rfl := Option.some.inj hd'
            exact h9 ⟨h0, h8⟩
        by_cases hs0 : s.size = 0
        · have hemp : Hid (s = ⟨#[]⟩) := nil_of_sizeR hs0
          have hie : s.toList.isEmpty = true := by rw [hemp.out, Lib.toList_data]; rfl
          go_wp2_with fail
          go_roundw
          case rel => exact ⟨k + 1, by omega, by go_num, hb, hnext.out (fun h => h.1 hemp.out)⟩
          case measure => simp [intOf]; omega
        · have hie := notEmptyR (s := s) (by omega)
          have hne : Hid (s ≠ ⟨#[]⟩) := fun h => hs0 (by rw [h]; rfl)
          obtain ⟨t, ht⟩ : ∃ t, Tw.str (deedText d.1 d.2) = t := ⟨_, rfl⟩
          have hdt : Hid (∀ W : World, Calls Tryd.prog 50 #[.agg #[.int .i64 d.1, .int .i64 d.2]] W fun e w' => e = .returned (.string t) ∧ Below W.heap.size W w') := fun W => ht ▸ specDeedText d.1 d.2 W
          have heq := eq_bytes t s
          have HT := Lib.hid ht
          clear ht
          have G0 := Lib.hid c0
          have G1 := Lib.hid c1
          cases hts : decide (t = s)
          · rw [hts] at heq
            have HNS := Lib.hid (of_decide_eq_false hts)
            clear hts
            go_wp2_with (first
              | (go_at_call 50; refine (hdt.out _).mono ?_; rintro e w5 ⟨rfl, hb5⟩))
            go_roundw
            case rel => exact ⟨k + 1, by omega, by go_num, hb.trans (hb5.mono hb.size), hnext.out (fun h => HNS.out (HT.out.symm.trans h.2))⟩
            case measure => simp [intOf]; omega
          · rw [hts] at heq
            have HTS := Lib.hid (of_decide_eq_true hts)
            clear hts
            go_wp2_with (first
              | (go_at_call 50; refine (hdt.out _).mono ?_; rintro e w5 ⟨rfl, hb5⟩; have hb6 := hb.trans (hb5.mono hb.size); have e0 := cell_keep hb5 G0.out; have e1 := cell_keep hb5 G1.out; have hrow := (hb6.block w.heap.size (by omega)).trans HROW.out; have r0 := cell_of_row _ _ 0 _ _ _ hrow; have r1 := cell_of_row _ _ 1 _ _ _ hrow; have f0 := frozen_of_row _ _ 0 _ _ hrow; have f1 := frozen_of_row _ _ 1 _ _ hrow; have q := pair_put hrow (.int .i64 d.1) (.int .i64 d.2); have q0 := cell_of_row _ _ 0 _ _ _ q; have q1 := cell_of_row _ _ 1 _ _ _ q; clear q hrow))
            refine bodyPost_ret (v := .tuple #[.agg #[.int .i64 d.1, .int .i64 d.2], .bool true]) (by simp [results, Tryd.results14, go_sem, q0, q1]) rfl ⟨read_ret (readOf_of (fun h => hne.out (data_nil h)) (str_back (HT.out.trans HTS.out))), ?_⟩
            exact ((hb2.trans (hb6.mono hb2.size)).setCell (Nat.le_refl _) _).setCell (Nat.le_refl _) _
      · obtain rfl : k = 6 := by omega
        have hrow := (hb.block w.heap.size (by omega)).trans HROW.out
        have r0 := cell_of_row _ _ 0 _ _ _ hrow
        have r1 := cell_of_row _ _ 1 _ _ _ hrow
        have f0 := frozen_of_row _ _ 0 _ _ hrow
        have f1 := frozen_of_row _ _ 1 _ _ hrow
        have q := pair_put hrow (.int .i64 0) (.int .i64 0)
        have q0 := cell_of_row _ _ 0 _ _ _ q
        have q1 := cell_of_row _ _ 1 _ _ _ q
        clear q hrow
        go_wp2_with fail
        refine bodyPost_ret (v := .tuple #[.agg #[.int .i64 0, .int .i64 0], .bool false]) (by simp [results, Tryd.results14, go_sem, q0, q1]) rfl ⟨read_ret (cand_none fun d hd h0 h1 => ?_), ?_⟩
        · rw [HDS.out] at hd
          obtain ⟨j, hj, hjd⟩ := List.getElem_of_mem hd
          have hl := HN.out
          exact HK.out j d (by omega) (by rw [List.getElem?_eq_getElem hj, hjd]) (fun h => h0 (by rw [h])) (by rw [h1]; exact Tw.str_of s)
        · exact ((hb2.trans (hb.mono hb2.size)).setCell (Nat.le_refl _) _).setCell (Nat.le_refl _) _
  · have hn3 : ((n : Int) == 2) = false := beq_false_of_ne (by omega)
    have hds0 : candOf s.data.toList = [(1, 0), (4, 0), (5, 0)] := by
      unfold candOf
      rw [if_neg (by rw [HCL.out]; exact hn2)]
    have HDS0 := Lib.hid hds0
    clear hn2 hds0
    go_enter Tryd.func14, Tryd.ntmps14
    go_wp2_with fail
    rw [← HW.out]
    go_wp2_with (first
      | (go_at_call 60; refine HCT.out.mono ?_; rintro e w1 ⟨g, cap, rfl, hown, hb1⟩; have HB1 := Lib.hid hb1; have hl1 : W.heap.size ≤ w1.heap.size := hb1.size; have own3 := own_six w1 w1.heap.size (Nat.le_refl _) 1 0 4 0 5 0; have OWN3 := Lib.hid own3; clear hown hb1 own3))
    have hbx := HB1.out.alloc (by omega) (.cells #[.int .i64 1, .int .i64 0, .int .i64 4, .int .i64 0, .int .i64 5, .int .i64 0] 23)
    have hdeeds := own_deeds (ds := [(1, 0), (4, 0), (5, 0)]) OWN3.out rfl (Nat.le_refl _)
    obtain ⟨ds, hds⟩ : ∃ ds : List (Int × Int), ds = [(1, 0), (4, 0), (5, 0)] := ⟨_, rfl⟩
    rw [← hds] at hdeeds
    have HDS : Hid (candOf s.data.toList = ds) := by show _ = _; rw [hds]; exact HDS0.out
    have hnl : ds.length = 3 := by rw [hds]; rfl
    obtain ⟨W2, hW2⟩ : ∃ W2, W2 = w1.alloc (.cells #[.int .i64 1, .int .i64 0, .int .i64 4, .int .i64 0, .int .i64 5, .int .i64 0] 23) := ⟨_, rfl⟩
    rw [← hW2] at hdeeds hbx
    obtain ⟨a, ha⟩ : ∃ a : Addr, (⟨w1.heap.size, 0, none⟩ : Addr) = a := ⟨_, rfl⟩
    have hcell : ∀ (j : Nat) (d : Int × Int), ds[j]? = some d → W2.cell? (a.add (j * 2)) = some (.int .i64 d.1) ∧ W2.cell? ⟨(a.add (j * 2)).block, (a.add (j * 2)).off + 1, none⟩ = some (.int .i64 d.2) := by
      rcases hdeeds with ⟨h9, _⟩ | ⟨a', cap', h9, _, h8⟩
      · cases h9
      · simp only [Value.slice.injEq, Option.some.injEq] at h9
        obtain ⟨h7, _, _⟩ := h9
        rw [← ha, h7]
        exact h8
    have hb2 := hb0.trans (hbx.mono hb0.size)
    have hWle : w.heap.size < W2.heap.size := by have := hbx.size; omega
    have HROW := Lib.hid ((hbx.block w.heap.size (by omega)).trans HR0.out)
    have HN := Lib.hid hnl
    have HC := Lib.hid hcell
    rw [ha, ← hW2]
    clear hcell hnl hds hdeeds hbx hb0 hW2 ha
    go_loopw [7] (fun i wr => ∃ k : Nat, k ≤ 3 ∧ i = .int .i64 k ∧ Below W2.heap.size W2 wr ∧ Hid (∀ j d, j < k → ds[j]? = some d → s ≠ ⟨#[]⟩ → Tw.str (deedText d.1 d.2) ≠ s)) (fun i _ => 3 - (intOf i).toNat)
    case atStart => exact ⟨0, by omega, rfl, Below.refl _ _, fun j d hj => absurd hj (by omega)⟩
    case round =>
      obtain ⟨k, hk, rfl, hb, HK⟩ := hrel
      by_cases hlt : k < 3
      · obtain ⟨d, hd⟩ : ∃ d, ds[k]? = some d := ⟨ds[k]'(by rw [HN.out]; exact hlt), List.getElem?_eq_getElem (by rw [HN.out]; exact hlt)⟩
        have c0 := cell_keep hb (HC.out k d hd).1
        have c1 := cell_keep hb (HC.out k d hd).2
        have hk3 : (0 : Int) ≤ (k : Int) := by omega
        have hk4 : (k : Int) < 3 := by omega
        have HD := Lib.hid hd
        clear hd
        have hnext : Hid (¬ (s ≠ ⟨#[]⟩ ∧ Tw.str (deedText d.1 d.2) = s) → ∀ j d', j < k + 1 → ds[j]? = some d' → s ≠ ⟨#[]⟩ → Tw.str (deedText d'.1 d'.2) ≠ s) := fun h9 j d' hj hd' h0 h8 => by
          rcases Nat.lt_or_ge j k with h7 | h7
          · exact HK.out j d' h7 hd' h0 h8
          · obtain rfl : j = k := by omega
            rw [HD.out] at hd'
            obtain rfl := Option.some.inj hd'
            exact h9 ⟨h0, h8⟩
        by_cases hs0 : s.size = 0
        · have hemp : Hid (s = ⟨#[]⟩) := nil_of_sizeR hs0
          have hie : s.toList.isEmpty = true := by rw [hemp.out, Lib.toList_data]; rfl
          go_wp2_with fail
          go_roundw
          case rel => exact ⟨k + 1, by omega, by go_num, hb, hnext.out (fun h => h.1 hemp.out)⟩
          case measure => simp [intOf]; omega
        · have hie := notEmptyR (s := s) (by omega)
          have hne : Hid (s ≠ ⟨#[]⟩) := fun h => hs0 (by rw [h]; rfl)
          obtain ⟨t, ht⟩ : ∃ t, Tw.str (deedText d.1 d.2) = t := ⟨_, rfl⟩
          have hdt : Hid (∀ W : World, Calls Tryd.prog 50 #[.agg #[.int .i64 d.1, .int .i64 d.2]] W fun e w' => e = .returned (.string t) ∧ Below W.heap.size W w') := fun W => ht ▸ specDeedText d.1 d.2 W
          have heq := eq_bytes t s
          have HT := Lib.hid ht
          clear ht
          have G0 := Lib.hid c0
          have G1 := Lib.hid c1
          cases hts : decide (t = s)
          · rw [hts] at heq
            have HNS := Lib.hid (of_decide_eq_false hts)
            clear hts
            go_wp2_with (first
              | (go_at_call 50; refine (hdt.out _).mono ?_; rintro e w5 ⟨rfl, hb5⟩))
            go_roundw
            case rel => exact ⟨k + 1, by omega, by go_num, hb.trans (hb5.mono hb.size), hnext.out (fun h => HNS.out (HT.out.symm.trans h.2))⟩
            case measure => simp [intOf]; omega
          · rw [hts] at heq
            have HTS := Lib.hid (of_decide_eq_true hts)
            clear hts
            go_wp2_with (first
              | (go_at_call 50; refine (hdt.out _).mono ?_; rintro e w5 ⟨rfl, hb5⟩; have hb6 := hb.trans (hb5.mono hb.size); have e0 := cell_keep hb5 G0.out; have e1 := cell_keep hb5 G1.out; have hrow := (hb6.block w.heap.size (by omega)).trans HROW.out; have r0 := cell_of_row _ _ 0 _ _ _ hrow; have r1 := cell_of_row _ _ 1 _ _ _ hrow; have f0 := frozen_of_row _ _ 0 _ _ hrow; have f1 := frozen_of_row _ _ 1 _ _ hrow; have q := pair_put hrow (.int .i64 d.1) (.int .i64 d.2); have q0 := cell_of_row _ _ 0 _ _ _ q; have q1 := cell_of_row _ _ 1 _ _ _ q; clear q hrow))
            refine bodyPost_ret (v := .tuple #[.agg #[.int .i64 d.1, .int .i64 d.2], .bool true]) (by simp [results, Tryd.results14, go_sem, q0, q1]) rfl ⟨read_ret (readOf_of (fun h => hne.out (data_nil h)) (str_back (HT.out.trans HTS.out))), ?_⟩
            exact ((hb2.trans (hb6.mono hb2.size)).setCell (Nat.le_refl _) _).setCell (Nat.le_refl _) _
      · obtain rfl : k = 3 := by omega
        have hrow := (hb.block w.heap.size (by omega)).trans HROW.out
        have r0 := cell_of_row _ _ 0 _ _ _ hrow
        have r1 := cell_of_row _ _ 1 _ _ _ hrow
        have f0 := frozen_of_row _ _ 0 _ _ hrow
        have f1 := frozen_of_row _ _ 1 _ _ hrow
        have q := pair_put hrow (.int .i64 0) (.int .i64 0)
        have q0 := cell_of_row _ _ 0 _ _ _ q
        have q1 := cell_of_row _ _ 1 _ _ _ q
        clear q hrow
        go_wp2_with fail
        refine bodyPost_ret (v := .tuple #[.agg #[.int .i64 0, .int .i64 0], .bool false]) (by simp [results, Tryd.results14, go_sem, q0, q1]) rfl ⟨read_ret (cand_none fun d hd h0 h1 => ?_), ?_⟩
        · rw [HDS.out] at hd
          obtain ⟨j, hj, hjd⟩ := List.getElem_of_mem hd
          have hl := HN.out
          exact HK.out j d (by omega) (by rw [List.getElem?_eq_getElem hj, hjd]) (fun h => h0 (by rw [h])) (by rw [h1]; exact Tw.str_of s)
        · exact ((hb2.trans (hb.mono hb2.size)).setCell (Nat.le_refl _) _).setCell (Nat.le_refl _) _

end Go.Proofs.YtbaakapnbginoaaDoor
