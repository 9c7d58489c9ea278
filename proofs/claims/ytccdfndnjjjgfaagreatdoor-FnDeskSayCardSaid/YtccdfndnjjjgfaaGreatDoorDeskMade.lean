/-
  The reference's DeskDo: a deed that changes the walk.
-/
import Derived.Test.YtccdfndnjjjgfaaGreatDoorDeskDone
import Derived.Test.YtccdfndnjjjgfaaGreatDoorSteps
namespace Go.Proofs.YtccdfndnjjjgfaaGreatDoor
open Go.RowKit



theorem grow_at {W w4 : World} {o r : Obj} {b : Nat} {row : Option Nat} (h : W.heap[b]? = some r) (hg : (W.alloc o).grownBy w4 row) (hne : row ≠ some b) : w4.heap[b]? = some r :=
  (hg.block b (by have := lt_at h; simp; omega) (fun e => hne e.symm)).trans ((Lib.alloc_old _ _ _ (lt_at h)).trans h)

/-- The desk after a deed, and whether it was done. -/
def deskDone (s : ByteArray) (zs : List ByteArray) (k n : Int) : ByteArray × List ByteArray × Bool :=
  if k = 5 ∧ n = 0 ∧ 0 < zs.length then (zs.getLastD ⟨#[]⟩, zs.take (zs.length - 1), true)
  else if (made s k n).2 = true ∧ (made s k n).1 ≠ s then ((made s k n).1, (zs ++ [s]).drop (zs.length + 1 - 8), true) else (s, zs, false)
def deskDo (s : ByteArray) (zs : List ByteArray) (k n : Int) : ByteArray × List ByteArray × Bool := if deskOk s zs = true then deskDone s zs k n else (⟨#[]⟩, [], false)
theorem walks_mem {zs : List ByteArray} (h : walksOk zs = true) {z : ByteArray} (hz : z ∈ zs) : Tw.walkOk z.data.toList = true := by
  unfold walksOk at h
  exact List.all_eq_true.1 h z hz
theorem deskOk_parts {s : ByteArray} {zs : List ByteArray} (h : deskOk s zs = true) : Tw.walkOk s.data.toList = true ∧ zs.length ≤ 8 ∧ ∀ z ∈ zs, Tw.walkOk z.data.toList = true := by
  unfold deskOk at h
  simp only [Bool.and_eq_true, decide_eq_true_eq] at h
  exact ⟨h.1.1, h.2, fun z hz => walks_mem h.1.2 hz⟩
theorem ok_size {s : ByteArray} (h : Tw.walkOk s.data.toList = true) : s.size ≤ 40 := by
  have := Tw.walkOk_len h
  rwa [size_data] at this
theorem deskDone_made {s : ByteArray} {zs : List ByteArray} {k n : Int} {x : ByteArray} (hk : k ≠ 5) (hm : made s k n = (x, true)) (hx : x ≠ s) : deskDone s zs k n = (x, (zs ++ [s]).drop (zs.length + 1 - 8), true) := by
  unfold deskDone
  rw [if_neg (fun h => hk h.1), hm, if_pos ⟨rfl, hx⟩]
theorem deskDone_same {s : ByteArray} {zs : List ByteArray} {k n : Int} (h5 : ¬ (k = 5 ∧ n = 0 ∧ 0 < zs.length)) (hm : ¬ ((made s k n).2 = true ∧ (made s k n).1 ≠ s)) : deskDone s zs k n = (s, zs, false) := by
  unfold deskDone
  rw [if_neg h5, if_neg hm]
set_option maxRecDepth 100000 in
set_option maxHeartbeats 3200000 in
theorem do_few (s : ByteArray) (a : Option Addr) (c L : Nat) (zs : List ByteArray) (w : World) (h : StrsAt w (.slice a L c) zs) (HL : Hid (zs.length = L)) (hs : s.size ≤ 41) (h8 : L < 8) (HZ : Hid (∀ z ∈ zs, z.size ≤ 41)) (hok : Hid (deskOk s zs = true)) (k n : Int) (hkn : -9223372036854775808 ≤ n ∧ n ≤ 9223372036854775807) (hc : (k == 5) = false) (x : ByteArray) (hm : Hid (made s k n = (x, true))) (hx : (x.toList == s.toList) = false) :
    Calls Tryz.prog 49 #[.agg #[.string s, .slice a L c], .agg #[.int .i64 k, .int .i64 n]] w (DeskOut w x ((zs ++ [s]).drop 0) true) := by
  obtain ⟨i0, hi0, hz0, hz1, hz2⟩ := info_parts stringInfo
  obtain ⟨hbx, hb, hsz⟩ := boxes_start w s (.slice a L c) k n
  obtain ⟨W, hW⟩ : ∃ W, boxWorld w s (.slice a L c) k n = W := ⟨_, rfl⟩
  rw [hW] at hbx hb hsz
  have hdk := deskOk_named s (.slice a L c) zs W (h.below' hb) (by omega) (by rw [HL.out]; omega) (fun z hz' => by have := HZ.out z hz'; omega) true hok.out
  have hst := h.below' hb
  obtain ⟨⟨d0, d1⟩, ho⟩ := hbx.cells
  clear ho
  have HST := Lib.hid hst
  have HDK := Lib.hid hdk
  have HBX := Lib.hid hbx
  unfold boxWorld at hW
  have HW := Lib.hid hW
  clear hdk hbx hW h hok hst
  have h81 : (L : Int) + 1 ≤ 8 := by omega
  go_enter Tryz.func49, Tryz.ntmps49
  go_wp2_with fail
  rw [HW.out]
  go_wp2_with (first
    | (go_at_call 24; refine HDK.out.mono ?_; rintro e w1 ⟨rfl, hb1⟩; have hbx1 := HBX.out.below hb1; have hs1 := hb1.size; have hst1 := HST.out.below' hb1; have BX1 := Lib.hid hbx1; have ST1 := Lib.hid hst1; obtain ⟨⟨e0, e1⟩, ho⟩ := hbx1.cells; clear ho; clear hbx1 hst1)
    | (go_at_call 38; refine (copy_named s _ zs w1 ST1.out L HL.out (by omega)).mono ?_; rintro e w2 ⟨g2, cap2, rfl, hown2, hp2, hb2⟩; have hbx2 := BX1.out.below hb2; have hs2 := hb2.size; have hg2 := hown2.lt g2 rfl; have hc2 := own_le hown2; have hlR := lt_at hbx2.r; obtain ⟨hq, hq2, ⟨x0, x1⟩, xf0, xf1⟩ := hbx2.cells; clear hq hq2; obtain ⟨⟨k0, k1⟩, ⟨l0, l1⟩, ⟨r0, r1⟩, rf0, rf1⟩ := hbx2.allocs; have ho3 := heap_alloc_new w2 (.cells #[.string s, .slice (some ⟨g2, 0, none⟩) L cap2] 27); have o0 := cell_of_row _ _ 0 _ _ _ ho3; have o1 := cell_of_row _ _ 1 _ _ _ ho3; have fo0 := frozen_of_row _ _ 0 _ _ ho3; have fo1 := frozen_of_row _ _ 1 _ _ ho3; have hneA : w2.heap.size ≠ w.heap.size + 1 + 1 := (by omega); have hneB := hneA.symm; have hneG : (Value.slice (some ⟨g2, 0, none⟩) L cap2).ownBlock ≠ some w2.heap.size := (fun e => by (have h9 : g2 = w2.heap.size := Option.some.inj e; omega)); have hneR : g2 ≠ w.heap.size + 1 + 1 := (by omega); have HP2 := Lib.hid hp2; have HO3 := Lib.hid ho3; have HRX := Lib.hid hbx2.r; have HOW2 := Lib.hid hown2; have BX2 := Lib.hid hbx2; clear hbx2 ho3 hp2; have hneR2 : (Value.slice (some ⟨g2, 0, none⟩) L cap2).ownBlock ≠ some (w.heap.size + 1 + 1) := (fun e => hneR (Option.some.inj e)))
    | (go_at_call 103; refine (made_named s k n _ x _ hs hkn hm).mono ?_; rintro e w3 ⟨rfl, hb3⟩; have hsz3 := hb3.size; simp only [World.size_alloc] at hsz3; have hbx3 := (BX2.out.below ((Below.refl _ _).alloc (Nat.le_refl _) (.cells #[.string s, .slice (some ⟨g2, 0, none⟩) L cap2] 27))).below hb3; have hoo3 := (hb3.block w2.heap.size (by simp)).trans HO3.out; have m0 := cell_of_row _ _ 0 _ _ _ hoo3; have m1 := cell_of_row _ _ 1 _ _ _ hoo3; have mf0 := frozen_of_row _ _ 0 _ _ hoo3; have mf1 := frozen_of_row _ _ 1 _ _ hoo3; obtain ⟨⟨n0, n1⟩, _, ⟨p0, p1⟩, pf0, pf1⟩ := hbx3.cells; have BX3 := Lib.hid hbx3; have HOO3 := Lib.hid hoo3; clear hbx3 hoo3; have hown3 := own_below ((Go.World.ownsRow.mono HOW2.out (show w.heap.size + 2 ≤ _ by omega)).alloc (.cells #[.string s, .slice (some ⟨g2, 0, none⟩) L cap2] 27)) hb3; have OWN3 := Lib.hid hown3; clear hown3)
    | (at_builtin; go_loud (refine wpList_append_lies _ (by rfl) _ _ _ (by rfl) (w.heap.size + 2) 9 i0 _ 1 16 Tryz.underlying22 hi0 hz0 hz1 hz2 rfl (by omega) _ L _ (by rfl) (OWN3.out.alloc _) ⟨w3.heap.size, 0, none⟩ 1 1 [.string s] (by rfl) (by rfl) (World.news_of_block (cs := #[.string s]) (t := 9) (fr := (0, 0)) (heap_alloc_new w3 _)) (by simp [Value.oneCell']) (by omega) (by unfold maxLen; omega) (by omega) (by simp; omega) (w3.heap.size + 1) (by simp) ?_; intro g4 cap4 w4 hown4 hgrow4 hat4 hlt4; have hoo4 := grow_at HOO3.out hgrow4 hneG; have hrr4 := grow_at BX3.out.r hgrow4 hneR2; have s0 := cell_of_row _ _ 0 _ _ _ hoo4; have s1 := cell_of_row _ _ 1 _ _ _ hoo4; have sf0 := frozen_of_row _ _ 0 _ _ hoo4; have sf1 := frozen_of_row _ _ 1 _ _ hoo4; have t0 := cell_of_row _ _ 0 _ _ _ hrr4; have t1 := cell_of_row _ _ 1 _ _ _ hrr4; have tf0 := frozen_of_row _ _ 0 _ _ hrr4; have tf1 := frozen_of_row _ _ 1 _ _ hrr4; have hc4 := own_le hown4; have HOO4 := Lib.hid hoo4; have HRR4 := Lib.hid hrr4; clear hoo4 hrr4)))
  have hbw1 := hb.trans (hb1.mono hb.size)
  have hbw2 := hbw1.trans (hb2.mono hbw1.size)
  have hbw3 := (hbw2.alloc hbw2.size (.cells #[.string s, .slice (some ⟨g2, 0, none⟩) L cap2] 27)).trans (hb3.mono (by simp; omega))
  have hbw4 := (hbw3.alloc hbw3.size (.cells #[.string s] 9)).grown hgrow4 (by simp; omega) (fun j hj => by (have h9 : g2 = j := Option.some.inj hj; omega))
  have hg4 : g4 ≠ w2.heap.size ∧ g4 ≠ w.heap.size + 1 + 1 ∧ w.heap.size ≤ g4 := by
    rcases hat4 with h9 | h9
    · have h9 : g2 = g4 := Option.some.inj h9
      omega
    · omega
  have hp4 : PastAt w4 (.slice (some ⟨g4, 0, none⟩) (L + 1) cap4) (zs ++ [s]) := by
    have e1 : strVals (zs ++ [s]) = strVals zs ++ [.string s] := by unfold strVals; rw [List.map_append]; rfl
    have e2 : (zs ++ [s]).length = L + 1 := by rw [List.length_append, HL.out]; rfl
    have := past_own (v := .slice (some ⟨g4, 0, none⟩) (L + 1) cap4) (ys := zs ++ [s]) (w := w4) (base := w.heap.size + 2) (by rw [e1, e2]; exact hown4)
    exact this
  have hO : ((w4.setCell ⟨w2.heap.size, 1, none⟩ (Value.slice (some ⟨g4, 0, none⟩) (L + 1) cap4)).setCell ⟨w2.heap.size, 0, none⟩ (.string x)).heap[w.heap.size + 1 + 1]? = some (.cells #[.string ⟨#[]⟩, .slice none 0 0] 27 (0, 0)) := (heap_setCell_other (w4.setCell ⟨w2.heap.size, 1, none⟩ (Value.slice (some ⟨g4, 0, none⟩) (L + 1) cap4)) ⟨w2.heap.size, 0, none⟩ _ (.string x) (fun e => hneA e.symm)).trans ((heap_setCell_other w4 ⟨w2.heap.size, 1, none⟩ _ (Value.slice (some ⟨g4, 0, none⟩) (L + 1) cap4) (fun e => hneA e.symm)).trans (HRR4.out))
  have q := pair_put hO (.string x) (Value.slice (some ⟨g4, 0, none⟩) (L + 1) cap4)
  have q0 := cell_of_row _ _ 0 _ _ _ q
  have q1 := cell_of_row _ _ 1 _ _ _ q
  clear q
  refine bodyPost_ret (v := .tuple #[.agg #[.string x, Value.slice (some ⟨g4, 0, none⟩) (L + 1) cap4], .bool true]) (by simp [results, Tryz.results49, go_sem, q0, q1]) rfl ?_
  have hle : w.heap.size ≤ w.heap.size + 1 + 1 := by omega
  have hle2 : w.heap.size ≤ w2.heap.size := by omega
  have hneO : (Value.slice (some ⟨g4, 0, none⟩) (L + 1) cap4).ownBlock ≠ some w2.heap.size := fun e => hg4.1 (Option.some.inj e)
  have hneR3 : (Value.slice (some ⟨g4, 0, none⟩) (L + 1) cap4).ownBlock ≠ some (w.heap.size + 1 + 1) := fun e => hg4.2.1 (Option.some.inj e)
  refine ⟨_, rfl, ?_, Fresh.slice hg4.2.2, ?_⟩
  · exact (past_put (past_put (past_put (past_put (hp4) _ _ hneO) _ _ hneO) _ _ hneR3) _ _ hneR3)
  · exact ((((hbw4.setCell hle2 _).setCell hle2 _).setCell hle _).setCell hle _)

set_option maxRecDepth 100000 in
set_option maxHeartbeats 3200000 in
theorem do_full (s : ByteArray) (a : Option Addr) (c L : Nat) (zs : List ByteArray) (w : World) (h : StrsAt w (.slice a L c) zs) (HL : Hid (zs.length = L)) (hs : s.size ≤ 41) (h8 : L = 8) (HZ : Hid (∀ z ∈ zs, z.size ≤ 41)) (hok : Hid (deskOk s zs = true)) (k n : Int) (hkn : -9223372036854775808 ≤ n ∧ n ≤ 9223372036854775807) (hc : (k == 5) = false) (x : ByteArray) (hm : Hid (made s k n = (x, true))) (hx : (x.toList == s.toList) = false) :
    Calls Tryz.prog 49 #[.agg #[.string s, .slice a L c], .agg #[.int .i64 k, .int .i64 n]] w (DeskOut w x ((zs ++ [s]).drop 1) true) := by
  obtain ⟨i0, hi0, hz0, hz1, hz2⟩ := info_parts stringInfo
  obtain ⟨hbx, hb, hsz⟩ := boxes_start w s (.slice a L c) k n
  obtain ⟨W, hW⟩ : ∃ W, boxWorld w s (.slice a L c) k n = W := ⟨_, rfl⟩
  rw [hW] at hbx hb hsz
  have hdk := deskOk_named s (.slice a L c) zs W (h.below' hb) (by omega) (by rw [HL.out]; omega) (fun z hz' => by have := HZ.out z hz'; omega) true hok.out
  have hst := h.below' hb
  obtain ⟨⟨d0, d1⟩, ho⟩ := hbx.cells
  clear ho
  have HST := Lib.hid hst
  have HDK := Lib.hid hdk
  have HBX := Lib.hid hbx
  unfold boxWorld at hW
  have HW := Lib.hid hW
  clear hdk hbx hW h hok hst
  subst h8
  go_enter Tryz.func49, Tryz.ntmps49
  go_wp2_with fail
  rw [HW.out]
  go_wp2_with (first
    | (go_at_call 24; refine HDK.out.mono ?_; rintro e w1 ⟨rfl, hb1⟩; have hbx1 := HBX.out.below hb1; have hs1 := hb1.size; have hst1 := HST.out.below' hb1; have BX1 := Lib.hid hbx1; have ST1 := Lib.hid hst1; obtain ⟨⟨e0, e1⟩, ho⟩ := hbx1.cells; clear ho; clear hbx1 hst1)
    | (go_at_call 38; refine (copy_named s _ zs w1 ST1.out 8 HL.out (by omega)).mono ?_; rintro e w2 ⟨g2, cap2, rfl, hown2, hp2, hb2⟩; have hbx2 := BX1.out.below hb2; have hs2 := hb2.size; have hg2 := hown2.lt g2 rfl; have hc2 := own_le hown2; have hlR := lt_at hbx2.r; obtain ⟨hq, hq2, ⟨x0, x1⟩, xf0, xf1⟩ := hbx2.cells; clear hq hq2; obtain ⟨⟨k0, k1⟩, ⟨l0, l1⟩, ⟨r0, r1⟩, rf0, rf1⟩ := hbx2.allocs; have ho3 := heap_alloc_new w2 (.cells #[.string s, .slice (some ⟨g2, 0, none⟩) 8 cap2] 27); have o0 := cell_of_row _ _ 0 _ _ _ ho3; have o1 := cell_of_row _ _ 1 _ _ _ ho3; have fo0 := frozen_of_row _ _ 0 _ _ ho3; have fo1 := frozen_of_row _ _ 1 _ _ ho3; have hneA : w2.heap.size ≠ w.heap.size + 1 + 1 := (by omega); have hneB := hneA.symm; have hneG : (Value.slice (some ⟨g2, 0, none⟩) 8 cap2).ownBlock ≠ some w2.heap.size := (fun e => by (have h9 : g2 = w2.heap.size := Option.some.inj e; omega)); have hneR : g2 ≠ w.heap.size + 1 + 1 := (by omega); have HP2 := Lib.hid hp2; have HO3 := Lib.hid ho3; have HRX := Lib.hid hbx2.r; have HOW2 := Lib.hid hown2; have BX2 := Lib.hid hbx2; clear hbx2 ho3 hp2; have hneR2 : (Value.slice (some ⟨g2, 0, none⟩) 8 cap2).ownBlock ≠ some (w.heap.size + 1 + 1) := (fun e => hneR (Option.some.inj e)))
    | (go_at_call 103; refine (made_named s k n _ x _ hs hkn hm).mono ?_; rintro e w3 ⟨rfl, hb3⟩; have hsz3 := hb3.size; simp only [World.size_alloc] at hsz3; have hbx3 := (BX2.out.below ((Below.refl _ _).alloc (Nat.le_refl _) (.cells #[.string s, .slice (some ⟨g2, 0, none⟩) 8 cap2] 27))).below hb3; have hoo3 := (hb3.block w2.heap.size (by simp)).trans HO3.out; have m0 := cell_of_row _ _ 0 _ _ _ hoo3; have m1 := cell_of_row _ _ 1 _ _ _ hoo3; have mf0 := frozen_of_row _ _ 0 _ _ hoo3; have mf1 := frozen_of_row _ _ 1 _ _ hoo3; obtain ⟨⟨n0, n1⟩, _, ⟨p0, p1⟩, pf0, pf1⟩ := hbx3.cells; have BX3 := Lib.hid hbx3; have HOO3 := Lib.hid hoo3; clear hbx3 hoo3; have hown3 := own_below ((Go.World.ownsRow.mono HOW2.out (show w.heap.size + 2 ≤ _ by omega)).alloc (.cells #[.string s, .slice (some ⟨g2, 0, none⟩) 8 cap2] 27)) hb3; have OWN3 := Lib.hid hown3; clear hown3)
    | (at_builtin; go_loud (refine wpList_append_lies _ (by rfl) _ _ _ (by rfl) (w.heap.size + 2) 9 i0 _ 1 16 Tryz.underlying22 hi0 hz0 hz1 hz2 rfl (by omega) _ 8 _ (by rfl) (OWN3.out.alloc _) ⟨w3.heap.size, 0, none⟩ 1 1 [.string s] (by rfl) (by rfl) (World.news_of_block (cs := #[.string s]) (t := 9) (fr := (0, 0)) (heap_alloc_new w3 _)) (by simp [Value.oneCell']) (by omega) (by unfold maxLen; omega) (by omega) (by simp; omega) (w3.heap.size + 1) (by simp) ?_; intro g4 cap4 w4 hown4 hgrow4 hat4 hlt4; have hoo4 := grow_at HOO3.out hgrow4 hneG; have hrr4 := grow_at BX3.out.r hgrow4 hneR2; have s0 := cell_of_row _ _ 0 _ _ _ hoo4; have s1 := cell_of_row _ _ 1 _ _ _ hoo4; have sf0 := frozen_of_row _ _ 0 _ _ hoo4; have sf1 := frozen_of_row _ _ 1 _ _ hoo4; have t0 := cell_of_row _ _ 0 _ _ _ hrr4; have t1 := cell_of_row _ _ 1 _ _ _ hrr4; have tf0 := frozen_of_row _ _ 0 _ _ hrr4; have tf1 := frozen_of_row _ _ 1 _ _ hrr4; have hc4 := own_le hown4; have HOO4 := Lib.hid hoo4; have HRR4 := Lib.hid hrr4; clear hoo4 hrr4)))
  have hbw1 := hb.trans (hb1.mono hb.size)
  have hbw2 := hbw1.trans (hb2.mono hbw1.size)
  have hbw3 := (hbw2.alloc hbw2.size (.cells #[.string s, .slice (some ⟨g2, 0, none⟩) 8 cap2] 27)).trans (hb3.mono (by simp; omega))
  have hbw4 := (hbw3.alloc hbw3.size (.cells #[.string s] 9)).grown hgrow4 (by simp; omega) (fun j hj => by (have h9 : g2 = j := Option.some.inj hj; omega))
  have hg4 : g4 ≠ w2.heap.size ∧ g4 ≠ w.heap.size + 1 + 1 ∧ w.heap.size ≤ g4 := by
    rcases hat4 with h9 | h9
    · have h9 : g2 = g4 := Option.some.inj h9
      omega
    · omega
  have hp4 : PastAt w4 (.slice (some ⟨g4, 0, none⟩) (8 + 1) cap4) (zs ++ [s]) := by
    have e1 : strVals (zs ++ [s]) = strVals zs ++ [.string s] := by unfold strVals; rw [List.map_append]; rfl
    have e2 : (zs ++ [s]).length = 8 + 1 := by rw [List.length_append, HL.out]; rfl
    have := past_own (v := .slice (some ⟨g4, 0, none⟩) (8 + 1) cap4) (ys := zs ++ [s]) (w := w4) (base := w.heap.size + 2) (by rw [e1, e2]; exact hown4)
    exact this
  have hO : (((w4.setCell ⟨w2.heap.size, 1, none⟩ (Value.slice (some ⟨g4, 0, none⟩) (8 + 1) cap4)).setCell ⟨w2.heap.size, 1, none⟩ (Value.slice (some ⟨g4, 1, none⟩) 8 (cap4 - 1))).setCell ⟨w2.heap.size, 0, none⟩ (.string x)).heap[w.heap.size + 1 + 1]? = some (.cells #[.string ⟨#[]⟩, .slice none 0 0] 27 (0, 0)) := (heap_setCell_other ((w4.setCell ⟨w2.heap.size, 1, none⟩ (Value.slice (some ⟨g4, 0, none⟩) (8 + 1) cap4)).setCell ⟨w2.heap.size, 1, none⟩ (Value.slice (some ⟨g4, 1, none⟩) 8 (cap4 - 1))) ⟨w2.heap.size, 0, none⟩ _ (.string x) (fun e => hneA e.symm)).trans ((heap_setCell_other (w4.setCell ⟨w2.heap.size, 1, none⟩ (Value.slice (some ⟨g4, 0, none⟩) (8 + 1) cap4)) ⟨w2.heap.size, 1, none⟩ _ (Value.slice (some ⟨g4, 1, none⟩) 8 (cap4 - 1)) (fun e => hneA e.symm)).trans ((heap_setCell_other w4 ⟨w2.heap.size, 1, none⟩ _ (Value.slice (some ⟨g4, 0, none⟩) (8 + 1) cap4) (fun e => hneA e.symm)).trans (HRR4.out)))
  have q := pair_put hO (.string x) (Value.slice (some ⟨g4, 1, none⟩) 8 (cap4 - 1))
  have q0 := cell_of_row _ _ 0 _ _ _ q
  have q1 := cell_of_row _ _ 1 _ _ _ q
  clear q
  refine bodyPost_ret (v := .tuple #[.agg #[.string x, Value.slice (some ⟨g4, 1, none⟩) 8 (cap4 - 1)], .bool true]) (by simp [results, Tryz.results49, go_sem, q0, q1]) rfl ?_
  have hle : w.heap.size ≤ w.heap.size + 1 + 1 := by omega
  have hle2 : w.heap.size ≤ w2.heap.size := by omega
  have hneO : (Value.slice (some ⟨g4, 1, none⟩) 8 (cap4 - 1)).ownBlock ≠ some w2.heap.size := fun e => hg4.1 (Option.some.inj e)
  have hneR3 : (Value.slice (some ⟨g4, 1, none⟩) 8 (cap4 - 1)).ownBlock ≠ some (w.heap.size + 1 + 1) := fun e => hg4.2.1 (Option.some.inj e)
  refine ⟨_, rfl, ?_, Fresh.slice hg4.2.2, ?_⟩
  · exact (past_put (past_put (past_put (past_put (past_put (past_drop hp4 (by rw [List.length_append, HL.out]; rfl)) _ _ hneO) _ _ hneO) _ _ hneO) _ _ hneR3) _ _ hneR3)
  · exact (((((hbw4.setCell hle2 _).setCell hle2 _).setCell hle2 _).setCell hle _).setCell hle _)

theorem specDeskDone (s : ByteArray) (v : Value) (zs : List ByteArray) (k n : Int) (w : World) (h : StrsAt w v zs) (hok : deskOk s zs = true) (hkn : -9223372036854775808 ≤ n ∧ n ≤ 9223372036854775807) :
    Calls Tryz.prog 49 #[.agg #[.string s, v], .agg #[.int .i64 k, .int .i64 n]] w (DeskOut w (deskDone s zs k n).1 (deskDone s zs k n).2.1 (deskDone s zs k n).2.2) := by
  obtain ⟨h1, h8, h2⟩ := deskOk_parts hok
  have hs : s.size ≤ 41 := by have := ok_size h1; omega
  have hz : ∀ z ∈ zs, z.size ≤ 41 := fun z hz => by have := ok_size (h2 z hz); omega
  obtain ⟨a, c, rfl⟩ := strs_value h
  rcases Decidable.em (k = 5 ∧ n = 0 ∧ 0 < zs.length) with ⟨rfl, rfl, hl⟩ | h5
  · have e : deskDone s zs 5 0 = (zs.getLastD ⟨#[]⟩, zs.take (zs.length - 1), true) := by unfold deskDone; rw [if_pos ⟨rfl, rfl, hl⟩]
    rw [e]
    refine do_back s a c zs.length zs w h (Lib.hid rfl) hs h8 (Lib.hid hz) (Lib.hid hok) (zs.length - 1) (by omega) _ (Lib.hid ?_)
    cases zs with
    | nil => exact absurd hl (by simp)
    | cons y ys =>
      rw [List.getLastD_cons, List.getLast?_eq_getElem?.symm]
      simp [List.getLast?_cons]
  · rcases Decidable.em ((made s k n).2 = true ∧ (made s k n).1 ≠ s) with hm | hm
    · have hk : k ≠ 5 := by
        rintro rfl
        have : made s 5 n = (s, false) := by unfold made; rfl
        rw [this] at hm
        exact absurd hm.1 (by simp)
      have hm2 : made s k n = ((made s k n).1, true) := Prod.ext rfl hm.1
      rw [deskDone_made hk hm2 hm.2]
      have hx : ((made s k n).1.toList == s.toList) = false := (eq_bytes _ _).trans (decide_eq_false hm.2)
      rcases Nat.lt_or_ge zs.length 8 with hl | hl
      · have e : zs.length + 1 - 8 = 0 := by omega
        rw [e]
        exact do_few s a c zs.length zs w h (Lib.hid rfl) hs hl (Lib.hid hz) (Lib.hid hok) k n hkn (beq_false_of_ne hk) _ (Lib.hid hm2) hx
      · have hl8 : zs.length = 8 := by omega
        have e : zs.length + 1 - 8 = 1 := by omega
        rw [e]
        exact do_full s a c zs.length zs w h (Lib.hid rfl) hs hl8 (Lib.hid hz) (Lib.hid hok) k n hkn (beq_false_of_ne hk) _ (Lib.hid hm2) hx
    · rw [deskDone_same h5 hm]
      refine do_same s a c zs.length zs w h (Lib.hid rfl) hs h8 (Lib.hid hz) (Lib.hid hok) k n hkn ?_ (made s k n).1 (made s k n).2 (Lib.hid rfl) ?_
      · rcases Decidable.em (k = 5) with rfl | hk
        · rcases Decidable.em (n = 0) with rfl | hn
          · exact .inr (.inr ⟨rfl, rfl, by have : ¬ 0 < zs.length := fun h => h5 ⟨rfl, rfl, h⟩; omega⟩)
          · exact .inr (.inl ⟨rfl, beq_false_of_ne hn⟩)
        · exact .inl (beq_false_of_ne hk)
      · cases hb : (made s k n).2
        · exact .inl rfl
        · refine .inr ⟨rfl, (eq_bytes _ _).trans (decide_eq_true ?_)⟩
          exact Decidable.byContradiction fun h9 => hm ⟨hb, h9⟩
theorem specDeskDo (s : ByteArray) (v : Value) (zs : List ByteArray) (k n : Int) (w : World) (h : StrsAt w v zs) (hs : s.size ≤ 1048576) (hn : zs.length ≤ 1048576) (hz : ∀ z ∈ zs, z.size ≤ 1048576) (hkn : -9223372036854775808 ≤ n ∧ n ≤ 9223372036854775807) :
    Calls Tryz.prog 49 #[.agg #[.string s, v], .agg #[.int .i64 k, .int .i64 n]] w (DeskOut w (deskDo s zs k n).1 (deskDo s zs k n).2.1 (deskDo s zs k n).2.2) := by
  unfold deskDo
  split
  · rename_i hok
    exact specDeskDone s v zs k n w h hok hkn
  · rename_i hok
    exact do_none s v zs k n w h hs hn hz (by simpa using hok)

end Go.Proofs.YtccdfndnjjjgfaaGreatDoor
