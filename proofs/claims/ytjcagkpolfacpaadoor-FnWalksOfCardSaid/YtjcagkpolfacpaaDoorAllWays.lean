/-
  AllWays, of the program: the eight ways, sorted and compacted.
-/
import Derived.Test.YtjcagkpolfacpaaDoorSortPure
import Derived.Test.YtjcagkpolfacpaaDoorDeskDone
import Derived.Test.YtjcagkpolfacpaaDoorWaysImpl
import Derived.Test.YtjcagkpolfacpaaDoorFirst
import Derived.Sort.Grow
import Derived.Sort.EncStr
import Derived.Lib.RowBridge
import Derived.Deep.AppendLies
import Derived.Test.YtjcagkpolfacpaaDoorShelf
namespace Go.Proofs.YtjcagkpolfacpaaDoor
open Go.RowKit
open Go.Sort (Holds putRow putCells grow grow_empty heap_grow_old)

/-- What AllWays says. -/
def allW (s : ByteArray) : List ByteArray := if Tw.walkOk s.data.toList = true then (Tw.allWays s.data.toList).map Tw.str else []
def TextsOut (w : World) (r : List ByteArray) (e : Ending) (w' : World) : Prop := ∃ v, e = .returned v ∧ PastAt w' v r ∧ Fresh w.heap.size v ∧ Below w.heap.size w w'

/-- Texts in a row known whole. -/
def TxAt (w : World) (g cap : Nat) (zs : List Tw.Tx) : Prop := ∃ cur : Array Value, w.heap[g]? = some (.cells cur 9 (0, 0)) ∧ cap ≤ cur.size ∧ zs.length ≤ cap ∧ ∀ (j : Nat) (z : Tw.Tx), zs[j]? = some z → cur[j]? = some (encStr z)
theorem enc_str (z : Tw.Tx) : encStr z = .string (Tw.str z) := rfl
theorem tx_own {w : World} {base g n cap : Nat} {zs : List Tw.Tx} (h : w.ownsRow base 9 1 (.slice (some ⟨g, 0, none⟩) n cap) n (strVals (zs.map Tw.str))) (hn : zs.length = n) : TxAt w g cap zs := by
  rcases h.2 with ⟨h1, _⟩ | ⟨g', cap', cur, h1, _, hg, hl, _, hs, ht⟩
  · cases h1
  · cases h1
    refine ⟨cur, hg, by omega, by omega, fun j z hz => ?_⟩
    have hj := (List.getElem?_eq_some_iff.1 hz).1
    have e : (cur.toList.take (n * 1))[j]? = (strVals (zs.map Tw.str))[j]? := by rw [ht]
    rw [List.getElem?_take, if_pos (by omega), Array.getElem?_toList] at e
    rw [e]
    unfold strVals
    rw [List.getElem?_map, List.getElem?_map, hz]
    rfl
theorem TxAt.holds {w : World} {g cap : Nat} {zs : List Tw.Tx} (h : TxAt w g cap zs) : Holds encStr w g 0 zs.toArray := by
  obtain ⟨cur, hg, _, _, hz⟩ := h
  intro j hj
  have hj' : j < zs.length := by simpa using hj
  refine ⟨?_, frozen_of_row _ _ _ _ _ hg⟩
  rw [Nat.zero_add, cell_of_row _ _ _ _ _ _ hg, hz j _ (List.getElem?_eq_getElem hj')]
  simp [getElem!_pos, hj']
theorem TxAt.put {w : World} {g cap : Nat} {zs ys : List Tw.Tx} (h : TxAt w g cap zs) (hl : ys.length = zs.length) (n : Nat) (os : Array Obj) : TxAt (grow (putRow encStr (Go.Sort.ahead w n) g 0 ys.toArray) os) g cap ys := by
  obtain ⟨cur, hg, hc, hcap, hz⟩ := h
  refine ⟨putCells encStr 0 ys.toArray cur, ?_, by simpa [putCells] using hc, by omega, fun j z hj => ?_⟩
  · rw [heap_grow_old _ _ (by simpa using lt_at hg)]
    show (w.heap.modify g _)[g]? = _
    rw [Array.getElem?_modify, if_pos rfl, hg]
    rfl
  · have hj' := (List.getElem?_eq_some_iff.1 hj)
    obtain ⟨hj1, hj2⟩ := hj'
    have hjc : j < cur.size := by omega
    unfold putCells
    rw [Array.getElem?_mapIdx, Array.getElem?_eq_getElem hjc]
    simp only [Option.map_some, Nat.zero_le, Nat.zero_add, true_and, Nat.sub_zero, List.size_toArray]
    rw [if_pos hj1]
    simp [getElem!_pos, hj1, hj2]
theorem put_below {w W : World} {B g : Nat} {ys : Array Tw.Tx} (h : Below B w W) (hg : B ≤ g) (hgW : g < W.heap.size) (n : Nat) (os : Array Obj) : Below B w (grow (putRow encStr (Go.Sort.ahead W n) g 0 ys) os) := by
  have hs := h.size
  refine ⟨h.os, h.tape, h.output, by simp; omega, fun k hk => ?_⟩
  rw [← h.block k hk]
  rcases Nat.lt_or_ge k W.heap.size with h1 | h1
  · rw [heap_grow_old _ _ (by simpa using h1)]
    show (W.heap.modify g _)[k]? = _
    rw [Array.getElem?_modify, if_neg (by omega)]
  · omega
theorem put_below0 {w W : World} {B g : Nat} {ys : Array Tw.Tx} (h : Below B w W) (hg : B ≤ g) (hgW : g < W.heap.size) (n : Nat) : Below B w (putRow encStr (Go.Sort.ahead W n) g 0 ys) := by
  have := put_below (ys := ys) h hg hgW n #[]
  rwa [grow_empty] at this
theorem TxAt.put0 {w : World} {g cap : Nat} {zs ys : List Tw.Tx} (h : TxAt w g cap zs) (hl : ys.length = zs.length) (n : Nat) : TxAt (putRow encStr (Go.Sort.ahead w n) g 0 ys.toArray) g cap ys := by
  have := h.put hl n #[]
  rwa [grow_empty] at this
theorem TxAt.past {w : World} {g cap k : Nat} {zs : List Tw.Tx} (h : TxAt w g cap zs) (hk : k ≤ zs.length) : PastAt w (.slice (some ⟨g, 0, none⟩) k cap) ((zs.take k).map Tw.str) := by
  obtain ⟨cur, hg, hc, hcap, hz⟩ := h
  have hl : ((zs.take k).map Tw.str).length = k := by simp; omega
  refine .inr ⟨g, 0, cap, cur, by rw [hl], by omega, hg, by omega, fun j z hj => ?_⟩
  rw [List.getElem?_map, List.getElem?_take] at hj
  split at hj
  · cases hzj : zs[j]? with
    | none => rw [hzj] at hj; cases hj
    | some y =>
      rw [hzj] at hj
      rw [Nat.zero_add, hz j y hzj, ← Option.some.inj hj]
      rfl
  · cases hj

theorem sort_texts {w : World} {g cap B : Nat} {zs : List Tw.Tx} (hB : B ≤ g) (h : TxAt w g cap zs) (hl : zs.length ≤ 1000) :
    Calls Tryd.prog 37 #[.slice (some ⟨g, 0, none⟩) zs.length cap] w fun e w' => e = .returned (.tuple #[]) ∧ TxAt w' g cap (Tw.sortT zs) ∧ Below B w w' := by
  have hg : g < w.heap.size := by obtain ⟨_, hg, _⟩ := h; exact lt_at hg
  refine (Tryd.slices_Sort_string g 0 cap zs w h.holds hg (by omega)).mono ?_
  rintro e w' ⟨rfl, n, os, rfl⟩
  exact ⟨rfl, h.put (by rw [List.length_mergeSort]) n os, put_below (Below.refl _ _) hB hg n os⟩
theorem compact_texts {w : World} {g cap B : Nat} {zs : List Tw.Tx} (hB : B ≤ g) (h : TxAt w g cap zs) (hl : zs.length ≤ 1000) :
    Calls Tryd.prog 38 #[.slice (some ⟨g, 0, none⟩) zs.length cap] w fun e w' => e = .returned (.slice (some ⟨g, 0, none⟩) (Lib.compact zs).length cap) ∧ PastAt w' (.slice (some ⟨g, 0, none⟩) (Lib.compact zs).length cap) ((Lib.compact zs).map Tw.str) ∧ Below B w w' := by
  have hcap : zs.length ≤ cap := by obtain ⟨_, _, _, h9, _⟩ := h; exact h9
  have hcl := Lib.compact_length_le zs
  refine (Tryd.slices_Compact_string g 0 cap zs w h.holds (by omega) hcap).mono ?_
  rintro e w' ⟨rfl, q, rfl⟩
  refine ⟨rfl, ?_, put_below0 (Below.refl _ _) hB (by obtain ⟨_, hg, _⟩ := h; exact lt_at hg) q⟩
  have h2 := (h.put0 (ys := Lib.compact zs ++ List.replicate (zs.length - (Lib.compact zs).length) []) (by simp; omega) q).past (k := (Lib.compact zs).length) (by simp)
  rwa [List.take_left] at h2

set_option maxRecDepth 100000 in
set_option maxHeartbeats 1600000 in
theorem implAllWays (s : ByteArray) (w : World) (hs : s.size ≤ 1048576) (hw : WaysAt w) :
    Calls Tryd.prog 21 #[.string s] w (TextsOut w (allW s)) := by
  cases hok : Tw.walkOk s.data.toList
  · have HOK := Lib.hid hok
    have hr : allW s = [] := by unfold allW; rw [hok]; rfl
    have HR := Lib.hid hr
    clear hok hr
    go_enter Tryd.func21, Tryd.ntmps21
    go_wp2_with (first
      | (go_at_call 23; refine (implWalkOk_is _ _ hs false HOK.out).mono ?_; rintro e w' ⟨rfl, rfl⟩))
    go_ret
    exact ⟨_, rfl, .inl ⟨rfl, HR.out⟩, Fresh.none _, Below.refl _ _⟩
  · obtain ⟨l, hl⟩ : ∃ l, s.data.toList = l := ⟨_, rfl⟩
    have hr : allW s = (Tw.allWays l).map Tw.str := by unfold allW; rw [hok, hl]; rfl
    rw [hr]
    have HOK := Lib.hid hok
    have HL := Lib.hid hl
    have HWY := Lib.hid hw
    clear hok hr hl hw
    obtain ⟨i0, hi0, hz0, hz1, hz2⟩ := info_parts stringInfo
    have hway : ∀ (k : Nat) (W : World), k < 8 → WaysAt W → Calls Tryd.prog 36 #[.string s, .int .i64 k] W fun e w' => e = .returned (.string (Tw.str (Tw.wayList k l))) ∧ Below W.heap.size W w' := fun k W hk hW => by
      have := implInWay s k W hs hW
      rwa [Tw.inWay_eq HOK.out (by omega) (by omega), HL.out] at this
    have HWAY := Lib.hid hway
    clear hway
    go_enter Tryd.func21, Tryd.ntmps21
    go_wp2_with (first
      | (go_at_call 23; refine (implWalkOk_is _ _ hs true HOK.out).mono ?_; rintro e w' ⟨rfl, rfl⟩)
      | (at_make; refine wpList_make_own _ rfl _ _ 24 rfl w.heap.size 9 i0 _ 1 Tryd.underlying24 hi0 hz0 hz1 .i64 .i64 _ 8 rfl rfl rfl (by rw [hz2]; omega) (by unfold maxLen; omega) (Nat.le_refl _) ?_; intro w1 hown1 hg1))
    have hb1 : Below w.heap.size w w1 := (Below.refl _ _).grown hg1 (Nat.le_refl _) (fun k hk => by cases hk)
    clear hg1
    go_loopw [3, 9] (fun v i wr => ∃ k : Nat, k ≤ 8 ∧ i = .int .i64 k ∧ ∃ g cap, v = .slice (some ⟨g, 0, none⟩) k cap ∧ wr.ownsRow w.heap.size 9 1 (.slice (some ⟨g, 0, none⟩) k cap) k (strVals ((Tw.waysUpTo l k).map Tw.str)) ∧ Below w.heap.size w wr)
      (fun _ i _ => 8 - (intOf i).toNat)
    case atStart => exact ⟨0, Nat.zero_le _, rfl, _, _, rfl, hown1, hb1⟩
    case round =>
      obtain ⟨k, hk, rfl, g, cap, rfl, hown, hb⟩ := hrel
      by_cases hlt : k < 8
      · have hgb := (hown.lt g rfl).1
        have hsz := hb.size
        obtain ⟨x, hx⟩ : ∃ x, Tw.str (Tw.wayList k l) = x := ⟨_, rfl⟩
        have hc := HWAY.out k wr hlt (HWY.out.below' hb)
        rw [hx] at hc
        have HX := Lib.hid hx
        have HC := Lib.hid hc
        clear hx hc
        go_wp2_with (first
          | (go_at_call 36; refine HC.out.mono ?_; rintro e w3 ⟨rfl, hb3⟩; have own3 := Lib.hid (own_below hown hb3); have hb3' := hb.trans (hb3.mono hsz); have hs3 := hb3'.size)
          | (at_builtin; refine wpList_append_lies _ rfl _ _ 24 rfl w.heap.size 9 i0 _ 1 16 Tryd.underlying24 hi0 hz0 hz1 hz2 rfl (by omega) _ k _ rfl (own3.out.alloc _) ⟨w3.heap.size, 0, none⟩ 1 1 [.string x] rfl rfl (World.news_of_block (cs := #[.string x]) (t := 9) (fr := (0, 0)) (heap_alloc_new w3 _)) (by simp [Value.oneCell']) (by omega) (by unfold maxLen; omega) (by omega) (by simp; omega) (w3.heap.size + 1) (by simp) ?_; intro g4 cap4 w4 hown4 hgrow4 hat4 hlt4))
        go_roundw
        case rel =>
          refine ⟨k + 1, by omega, by go_num, g4, cap4, rfl, ?_, ?_⟩
          · rw [Tw.waysUpTo_succ, List.map_append, show strVals ((Tw.waysUpTo l k).map Tw.str ++ [Tw.wayList k l].map Tw.str) = strVals ((Tw.waysUpTo l k).map Tw.str) ++ [.string x] from by rw [← HX.out]; unfold strVals; rw [List.map_append]; rfl]
            exact hown4
          · exact (hb3'.alloc hs3 _).grown hgrow4 (by simp; omega) (fun j hj => by have h9 : g = j := Option.some.inj hj; omega)
        case measure => simp [intOf]; omega
      · obtain rfl : k = 8 := by omega
        have hgb := (hown.lt g rfl).1
        have hsz := hb.size
        have hlen : (Tw.waysUpTo l 8).length = 8 := Tw.waysUpTo_length l 8
        have htx := tx_own hown hlen
        obtain ⟨zs, hzs⟩ : ∃ zs, Tw.waysUpTo l 8 = zs := ⟨_, rfl⟩
        rw [hzs] at htx hlen
        have hsort := sort_texts hgb htx (by omega)
        rw [hlen] at hsort
        have hyl : (Tw.sortT zs).length = 8 := by unfold Tw.sortT; rw [List.length_mergeSort, hlen]
        have hfin : Lib.compact (Tw.sortT zs) = Tw.allWays l := by rw [← hzs]; exact Tw.sort_ins _
        obtain ⟨ys, hys⟩ : ∃ ys, Tw.sortT zs = ys := ⟨_, rfl⟩
        rw [hys] at hsort hyl hfin
        have hcomp : ∀ W, TxAt W g cap ys → Calls Tryd.prog 38 #[.slice (some ⟨g, 0, none⟩) 8 cap] W fun e w' => e = .returned (.slice (some ⟨g, 0, none⟩) (Tw.allWays l).length cap) ∧ PastAt w' (.slice (some ⟨g, 0, none⟩) (Tw.allWays l).length cap) ((Tw.allWays l).map Tw.str) ∧ Below w.heap.size W w' := fun W hW => by
          have := compact_texts (B := w.heap.size) hgb hW (by omega)
          rwa [hyl, hfin] at this
        have HS := Lib.hid hsort
        have HC := Lib.hid hcomp
        clear hsort hcomp htx hown hys hyl hfin hzs hlen
        go_wp2_with (first
          | (go_at_call 37; refine HS.out.mono ?_; rintro e w3 ⟨rfl, htx3, hb3⟩; have HT3 := Lib.hid htx3; clear htx3)
          | (go_at_call 38; refine (HC.out _ HT3.out).mono ?_; rintro e w4 ⟨rfl, hp4, hb4⟩))
        go_ret
        exact ⟨_, rfl, hp4, Fresh.slice hgb, (hb.trans hb3).trans hb4⟩
end Go.Proofs.YtjcagkpolfacpaaDoor
