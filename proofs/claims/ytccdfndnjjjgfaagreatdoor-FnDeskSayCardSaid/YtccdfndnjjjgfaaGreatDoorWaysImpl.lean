/-
  The contract of the program's InWay.
-/
import Derived.Test.YtccdfndnjjjgfaaGreatDoorWays
import Derived.Test.YtccdfndnjjjgfaaGreatDoorTabs
import Derived.Laws.BytesArg
import Derived.Maps.AppendAt
import Derived.Deep.RegionHeld3
import Derived.Deep.AppendLies
import Derived.Deep.DeepMust
namespace Go.Proofs.YtccdfndnjjjgfaaGreatDoor
open Go.RowKit

theorem u8info : (Tryz.prog.info? 5).map (fun i => (i.zero, i.size, i.bytes)) = some (some (.int .u8 0), 1, 1) := by kernel_rfl

/-- What is held of a text of bytes that grows. -/
def bytesOf (l : List UInt8) : List Value := l.map fun b => .int .u8 b.toNat

theorem conv_own {w : World} {base g k cap : Nat} {l : List UInt8} (h : w.ownsRow base 5 1 (.slice (some ⟨g, 0, none⟩) k cap) k (bytesOf l)) :
    (convert 36 9 (.slice (some ⟨g, 0, none⟩) k cap)).run Tryz.prog w = .ok (.string (Tw.str l)) w := by
  have hl : l.length = k := by have := h.1; simpa [bytesOf] using this
  have e : Tw.str l = strOfNums (l.map fun b => (b.toNat : Int)) := by
    unfold Tw.str strOfNums
    congr 2
    rw [List.map_map]
    exact (List.map_id l).symm.trans (List.map_congr_left fun b _ => by simp)
  rw [e]
  refine run_convert_bytes_arg w 36 5 Tryz.underlying36 Tryz.underlying5 g 0 k cap _ (by simpa using hl) (fun i hi => ?_) 9 Tryz.underlying9
  have hc := h.cells (g := g) rfl i (.int .u8 (l[i]'(by omega)).toNat) (by simp [bytesOf, List.getElem?_eq_getElem (show i < l.length by omega)])
  have ha : (⟨g, 0, none⟩ : Addr).add i = ⟨g, 0 + i, none⟩ := by unfold Addr.add; split <;> simp_all
  rw [ha] at hc
  rw [hc]
  simp [List.getD, List.getElem?_eq_getElem (show i < l.length by omega)]

theorem way_at {T : ByteArray} {way : Int} (h0 : 0 ≤ way) (h7 : way ≤ 7) (hT : T = Tw.str (wayList.getD way.toNat [])) (b : UInt8) (hb : 0 ≤ Tw.dir b) (hlt : (Tw.dir b).toNat < T.size) : T[(Tw.dir b).toNat] = Tw.wayLetter way b := by
  subst hT
  have hr := Tw.dir_range b
  unfold Tw.wayLetter
  obtain h | h | h | h : Tw.dir b = 0 ∨ Tw.dir b = 1 ∨ Tw.dir b = 2 ∨ Tw.dir b = 3 := by omega
  all_goals
    simp only [h, wayStr way h0 h7]
    rfl

set_option maxRecDepth 100000 in
set_option maxHeartbeats 3200000 in
theorem implInWay_yes (s : ByteArray) (way : Int) (w : World) (hs : s.size ≤ 1048576) (hw : WaysAt w) (hok : Tw.walkOk s.data.toList = true) (h0 : 0 ≤ way) (h7 : way ≤ 7) :
    Calls Tryz.prog 118 #[.string s, .int .i64 way] w fun e w' => e = .returned (.string (Tw.str (Tw.inWay s.data.toList way))) ∧ Below w.heap.size w w' := by
  have HOK := Lib.hid hok
  clear hok
  have h40 : s.size ≤ 40 := by have := Tw.walkOk_len HOK.out; rwa [size_data] at this
  have hB := hw.lt
  obtain ⟨T, hT⟩ : ∃ T, T = Tw.str (wayList.getD way.toNat []) := ⟨_, rfl⟩
  have hT4 : 4 ≤ T.size := by rw [hT, wayStr way h0 h7, Tw.str_size]; simp
  have hcell := hw way.toNat (by omega)
  rw [← hT] at hcell
  have HT := Lib.hid hT
  clear hT
  obtain ⟨i0, hi0, hz0, hz1, hz2⟩ := info_parts u8info
  go_enter Tryz.func118, Tryz.ntmps118
  go_wp2_with (first
    | (go_at_call 67; refine (implWalkOk_is _ _ hs true HOK.out).mono ?_; rintro e w' ⟨rfl, rfl⟩)
    | (at_make; refine wpList_make_own _ rfl _ _ 36 rfl w.heap.size 5 i0 _ 1 Tryz.underlying36 hi0 hz0 hz1 .i64 .i64 _ s.size rfl rfl rfl (by rw [hz2]; omega) (by unfold maxLen; omega) (Nat.le_refl _) ?_; intro w1 hown1 hg1))
  have hb1 : Below w.heap.size w w1 := (Below.refl _ _).grown hg1 (Nat.le_refl _) (fun k hk => by cases hk)
  clear hg1
  have hcell0 := hcell
  clear hcell
  go_loopw [5, 6] (fun v i wr => ∃ k : Nat, k ≤ s.size ∧ i = .int .i64 k ∧ ∃ g cap, v = .slice (some ⟨g, 0, none⟩) k cap ∧ wr.ownsRow w.heap.size 5 1 (.slice (some ⟨g, 0, none⟩) k cap) k (bytesOf ((s.data.toList.take k).map (Tw.wayLetter way))) ∧ Below w.heap.size w wr)
    (fun _ i _ => s.size - (intOf i).toNat)
  case atStart => exact ⟨0, Nat.zero_le _, rfl, _, _, rfl, hown1, hb1⟩
  case round =>
    obtain ⟨k, hk, rfl, g, cap, rfl, hown, hb⟩ := hrel
    by_cases hlt : k < s.size
    · have hd : 0 ≤ Tw.dir s[k] := Tw.walkOk_dir HOK.out (k := k) (by rw [size_data]; exact hlt)
      have hd3 := (Tw.dir_range s[k]).2
      have hcell : wr.cell? ⟨1, way.toNat, none⟩ = some (.string T) := (hb.cell (p := ⟨_, _, none⟩) hB).trans hcell0
      have hsz := hb.size
      have hgb := (hown.lt g rfl).1
      have hi : (Tw.dir s[k]).toNat < T.size := by omega
      have hix := way_at h0 h7 HT.out s[k] hd hi
      have HIX := Lib.hid hix
      clear hix
      go_wp2_with fail
      go_region_held3 (fun w' => w'.cell? ⟨1, way.toNat, none⟩ = some (.string T))
        (first | go_keep | (rw [hgrow2.cell_far _ (by first | (simp; done) | (simp; omega)) (by simp only [Value.ownBlock, ne_eq, Option.some.injEq]; omega)]; go_keep))
        (first
          | (go_at_call 113; refine (dirOf_any _ _).mono ?_; rintro e w' ⟨rfl, rfl⟩)
          | (refine step_append_lies _ (by rfl) _ _ _ (by rfl) w.heap.size 5 i0 _ 1 1 Tryz.underlying36 hi0 hz0 hz1 hz2 rfl (by omega) _ k _ (by rfl) ((hown.alloc _).drew)
              ⟨wr.heap.size, 0, none⟩ 1 1 [.int .u8 (T[(Tw.dir s[k]).toNat]'hi).toNat] (by rfl) (by rfl) (World.news_of_block (cs := #[.int .u8 (T[(Tw.dir s[k]).toNat]'hi).toNat]) (t := 5) (fr := (0, 0)) (heap_alloc_new wr _)) (by simp [Value.oneCell'])
              (by omega) (by unfold maxLen; omega) (by omega) (by simp; omega) (wr.heap.size + 1) (by simp) ?_; intro gg cap2 w2 hown2 hgrow2 hat2 hlt2))
      go_wp2
      go_roundw
      case rel =>
        refine ⟨k + 1, by omega, by go_num, gg, cap2, rfl, ?_, ?_⟩
        · rw [Tw.take_snoc _ k (by rw [size_data]; exact hlt), List.map_append]
          have h2 := hown2
          rw [HIX.out] at h2
          rw [show bytesOf ((s.data.toList.take k).map (Tw.wayLetter way) ++ [s.data.toList[k]'(by rw [size_data]; exact hlt)].map (Tw.wayLetter way)) = bytesOf ((s.data.toList.take k).map (Tw.wayLetter way)) ++ [.int .u8 (Tw.wayLetter way s[k]).toNat] from by unfold bytesOf; rw [List.map_append]; rfl]
          exact h2
        · exact (((hb.alloc hb.size _).drew).grown hgrow2 (by simp; omega) (fun j hj => by simp only [Value.ownBlock, Option.some.injEq] at hj; omega))
      case measure => simp [intOf]; omega
    · obtain rfl : k = s.size := by omega
      have hcv := conv_own hown
      go_wp2
      go_ret
      exact ⟨ret_str (by rw [inWay_yes HOK.out h0 h7, List.take_of_length_le (by simp)]), hb⟩

set_option maxHeartbeats 800000 in
theorem implInWay_no (s : ByteArray) (way : Int) (w : World) (hs : s.size ≤ 1048576) (hno : ¬ (Tw.walkOk s.data.toList = true ∧ 0 ≤ way ∧ way ≤ 7)) :
    Calls Tryz.prog 118 #[.string s, .int .i64 way] w fun e w' => e = .returned (.string (Tw.str (Tw.inWay s.data.toList way))) ∧ Below w.heap.size w w' := by
  have HNO := Lib.hid hno
  clear hno
  cases hok : Tw.walkOk s.data.toList
  · have HOK := Lib.hid hok
    clear hok
    go_enter Tryz.func118, Tryz.ntmps118
    go_wp2_with (first | (go_at_call 67; refine (implWalkOk_is _ _ hs false HOK.out).mono ?_; rintro e w' ⟨rfl, rfl⟩))
    go_ret
    exact ⟨ret_str (by rw [inWay_no HNO.out]; rfl), Below.refl _ _⟩
  · have HOK := Lib.hid hok
    clear hok
    have hout : way < 0 ∨ 8 ≤ way := by
      rcases Decidable.em (way < 0) with h0 | h0
      · exact .inl h0
      rcases Decidable.em (7 < way) with h7 | h7
      · exact .inr (by omega)
      exact absurd ⟨HOK.out, by omega, by omega⟩ HNO.out
    rcases hout with hout | hout
    all_goals
      go_enter Tryz.func118, Tryz.ntmps118
      go_wp2_with (first | (go_at_call 67; refine (implWalkOk_is _ _ hs true HOK.out).mono ?_; rintro e w' ⟨rfl, rfl⟩))
      go_ret
      exact ⟨ret_str (by rw [inWay_no HNO.out]; rfl), Below.refl _ _⟩

theorem implInWay (s : ByteArray) (way : Int) (w : World) (hs : s.size ≤ 1048576) (hw : WaysAt w) :
    Calls Tryz.prog 118 #[.string s, .int .i64 way] w fun e w' => e = .returned (.string (Tw.str (Tw.inWay s.data.toList way))) ∧ Below w.heap.size w w' := by
  by_cases h : Tw.walkOk s.data.toList = true ∧ 0 ≤ way ∧ way ≤ 7
  · exact implInWay_yes s way w hs hw h.1 h.2.1 h.2.2
  · exact implInWay_no s way w hs h

end Go.Proofs.YtccdfndnjjjgfaaGreatDoor
