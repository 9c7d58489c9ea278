/-
  Worlds that only gain memory; desks in boxes: what stays of them while other memory is written.
-/
import Derived.Test.YtccdfndnjjjgfaaGreatDoorBase
import Derived.Test.YtccdfndnjjjgfaaGreatDoorDeskDone
import Derived.Test.YtccdfndnjjjgfaaGreatDoorDeed
import Derived.Test.YtccdfndnjjjgfaaGreatDoorDeskImpl
import Derived.Test.YtccdfndnjjjgfaaGreatDoorCut
import Derived.Test.YtccdfndnjjjgfaaGreatDoorReadNum
import Derived.Test.YtccdfndnjjjgfaaGreatDoorDeedImpl
import Derived.Test.YtccdfndnjjjgfaaGreatDoorDeedSpec
import Derived.Test.YtccdfndnjjjgfaaGreatDoorDeeds
import Derived.Lib.IndexLaws
import Derived.Lib.IndexBytes
import Derived.Laws.AppendOwnNone

namespace Go.Proofs.YtccdfndnjjjgfaaGreatDoor
open Go.RowKit

def deskNew (s : ByteArray) : ByteArray := if Tw.walkOk s.data.toList then s else ByteArray.empty


set_option maxHeartbeats 400000 in
theorem specDeskNew (s : ByteArray) (w : World) (hs : s.size ≤ 1048576) :
    Calls Tryz.prog 81 #[.string s] w fun e w' => e = .returned (.tuple #[.agg #[.string (deskNew s), .slice none 0 0], .bool (Tw.walkOk s.data.toList)]) ∧ Below w.heap.size w w' := by
  unfold deskNew
  cases hok : Tw.walkOk s.data.toList
  all_goals
    have HOK := Lib.hid hok
    clear hok
    go_enter Tryz.func81, Tryz.ntmps81
    go_wp2_with (first | (go_at_call 65; refine (specWalkOk_is _ _ hs _ HOK.out).mono ?_; rintro e w' ⟨rfl, rfl⟩))
  · exact bodyPost_ret (v := .tuple #[.agg #[.string ByteArray.empty, .slice none 0 0], .bool false]) (by simp [results, Tryz.results81, go_sem]; rfl) rfl ⟨rfl, (Below.refl _ _).alloc (Nat.le_refl _) _⟩
  · exact bodyPost_ret (v := .tuple #[.agg #[.string s, .slice none 0 0], .bool true]) (by simp [results, Tryz.results81, go_sem]) rfl ⟨rfl, (Below.refl _ _).alloc (Nat.le_refl _) _⟩

set_option maxHeartbeats 400000 in
theorem eqStrings_nil (w : World) :
    Calls Tryz.prog 15 #[.slice none 0 0, .slice none 0 0] w fun e w' => e = .returned (.bool true) ∧ w = w' := by
  go_enter Tryz.func15, Tryz.ntmps15
  go_wp2
  refine wp_loop_rounds 1 ?_
  rw [rounds_succ]
  go_wp2
  go_ret
  exact ⟨rfl, rfl⟩

set_option maxHeartbeats 400000 in
theorem markStrings_nil (k : Int) (w : World) :
    Calls Tryz.prog 17 #[.slice none 0 0, .int .i64 k] w fun e w' => e = .returned (.int .i64 k) ∧ w = w' := by
  go_enter Tryz.func17, Tryz.ntmps17
  go_wp2
  refine wp_loop_rounds 1 ?_
  rw [rounds_succ]
  go_wp2
  go_ret
  exact ⟨rfl, rfl⟩

set_option maxHeartbeats 400000 in
theorem heldStrings_nil (k : Int) (w : World) :
    Calls Tryz.prog 19 #[.slice none 0 0, .int .i64 k] w fun e w' => e = .returned (.int .i64 k) ∧ w = w' := by
  go_enter Tryz.func19, Tryz.ntmps19
  go_wp2
  refine wp_loop_rounds 1 ?_
  rw [rounds_succ]
  go_wp2
  go_ret
  exact ⟨rfl, rfl⟩

set_option maxHeartbeats 400000 in
theorem eqDesk_nil (s : ByteArray) (w : World) :
    Calls Tryz.prog 14 #[.agg #[.string s, .slice none 0 0], .agg #[.string s, .slice none 0 0]] w fun e w' => e = .returned (.bool true) ∧ Below w.heap.size w w' := by
  go_enter Tryz.func14, Tryz.ntmps14
  go_wp2_with (first | (go_at_call 15; refine (eqStrings_nil _).mono ?_; rintro e w' ⟨rfl, rfl⟩))
  go_ret
  exact ⟨rfl, ((Below.refl _ _).alloc (Nat.le_refl _) _).alloc (by simp) _⟩

set_option maxHeartbeats 400000 in
theorem markDesk_nil (s : ByteArray) (k : Int) (w : World) :
    Calls Tryz.prog 16 #[.agg #[.string s, .slice none 0 0], .int .i64 k] w fun e w' => e = .returned (.int .i64 k) ∧ Below w.heap.size w w' := by
  go_enter Tryz.func16, Tryz.ntmps16
  go_wp2_with (first | (go_at_call 17; refine (markStrings_nil _ _).mono ?_; rintro e w' ⟨rfl, rfl⟩))
  go_ret
  exact ⟨rfl, (Below.refl _ _).alloc (Nat.le_refl _) _⟩

set_option maxHeartbeats 400000 in
theorem heldDesk_nil (s : ByteArray) (w : World) :
    Calls Tryz.prog 18 #[.agg #[.string s, .slice none 0 0], .int .i64 1] w fun e w' => e = .returned (.int .i64 1) ∧ Below w.heap.size w w' := by
  go_enter Tryz.func18, Tryz.ntmps18
  go_wp2_with (first | (go_at_call 19; refine (heldStrings_nil _ _).mono ?_; rintro e w' ⟨rfl, rfl⟩))
  go_ret
  exact ⟨rfl, (Below.refl _ _).alloc (Nat.le_refl _) _⟩

/-- A desk without walks of before lies in block g. -/
def DeskAt (w : World) (g : Nat) (s : ByteArray) : Prop := w.heap[g]? = some (.cells #[.string s, .slice none 0 0] 27 (0, 0))
theorem DeskAt.lt {w : World} {g : Nat} {s : ByteArray} (h : DeskAt w g s) : g < w.heap.size := World.block_lt_of_cell? w ⟨g, 0, none⟩ (by unfold DeskAt at h; simp [World.cell?, h]; rfl)
theorem DeskAt.below {w w' : World} {g : Nat} {s : ByteArray} (h : DeskAt w g s) (hb : Below w.heap.size w w') : DeskAt w' g s := (hb.block _ h.lt).trans h
theorem DeskAt.alloc {w : World} {g : Nat} {s : ByteArray} (h : DeskAt w g s) (o : Obj) : DeskAt (w.alloc o) g s := h.below ((Below.refl _ _).alloc (Nat.le_refl _) o)
theorem DeskAt.cells {w : World} {g : Nat} {s : ByteArray} (h : DeskAt w g s) : w.cell? ⟨g, 0, none⟩ = some (.string s) ∧ w.cell? ⟨g, 1, none⟩ = some (.slice none 0 0) := ⟨cell_of_row _ _ _ _ _ _ h, cell_of_row _ _ _ _ _ _ h⟩
theorem DeskAt.new (w : World) (s : ByteArray) : DeskAt (w.alloc (.cells #[.string s, .slice none 0 0] 27)) w.heap.size s := heap_alloc_new w _

end Go.Proofs.YtccdfndnjjjgfaaGreatDoor

namespace Go.Proofs.YtccdfndnjjjgfaaGreatDoor
open Go.RowKit

/-- The digits of a number ahead of a text. -/
def digs : Nat → Nat → List UInt8 → List UInt8
  | 0, _, o => o
  | f + 1, k, o => if k = 0 then o else digs f (k / 10) (UInt8.ofNat (48 + k % 10) :: o)
theorem digs_zero (f : Nat) (o : List UInt8) : digs f 0 o = o := by cases f <;> simp [digs]
theorem digs_step {f k : Nat} (hk : 0 < k) (hf : k ≤ f) (o : List UInt8) : ∃ g, k / 10 ≤ g ∧ digs f k o = digs g (k / 10) (UInt8.ofNat (48 + k % 10) :: o) := by
  obtain ⟨g, rfl⟩ : ∃ g, f = g + 1 := ⟨f - 1, by omega⟩
  exact ⟨g, by omega, by simp only [digs]; rw [if_neg (by omega)]⟩
/-- The mark of a number. -/
def markOf (k : Nat) : ByteArray := Tw.str (109 :: digs k k [])
def marksOf (k n : Nat) : List ByteArray := (List.range n).map fun i => markOf (k + i)
theorem marks_length (k n : Nat) : (marksOf k n).length = n := by simp [marksOf]
theorem marks_at {k n i : Nat} (h : i < n) : (marksOf k n)[i]? = some (markOf (k + i)) := by simp [marksOf, h]
theorem marks_zero (k : Nat) : marksOf k 0 = [] := rfl
theorem marks_succ (k n : Nat) : marksOf k (n + 1) = marksOf k n ++ [markOf (k + n)] := by unfold marksOf; rw [List.range_succ, List.map_append]; rfl
/-- All that is no part of a slice's own block lies as it lay. -/
structure But (v : Value) (w w' : World) : Prop where
  os : w'.os = w.os
  tape : w'.tape = w.tape
  output : w'.output = w.output
  size : w.heap.size ≤ w'.heap.size
  block : ∀ k, k < w.heap.size → v.ownBlock ≠ some k → w'.heap[k]? = w.heap[k]?
theorem But.refl (v : Value) (w : World) : But v w w := ⟨rfl, rfl, rfl, Nat.le_refl _, fun _ _ _ => rfl⟩
theorem But.trans {v : Value} {a b c : World} (h : But v a b) (k : But v b c) : But v a c :=
  ⟨k.os.trans h.os, k.tape.trans h.tape, k.output.trans h.output, Nat.le_trans h.size k.size, fun i hi hn => (k.block i (Nat.lt_of_lt_of_le hi h.size) hn).trans (h.block i hi hn)⟩
theorem But.of {v : Value} {w w' : World} (h : Below w.heap.size w w') : But v w w' := ⟨h.os, h.tape, h.output, h.size, fun k hk _ => h.block k hk⟩
theorem But.setCell {v : Value} (w : World) {a : Addr} (h : v.ownBlock = some a.block) (u : Value) : But v w (w.setCell a u) :=
  ⟨rfl, rfl, rfl, by simp, fun k _ hk => heap_setCell_other w a k _ (fun e => hk (by rw [h, e]))⟩
theorem But.below {v : Value} {w w' : World} {B : Nat} (h : But v w w') (hv : Fresh B v) (hB : B ≤ w.heap.size) : Below B w w' :=
  ⟨h.os, h.tape, h.output, h.size, fun k hk => h.block k (by omega) (fun e => by have := hv k e; omega)⟩
theorem But.past {v u : Value} {w w' : World} {ys : List ByteArray} (h : But v w w') (hp : PastAt w u ys) (hne : ∀ b, v.ownBlock = some b → u.ownBlock ≠ some b) : PastAt w' u ys := by
  rcases hp with hp | ⟨g, off, cap, cur, rfl, hl, hg, hc, hz⟩
  · exact .inl hp
  · exact .inr ⟨g, off, cap, cur, rfl, hl, (h.block g (lt_at hg) (fun e => hne g e rfl)).trans hg, hc, hz⟩
theorem But.strs {v u : Value} {w w' : World} {ys : List ByteArray} (h : But v w w') (hp : StrsAt w u ys) (hlt : ∀ b, v.ownBlock = some b → u.ownBlock ≠ some b) : StrsAt w' u ys := by
  rcases hp with hp | ⟨a, cap, rfl, hl, hc⟩
  · exact .inl hp
  · refine .inr ⟨a, cap, rfl, hl, fun j z hz => ?_⟩
    have h1 := hc j z hz
    have hb := World.block_lt_of_cell? w _ h1
    rw [add_block] at hb
    rw [← h1]
    refine World.cell?_of_block (h.block _ (by rw [add_block]; exact hb) (fun e => ?_))
    rw [add_block] at e
    exact hlt _ e rfl

theorem add_plain (g off j : Nat) : (⟨g, off, none⟩ : Addr).add j = ⟨g, off + j, none⟩ := by unfold Addr.add; split <;> simp_all
/-- One text of a row is put in. -/
theorem past_set {w : World} {a : Addr} {n cap j : Nat} {zs : List ByteArray} (h : PastAt w (.slice (some a) n cap) zs) (hj : j < n) (z : ByteArray) : PastAt (w.setCell (a.add j) (.string z)) (.slice (some a) n cap) (zs.set j z) := by
  rcases h with ⟨h, _⟩ | ⟨g, off, cap', cur, he, hl, hg, hc, hz⟩
  · cases h
  · simp only [Value.slice.injEq, Option.some.injEq] at he
    obtain ⟨rfl, rfl, rfl⟩ := he
    have e := add_plain g off j
    rw [e]
    refine .inr ⟨g, off, cap, cur.set! (off + j) (.string z), by rw [List.length_set], by rw [List.length_set]; exact hl, ?_, by simpa using hc, fun i y hi => ?_⟩
    · simp [World.setCell, Array.getElem?_modify, hg]
    · rw [List.getElem?_set] at hi
      rw [Array.set!_eq_setIfInBounds, Array.getElem?_setIfInBounds]
      split at hi
      · rename_i hij
        subst hij
        rw [if_pos rfl, if_pos (by omega)]
        exact congrArg some (congrArg Value.string (Option.some.inj hi))
      · rename_i hij
        rw [if_neg (by omega)]
        exact hz i y hi
theorem past_cell {w : World} {a : Addr} {n cap j : Nat} {zs : List ByteArray} (h : PastAt w (.slice (some a) n cap) zs) (hj : j < n) (hn : zs.length = n) : ∃ z, zs[j]? = some z ∧ w.cell? (a.add j) = some (.string z) ∧ w.frozen? (a.add j) = false := by
  rcases h with ⟨h, _⟩ | ⟨g, off, cap', cur, he, hl, hg, hc, hz⟩
  · cases h
  · simp only [Value.slice.injEq, Option.some.injEq] at he
    obtain ⟨rfl, _, _⟩ := he
    have e := add_plain g off j
    refine ⟨zs[j]'(by omega), List.getElem?_eq_getElem _, ?_, ?_⟩
    · rw [e]
      exact (cell_of_row _ _ _ _ _ _ hg).trans (hz j _ (List.getElem?_eq_getElem _))
    · rw [e]
      exact frozen_of_row _ _ _ _ _ hg
theorem set_take {zs : List ByteArray} {k j : Nat} (h : zs.take j = marksOf k j) (hj : j < zs.length) : (zs.set j (markOf (k + j))).take (j + 1) = marksOf k (j + 1) := by
  rw [marks_succ, List.take_add_one, List.take_set_of_le (Nat.le_refl _), h, List.getElem?_set, if_pos rfl, if_pos hj]
  rfl

set_option maxRecDepth 100000 in
set_option maxHeartbeats 800000 in
theorem markText_any (k : Nat) (hk : 0 < k) (hk2 : k ≤ 4194304) (w : World) :
    Calls Tryz.prog 40 #[.int .i64 k] w fun e w' => e = .returned (.string (markOf k)) ∧ Below w.heap.size w w' := by
  have hpos : ¬ (k : Int) ≤ 0 := by omega
  go_enter Tryz.func40, Tryz.ntmps40
  go_wp2
  go_loopw [0, 3] (fun a o wr => ∃ (j f : Nat) (x : ByteArray), a = .int .i64 j ∧ o = .string x ∧ j ≤ f ∧ x.size + j ≤ k ∧ Hid (digs f j x.data.toList = digs k k []) ∧ Below w.heap.size w wr) (fun a _ _ => (intOf a).toNat)
  case atStart => exact ⟨k, k, _, rfl, rfl, Nat.le_refl _, (by show 0 + k ≤ k; omega), rfl, Below.refl _ _⟩
  case round =>
    obtain ⟨j, f, x, rfl, rfl, hjf, hx, HD, hb⟩ := hrel
    by_cases hj : 0 < j
    · obtain ⟨g, hg, hstep⟩ := digs_step hj hjf x.data.toList
      have hm : j % 10 < 10 := by omega
      have hd : j / 10 < j := by omega
      obtain ⟨p, hp⟩ : ∃ p, j / 10 = p := ⟨_, rfl⟩
      obtain ⟨q, hq⟩ : ∃ q, j % 10 = q := ⟨_, rfl⟩
      rw [hp, hq] at hstep
      rw [hp] at hg hd
      rw [hq] at hm
      have eq5 : (j : Int) / 10 = (p : Int) := by omega
      have eq6 : (j : Int) % 10 = (q : Int) := by omega
      obtain ⟨xq, hxq⟩ : ∃ x, Tw.str [UInt8.ofNat (48 + q)] = x := ⟨_, rfl⟩
      have hsq : xq.size = 1 := by rw [← hxq]; rfl
      have hcv : (convert 36 9 (.slice (some ⟨wr.heap.size, 0, none⟩) 1 1)).run Tryz.prog (wr.alloc (.cells #[.int .u8 (48 + (q : Int))] 5)) = .ok (.string xq) (wr.alloc (.cells #[.int .u8 (48 + (q : Int))] 5)) := hxq ▸ conv_digit hm wr
      have HS := Lib.hid hstep
      have HX := Lib.hid hxq
      clear hstep hxq hp hq
      go_wp2
      go_roundw
      case rel =>
        refine ⟨p, g, _, rfl, rfl, hg, by rw [ByteArray.size_append]; omega, ?_, hb.alloc hb.size _⟩
        have e : (xq ++ x).data.toList = UInt8.ofNat (48 + q) :: x.data.toList := by rw [ByteArray.data_append, Array.toList_append, ← HX.out]; rfl
        show _ = _
        rw [e, ← HS.out]
        exact HD.out
      case measure => simp [intOf]; omega
    · obtain rfl : j = 0 := by omega
      go_wp2
      go_ret
      refine ⟨ret_str ?_, hb⟩
      unfold markOf
      rw [← HD.out, digs_zero]
      exact (congrArg (Tw.str [109] ++ ·) (Tw.str_of x)).symm.trans (Tw.str_append [109] x.data.toList)
theorem markText_plus (k j : Nat) (hk : 0 < k) (hk2 : k + j ≤ 4194304) (w : World) :
    Calls Tryz.prog 40 #[.int .i64 ((k : Int) + (j : Int))] w fun e w' => e = .returned (.string (markOf (k + j))) ∧ Below w.heap.size w w' := by
  have := markText_any (k + j) (by omega) hk2 w
  rwa [Int.natCast_add] at this

set_option maxRecDepth 100000 in
set_option maxHeartbeats 800000 in
theorem markStrings_any (v : Value) (zs : List ByteArray) (k : Nat) (w : World) (h : PastAt w v zs) (hn : zs.length ≤ 1048577) (hk : 0 < k) (hk2 : k ≤ 1048577) :
    Calls Tryz.prog 17 #[v, .int .i64 k] w fun e w' => e = .returned (.int .i64 ((k : Int) + zs.length)) ∧ PastAt w' v (marksOf k zs.length) ∧ But v w w' := by
  obtain ⟨n, hnn⟩ : ∃ n, zs.length = n := ⟨_, rfl⟩
  have h' := h
  rcases h with ⟨rfl, rfl⟩ | ⟨g, off, cap, cur, rfl, hl, hg, hc, hz⟩
  · refine (markStrings_nil k w).mono ?_
    rintro e w' ⟨rfl, rfl⟩
    exact ⟨ret_int (by simp), .inl ⟨rfl, rfl⟩, But.refl _ _⟩
  · rw [hnn] at hn hl h' ⊢
    clear hg hc hz cur
    obtain ⟨a, ha⟩ : ∃ a : Addr, (⟨g, off, none⟩ : Addr) = a := ⟨_, rfl⟩
    rw [ha] at h' ⊢
    have HN := Lib.hid hnn
    have HP0 := Lib.hid h'
    clear ha hnn h'
    go_enter Tryz.func17, Tryz.ntmps17
    go_wp2
    go_loopw [1, 5] (fun c i wr => ∃ (j : Nat) (ys : List ByteArray), j ≤ n ∧ i = .int .i64 j ∧ c = .int .i64 ((k : Int) + j) ∧ Hid (PastAt wr (.slice (some a) n cap) ys) ∧ Hid (ys.length = n) ∧ Hid (ys.take j = marksOf k j) ∧ Hid (But (.slice (some a) n cap) w wr)) (fun _ i _ => n - (intOf i).toNat)
    case atStart => exact ⟨0, zs, Nat.zero_le _, rfl, by go_num, HP0.out, HN.out, rfl, But.refl _ _⟩
    case round =>
      obtain ⟨j, ys, hj, rfl, rfl, HP, HL, HT, HB⟩ := hrel
      by_cases hlt : j < n
      · have hk3 : (0 : Int) ≤ (j : Int) := by omega
        have hk4 : (j : Int) < (n : Int) := by omega
        obtain ⟨x, hx⟩ : ∃ x, markOf (k + j) = x := ⟨_, rfl⟩
        have hct : Hid (∀ W : World, Calls Tryz.prog 40 #[.int .i64 ((k : Int) + (j : Int))] W fun e w' => e = .returned (.string x) ∧ Below W.heap.size W w') := fun W => hx ▸ markText_plus k j hk (by omega) W
        have HX := Lib.hid hx
        clear hx
        go_wp2_with (first
          | (go_at_call 40; refine (hct.out _).mono ?_; rintro e w1 ⟨rfl, hb1⟩; have hp1 := HP.out.below hb1; obtain ⟨z, _, c0, f0⟩ := past_cell hp1 hlt HL.out; have HP1 := Lib.hid hp1; clear hp1))
        go_roundw
        case rel =>
          refine ⟨j + 1, ys.set j x, by omega, by go_num, by go_num, past_set HP1.out hlt x, ?_, ?_, ?_⟩
          · show _ = _
            rw [List.length_set]
            exact HL.out
          · show _ = _
            rw [← HX.out]
            exact set_take HT.out (by rw [HL.out]; exact hlt)
          · exact (HB.out.trans (But.of hb1)).trans (But.setCell _ (by rw [add_block]; rfl) _)
        case measure => simp [intOf]; omega
      · obtain rfl : j = n := by omega
        go_wp2_with fail
        go_ret
        have e := HT.out
        rw [List.take_of_length_le (by rw [HL.out]; exact Nat.le_refl _)] at e
        exact ⟨ret_int (by omega), e ▸ HP.out, HB.out⟩

set_option maxRecDepth 100000 in
set_option maxHeartbeats 800000 in
theorem heldStrings_any (v : Value) (n : Nat) (k : Nat) (w : World) (h : PastAt w v (marksOf k n)) (hn : n ≤ 1048577) (hk : 0 < k) (hk2 : k ≤ 1048577) :
    Calls Tryz.prog 19 #[v, .int .i64 k] w fun e w' => e = .returned (.int .i64 ((k : Int) + n)) ∧ Below w.heap.size w w' := by
  have h' := h
  rcases h with ⟨rfl, h0⟩ | ⟨g, off, cap, cur, rfl, hl, hg, hc, hz⟩
  · have e : n = 0 := by have := marks_length k n; rw [h0] at this; exact this.symm
    subst e
    refine (heldStrings_nil k w).mono ?_
    rintro e w' ⟨rfl, rfl⟩
    exact ⟨ret_int (by simp), Below.refl _ _⟩
  · rw [marks_length] at hl h' ⊢
    clear hg hc hz cur
    obtain ⟨a, ha⟩ : ∃ a : Addr, (⟨g, off, none⟩ : Addr) = a := ⟨_, rfl⟩
    rw [ha] at h' ⊢
    have HP0 := Lib.hid h'
    clear ha h'
    go_enter Tryz.func19, Tryz.ntmps19
    go_wp2
    go_loopw [1, 5] (fun c i wr => ∃ j : Nat, j ≤ n ∧ i = .int .i64 j ∧ c = .int .i64 ((k : Int) + j) ∧ Below w.heap.size w wr) (fun _ i _ => n - (intOf i).toNat)
    case atStart => exact ⟨0, Nat.zero_le _, rfl, by go_num, Below.refl _ _⟩
    case round =>
      obtain ⟨j, hj, rfl, rfl, hb⟩ := hrel
      by_cases hlt : j < n
      · have hk3 : (0 : Int) ≤ (j : Int) := by omega
        have hk4 : (j : Int) < (n : Int) := by omega
        obtain ⟨x, hx⟩ : ∃ x, markOf (k + j) = x := ⟨_, rfl⟩
        have hct : Hid (∀ W : World, Calls Tryz.prog 40 #[.int .i64 ((k : Int) + (j : Int))] W fun e w' => e = .returned (.string x) ∧ Below W.heap.size W w') := fun W => hx ▸ markText_plus k j hk (by omega) W
        obtain ⟨z, hz, c0, _⟩ := past_cell (HP0.out.below hb) hlt (marks_length k n)
        have e : z = x := by rw [marks_at hlt, hx] at hz; exact (Option.some.inj hz).symm
        subst e
        clear hx hz
        go_wp2_with fail
        go_region_held3 (fun w' => w'.cell? (a.add j) = some (.string z))
          (first | exact c0 | exact cell_keep hb1 c0)
          (first | (go_at_call 40; refine (hct.out _).mono ?_; rintro e w1 ⟨rfl, hb1⟩))
        go_wp2
        go_roundw
        case rel => exact ⟨j + 1, by omega, by go_num, by go_num, hb.drew.trans (hb1.mono hb.size)⟩
        case measure => simp [intOf]; omega
      · obtain rfl : j = n := by omega
        go_wp2_with fail
        go_ret
        exact ⟨rfl, hb⟩

set_option maxHeartbeats 800000 in
theorem markDesk_any (s : ByteArray) (v : Value) (zs : List ByteArray) (k : Nat) (w : World) (h : PastAt w v zs) (hn : zs.length ≤ 1048577) (hk : 0 < k) (hk2 : k ≤ 1048577) :
    Calls Tryz.prog 16 #[.agg #[.string s, v], .int .i64 k] w fun e w' => e = .returned (.int .i64 ((k : Int) + zs.length)) ∧ PastAt w' v (marksOf k zs.length) ∧ But v w w' := by
  have hb : ∀ o, Below w.heap.size w (w.alloc o) := fun o => (Below.refl _ _).alloc (Nat.le_refl _) o
  have hct : Hid (∀ o, Calls Tryz.prog 17 #[v, .int .i64 k] (w.alloc o) fun e w' => e = .returned (.int .i64 ((k : Int) + zs.length)) ∧ PastAt w' v (marksOf k zs.length) ∧ But v (w.alloc o) w') := fun o => markStrings_any v zs k (w.alloc o) (h.below (hb o)) hn hk hk2
  have HB := Lib.hid hb
  clear hb h
  obtain ⟨r, hr⟩ : ∃ r : Int, (k : Int) + zs.length = r := ⟨_, rfl⟩
  rw [hr] at hct ⊢
  clear hr
  go_enter Tryz.func16, Tryz.ntmps16
  go_wp2_with (first
    | (go_at_call 17; refine (hct.out _).mono ?_; rintro e w1 ⟨rfl, hp1, hb1⟩))
  go_ret
  exact ⟨rfl, hp1, (But.of (HB.out _)).trans hb1⟩

set_option maxHeartbeats 800000 in
theorem heldDesk_any (s : ByteArray) (v : Value) (n : Nat) (k : Nat) (w : World) (h : PastAt w v (marksOf k n)) (hn : n ≤ 1048577) (hk : 0 < k) (hk2 : k ≤ 1048577) :
    Calls Tryz.prog 18 #[.agg #[.string s, v], .int .i64 k] w fun e w' => e = .returned (.int .i64 ((k : Int) + n)) ∧ Below w.heap.size w w' := by
  have hb : ∀ o, Below w.heap.size w (w.alloc o) := fun o => (Below.refl _ _).alloc (Nat.le_refl _) o
  have hct : Hid (∀ o, Calls Tryz.prog 19 #[v, .int .i64 k] (w.alloc o) fun e w' => e = .returned (.int .i64 ((k : Int) + n)) ∧ Below (w.alloc o).heap.size (w.alloc o) w') := fun o => heldStrings_any v n k (w.alloc o) (h.below (hb o)) hn hk hk2
  have HB := Lib.hid hb
  clear hb h
  obtain ⟨r, hr⟩ : ∃ r : Int, (k : Int) + n = r := ⟨_, rfl⟩
  rw [hr] at hct ⊢
  have hr0 : 0 ≤ r := by omega
  clear hr
  go_enter Tryz.func18, Tryz.ntmps18
  go_wp2_with (first
    | (go_at_call 19; refine (hct.out _).mono ?_; rintro e w1 ⟨rfl, hb1⟩))
  go_ret
  exact ⟨rfl, (HB.out _).trans (hb1.mono (by simp))⟩

end Go.Proofs.YtccdfndnjjjgfaaGreatDoor

namespace Go.Proofs.YtccdfndnjjjgfaaGreatDoor
open Go.RowKit

/-- All that was there is there. -/
def Ext (a X : World) : Prop := Below a.heap.size a X
theorem Ext.refl (a : World) : Ext a a := Below.refl _ _
theorem Ext.drew {a X : World} (h : Ext a X) : Ext a X.drew := Below.drew h
theorem Ext.size {a X : World} (h : Ext a X) : a.heap.size ≤ X.heap.size := Below.size h
theorem Ext.alloc {a X : World} (h : Ext a X) (o : Obj) : Ext a (X.alloc o) := Below.alloc h (Ext.size h) o
theorem Ext.call {a X Y : World} (h : Ext a X) (hb : Below X.heap.size X Y) : Ext a Y := Below.trans h (hb.mono (Ext.size h))
theorem Ext.trans {a X Y : World} (h : Ext a X) (k : Ext X Y) : Ext a Y := Ext.call h k
theorem Ext.setCell {a X : World} (h : Ext a X) {p : Addr} (hp : a.heap.size ≤ p.block) (u : Value) : Ext a (X.setCell p u) := Below.setCell h hp u
theorem Ext.below {a X w : World} {B : Nat} (hb : Below B w a) (h : Ext a X) (hB : B ≤ a.heap.size) : Below B w X := hb.trans (Below.mono h hB)
theorem Ext.row {a X : World} (h : Ext a X) {b : Nat} {o : Obj} (hr : a.heap[b]? = some o) : X.heap[b]? = some o := (Below.block h b (lt_at hr)).trans hr
theorem Ext.strs {a X : World} (h : Ext a X) {v : Value} {zs : List ByteArray} (k : StrsAt a v zs) : StrsAt X v zs := k.below' h
theorem Ext.past {a X : World} (h : Ext a X) {v : Value} {zs : List ByteArray} (k : PastAt a v zs) : PastAt X v zs := k.below h
theorem box_keep {Y W : World} {o : Array Value} {t : TypeId} (h : Below (Y.alloc (.cells o t)).heap.size (Y.alloc (.cells o t)) W) : W.heap[Y.heap.size]? = some (.cells o t (0, 0)) := Ext.row h (heap_alloc_new Y _)
theorem box_keep_drew {Y W : World} {o : Array Value} {t : TypeId} (h : Below (Y.alloc (.cells o t)).drew.heap.size (Y.alloc (.cells o t)).drew W) : W.heap[Y.heap.size]? = some (.cells o t (0, 0)) := Ext.row h (heap_alloc_new Y _)

theorem heap_alloc_new' (Y : World) (o : Obj) : (Y.alloc o).heap[Y.heap.size]? = some o := by
  show (Y.heap.push o)[Y.heap.size]? = _
  simp
theorem fresh_ext {a X : World} {v : Value} (h : Ext a X) (hf : Fresh X.heap.size v) : Fresh a.heap.size v := fun b hb => Nat.le_trans (Ext.size h) (hf b hb)
theorem fresh_ne {X : World} {v : Value} {N : Nat} {o : Obj} (hf : Fresh X.heap.size v) (hN : X.heap[N]? = some o) : v.ownBlock ≠ some N := fun e => by
  have := hf N e
  have := lt_at hN
  omega
theorem box_ne {Y : World} {v : Value} {o : Obj} (hf : Fresh (Y.alloc o).heap.size v) : v.ownBlock ≠ some Y.heap.size := fresh_ne hf (heap_alloc_new' Y o)
theorem box_ne_drew {Y : World} {v : Value} {o : Obj} (hf : Fresh (Y.alloc o).drew.heap.size v) : v.ownBlock ≠ some Y.heap.size := fresh_ne hf (heap_alloc_new' Y o)
theorem past_lt {w : World} {v : Value} {ys : List ByteArray} (h : PastAt w v ys) {b : Nat} (hb : v.ownBlock = some b) : b < w.heap.size := by
  rcases h with ⟨rfl, _⟩ | ⟨g, off, cap, cur, rfl, _, hg, _⟩
  · cases hb
  · obtain rfl : g = b := Option.some.inj hb
    exact lt_at hg
theorem past_belowB {w w' : World} {v : Value} {ys : List ByteArray} {B : Nat} (h : PastAt w v ys) (hv : ∀ b, v.ownBlock = some b → b < B) (hb : Below B w w') : PastAt w' v ys := by
  rcases h with h | ⟨g, off, cap, cur, rfl, hl, hg, hc, hz⟩
  · exact .inl h
  · exact .inr ⟨g, off, cap, cur, rfl, hl, (hb.block _ (hv g rfl)).trans hg, hc, hz⟩

theorem Ext.but {a X Y : World} {v : Value} {B : Nat} (h : Ext a X) (k : But v X Y) (hf : Fresh B v) (hB : a.heap.size ≤ B) : Ext a Y := Below.trans h (k.below (fun b hb => Nat.le_trans hB (hf b hb)) (Ext.size h))
theorem past_slice {w : World} {v : Value} {ys : List ByteArray} (h : PastAt w v ys) {M : Nat} (hM : ys.length = M) : ∃ a c, v = .slice a M c := hM ▸ past_value h
/-- A desk in a box, all of it below B and, from A on, in memory of its own. -/
structure BoxB (A B : Nat) (W : World) (N : Nat) (x : ByteArray) (v : Value) (ys : List ByteArray) : Prop where
  row : W.heap[N]? = some (.cells #[.string x, v] 27 (0, 0))
  past : PastAt W v ys
  ne : v.ownBlock ≠ some N
  ge : A ≤ N
  fresh : Fresh A v
  lt : N < B
  vlt : ∀ b, v.ownBlock = some b → b < B
theorem BoxB.cells {A B : Nat} {W : World} {N : Nat} {x : ByteArray} {v : Value} {ys : List ByteArray} (h : BoxB A B W N x v ys) : W.cell? ⟨N, 0, none⟩ = some (.string x) ∧ W.cell? ⟨N, 1, none⟩ = some v := ⟨cell_of_row _ _ 0 _ _ _ h.row, cell_of_row _ _ 1 _ _ _ h.row⟩
theorem BoxB.ext {A B : Nat} {W X : World} {N : Nat} {x : ByteArray} {v : Value} {ys : List ByteArray} (h : BoxB A B W N x v ys) (k : Ext W X) : BoxB A B X N x v ys := ⟨k.row h.row, k.past h.past, h.ne, h.ge, h.fresh, h.lt, h.vlt⟩
theorem BoxB.below {A B C : Nat} {W X : World} {N : Nat} {x : ByteArray} {v : Value} {ys : List ByteArray} (h : BoxB A B W N x v ys) (k : Below C W X) (hC : B ≤ C) : BoxB A B X N x v ys :=
  ⟨(k.block N (by have := h.lt; omega)).trans h.row, past_belowB h.past h.vlt (k.mono hC), h.ne, h.ge, h.fresh, h.lt, h.vlt⟩
/-- Another slice's own block is written: a desk that lies elsewhere stays. -/
theorem BoxB.but {A B : Nat} {W X : World} {N : Nat} {x : ByteArray} {v u : Value} {ys : List ByteArray} (h : BoxB A B W N x v ys) (k : But u W X) (hu : ∀ b, u.ownBlock = some b → b < A) : BoxB A B X N x v ys :=
  ⟨(k.block N (lt_at h.row) (fun e => by have := hu N e; have := h.ge; omega)).trans h.row, k.past h.past (fun b hb e => by have := hu b hb; have := h.fresh b e; omega), h.ne, h.ge, h.fresh, h.lt, h.vlt⟩
/-- Its own slice is written. -/
theorem BoxB.own {A B : Nat} {W X : World} {N : Nat} {x : ByteArray} {v : Value} {ys zs : List ByteArray} (h : BoxB A B W N x v ys) (k : But v W X) (hp : PastAt X v zs) : BoxB A B X N x v zs :=
  ⟨(k.block N (lt_at h.row) h.ne).trans h.row, hp, h.ne, h.ge, h.fresh, h.lt, h.vlt⟩
theorem box_new {A : Nat} {X : World} {x : ByteArray} {v : Value} {ys : List ByteArray} (hp : PastAt X v ys) (hf : Fresh A v) (hA : A ≤ X.heap.size) : BoxB A (X.alloc (.cells #[.string x, v] 27)).heap.size (X.alloc (.cells #[.string x, v] 27)) X.heap.size x v ys :=
  ⟨heap_alloc_new X _, ((Ext.refl X).alloc _).past hp, fun e => by have := past_lt hp e; omega, hA, hf, by simp, fun b hb => by have := past_lt hp hb; simp; omega⟩
theorem box_set {A N : Nat} {X : World} {x : ByteArray} {v a b : Value} {ys : List ByteArray} (hN : X.heap[N]? = some (.cells #[a, b] 27 (0, 0))) (hp : PastAt X v ys) (hf : Fresh A v) (hne : v.ownBlock ≠ some N) (hA : A ≤ N) :
    BoxB A ((X.setCell ⟨N, 0, none⟩ (.string x)).setCell ⟨N, 1, none⟩ v).heap.size ((X.setCell ⟨N, 0, none⟩ (.string x)).setCell ⟨N, 1, none⟩ v) N x v ys :=
  ⟨pair_put hN _ _, past_put (past_put hp _ _ hne) _ _ hne, hne, hA, hf, by simpa [World.setCell] using lt_at hN, fun c hc => by simpa [World.setCell] using past_lt hp hc⟩

theorem toDesk_past (s : ByteArray) (v : Value) (zs : List ByteArray) (w : World) (h : StrsAt w v zs) (L : Nat) (hL : zs.length = L) (hn : L ≤ 1048576) :
    Calls Tryz.prog 11 #[.agg #[.string s, v]] w fun e w' => ∃ g, e = .returned (.agg #[.string s, .slice (some ⟨g, 0, none⟩) L L]) ∧ PastAt w' (.slice (some ⟨g, 0, none⟩) L L) zs ∧ w.heap.size ≤ g ∧ Below w.heap.size w w' := by
  subst hL
  refine (toDesk_any s v zs w h hn).mono ?_
  rintro e w' ⟨g, rfl, hown, hb⟩
  exact ⟨g, rfl, past_own hown, (hown.lt g rfl).1, hb⟩

theorem markDesk_one (s : ByteArray) (v : Value) (zs : List ByteArray) (w : World) (h : PastAt w v zs) (L : Nat) (hL : zs.length = L) (hn : L ≤ 1048577) :
    Calls Tryz.prog 16 #[.agg #[.string s, v], .int .i64 1] w fun e w' => e = .returned (.int .i64 (1 + (L : Int))) ∧ PastAt w' v (marksOf 1 L) ∧ But v w w' := by
  subst hL
  exact markDesk_any s v zs 1 w h hn (by omega) (by omega)
theorem heldDesk_one (s : ByteArray) (v : Value) (n : Nat) (w : World) (h : PastAt w v (marksOf 1 n)) (hn : n ≤ 1048577) :
    Calls Tryz.prog 18 #[.agg #[.string s, v], .int .i64 1] w fun e w' => e = .returned (.int .i64 (1 + (n : Int))) ∧ Below w.heap.size w w' := heldDesk_any s v n 1 w h hn (by omega) (by omega)

end Go.Proofs.YtccdfndnjjjgfaaGreatDoor

namespace Go.Proofs.YtccdfndnjjjgfaaGreatDoor
open Go.RowKit

/-- A text cut at a byte, once. -/
def Cutting (c : UInt8) (s a b : List UInt8) (f : Bool) : Prop := (f = true ∧ s = a ++ c :: b ∧ c ∉ a) ∨ (f = false ∧ a = s ∧ c ∉ s ∧ b = [])
theorem cutting (c : UInt8) (s : List UInt8) : Cutting c s (Lib.cut s [c]).1 (Lib.cut s [c]).2.1 (Lib.cut s [c]).2.2 := by
  unfold Lib.cut
  rw [Lib.index_one]
  split
  · rename_i h
    obtain ⟨o, ho⟩ : ∃ o : Nat, Lib.indexByte s c = o := ⟨(Lib.indexByte s c).toNat, by omega⟩
    obtain ⟨h1, h2⟩ := Lib.indexByte_some ho
    have hlt := (List.getElem?_eq_some_iff.1 h1).1
    refine .inl ⟨rfl, ?_, ?_⟩
    · rw [ho]
      show s = s.take o ++ c :: s.drop (o + 1)
      have e : s[o] = c := (List.getElem?_eq_some_iff.1 h1).2
      rw [← e, ← List.drop_eq_getElem_cons hlt, List.take_append_drop]
    · rw [ho]
      intro hm
      obtain ⟨k, hk, e⟩ := List.getElem_of_mem hm
      have hk2 : k < o := by rw [List.length_take] at hk; simp at hk; omega
      refine h2 k hk2 ?_
      rw [List.getElem?_eq_getElem (by omega)]
      rw [List.getElem_take] at e
      rw [e]
  · rename_i h
    have hge := Lib.index_ge s [c]
    rw [Lib.index_one] at hge
    refine .inr ⟨rfl, rfl, fun hm => ?_, rfl⟩
    obtain ⟨k, hk, e⟩ := List.getElem_of_mem hm
    exact Lib.indexByte_none (l := s) (c := c) (by omega) k (by rw [List.getElem?_eq_getElem hk, e])
theorem cut_same {c : UInt8} : ∀ {a b a' b' : List UInt8}, a ++ c :: b = a' ++ c :: b' → c ∉ a → c ∉ a' → a = a' ∧ b = b'
  | [], _, [], _, h, _, _ => by simpa using h
  | [], _, x :: a', _, h, _, h2 => by
    simp at h
    exact absurd (by rw [h.1]; exact List.mem_cons_self) h2
  | x :: a, _, [], _, h, h1, _ => by
    simp at h
    exact absurd (by rw [h.1]; exact List.mem_cons_self) h1
  | x :: a, b, y :: a', b', h, h1, h2 => by
    simp only [List.cons_append, List.cons.injEq] at h
    have := cut_same h.2 (fun e => h1 (List.mem_cons_of_mem _ e)) (fun e => h2 (List.mem_cons_of_mem _ e))
    exact ⟨by rw [h.1, this.1], this.2⟩
theorem word_clean {k : Nat} (hk : k < 6) : (32 : UInt8) ∉ deedWord k ∧ deedWord k ≠ [] := by
  obtain rfl | rfl | rfl | rfl | rfl | rfl : k = 0 ∨ k = 1 ∨ k = 2 ∨ k = 3 ∨ k = 4 ∨ k = 5 := by omega
  all_goals decide
theorem told_kind {k n : Int} (h : told k n) : 0 ≤ k ∧ k < 6 := by unfold told at h; omega
def numbered (k : Nat) : Bool := k == 0 || k == 2 || k == 3
theorem numbered_iff {k : Int} (h0 : 0 ≤ k) : numbered k.toNat = true ↔ (k = 0 ∨ k = 2 ∨ k = 3) := by
  unfold numbered
  simp
  omega
/-- Of a text that is a deed's text: how it is cut. -/
theorem text_cut {s a b : List UInt8} {f : Bool} (h : Cutting 32 s a b f) {k n : Int} (h0 : s ≠ []) (ht : deedText k n = s) :
    0 ≤ k ∧ k < 6 ∧ a = deedWord k.toNat ∧ f = numbered k.toNat ∧ (f = true → 0 ≤ n ∧ n ≤ 99 ∧ b = Lib.decDigits n.toNat) ∧ (f = false → n = 0) := by
  have t := told_of (ht ▸ h0)
  obtain ⟨hk0, hk6⟩ := told_kind t
  have hw := word_clean (k := k.toNat) (by omega)
  rw [text_told t] at ht
  refine ⟨hk0, hk6, ?_⟩
  split at ht
  · rename_i hk
    have hn : 0 ≤ n ∧ n ≤ 99 := by unfold told at t; omega
    rcases h with ⟨rfl, hs, ha⟩ | ⟨rfl, rfl, hs, _⟩
    · obtain ⟨e1, e2⟩ := cut_same (ht.trans hs) hw.1 ha
      exact ⟨e1.symm, ((numbered_iff hk0).2 hk).symm, fun _ => ⟨hn.1, hn.2, e2.symm⟩, fun h => by cases h⟩
    · exact absurd (by rw [← ht]; simp) hs
  · rename_i hk
    have hn : n = 0 := by unfold told at t; omega
    have hf : numbered k.toNat = false := by rw [Bool.eq_false_iff]; exact fun h => hk ((numbered_iff hk0).1 h)
    rcases h with ⟨rfl, hs, ha⟩ | ⟨rfl, rfl, hs, _⟩
    · exact absurd (by rw [ht, hs]; simp) hw.1
    · exact ⟨ht.symm, hf.symm, fun h => (by cases h), fun _ => hn⟩
theorem read_plain {s a b : List UInt8} (h : Cutting 32 s a b false) {k : Nat} (hk : k < 6) (hw : deedWord k = a) (hn : numbered k = false) : readOf s = (((k : Int), 0), true) := by
  rcases h with ⟨h, _⟩ | ⟨_, rfl, _⟩
  · cases h
  · have hc := word_clean hk
    rw [hw] at hc
    refine readOf_of hc.2 ?_
    rw [text_told (.inr ⟨?_, rfl⟩), if_neg ?_]
    · exact hw
    · intro hx
      have := (numbered_iff (k := (k : Int)) (by omega)).2 hx
      rw [Int.toNat_natCast, hn] at this
      cases this
    · have hx : ¬ ((k : Int) = 0 ∨ (k : Int) = 2 ∨ (k : Int) = 3) := fun hx => by
        have := (numbered_iff (k := (k : Int)) (by omega)).2 hx
        rw [Int.toNat_natCast, hn] at this
        cases this
      omega
theorem read_number {s a b : List UInt8} (h : Cutting 32 s a b true) {k : Nat} (hk : k < 6) (hw : deedWord k = a) (hn : numbered k = true) (hb : numOk b 2 = true) : readOf s = (((k : Int), (numVal b : Int)), true) := by
  rcases h with ⟨_, hs, _⟩ | ⟨h, _⟩
  · obtain ⟨hd, hlt⟩ := dec_num hb
    have hx := (numbered_iff (k := (k : Int)) (by omega)).1 (by rw [Int.toNat_natCast]; exact hn)
    refine readOf_of (by rw [hs]; simp) ?_
    rw [text_told (.inl ⟨hx, by omega⟩), if_pos hx, Int.toNat_natCast, Int.toNat_natCast, hd, hw, hs]
  · cases h
theorem read_bad {s a b : List UInt8} (h : Cutting 32 s a b true) (hb : numOk b 2 = false) : readOf s = ((0, 0), false) := by
  refine readOf_none fun k n h0 ht => ?_
  obtain ⟨_, _, _, _, h1, _⟩ := text_cut h h0 ht
  obtain ⟨hn0, hn9, rfl⟩ := h1 rfl
  rw [(num_dec (by omega)).1] at hb
  cases hb
theorem read_other {s a b : List UInt8} {f : Bool} (h : Cutting 32 s a b f) (hno : ∀ j, j < 6 → ¬ (deedWord j = a ∧ numbered j = f)) : readOf s = ((0, 0), false) := by
  refine readOf_none fun k n h0 ht => ?_
  obtain ⟨hk0, hk6, h1, h2, _⟩ := text_cut h h0 ht
  exact hno k.toNat (by omega) ⟨h1.symm, h2.symm⟩

/-- What ReadDeed returns. -/
def ReadOut (s : List UInt8) (w : World) (e : Ending) (w' : World) : Prop := e = .returned (.tuple #[.agg #[.int .i64 (readOf s).1.1, .int .i64 (readOf s).1.2], .bool (readOf s).2]) ∧ Below w.heap.size w w'
theorem read_ret {s : List UInt8} {k n : Int} {b : Bool} (h : readOf s = ((k, n), b)) : Ending.returned (.tuple #[.agg #[.int .i64 k, .int .i64 n], .bool b]) = .returned (.tuple #[.agg #[.int .i64 (readOf s).1.1, .int .i64 (readOf s).1.2], .bool (readOf s).2]) := by rw [h]

/-- The library's own variable holds some number. -/
def MaxAt (w : World) : Prop := ∃ m, w.cell? ⟨2, 0, none⟩ = some (.int .i64 m)
theorem MaxAt.below' {w w' : World} (h : MaxAt w) (hb : Below w.heap.size w w') : MaxAt w' := by
  obtain ⟨m, hm⟩ := h
  exact ⟨m, cell_keep hb hm⟩
theorem maxAt {w : World} (h : w.ShapedOpen Tryz.prog) : MaxAt w := Tryz.laysM145.s1_3 w h
def CutOut (c : UInt8) (s : ByteArray) (w : World) (e : Ending) (w' : World) : Prop := ∃ (a b : List UInt8) (f : Bool), e = .returned (.tuple #[.string (Tw.str a), .string (Tw.str b), .bool f]) ∧ Cutting c s.data.toList a b f ∧ Below w.heap.size w w'
theorem strCut_any (s : ByteArray) (c : UInt8) (w : World) (hm : MaxAt w) (hs : s.size ≤ 1048576) :
    Calls Tryz.prog 73 #[.string s, .string ⟨#[c]⟩] w (CutOut c s w) := by
  obtain ⟨m, hm⟩ := hm
  refine (Tryz.strings_Cut s ⟨#[c]⟩ m w (by omega) hm).mono ?_
  rintro e w' ⟨rfl, n, rfl⟩
  exact ⟨_, _, _, rfl, cutting c s.data.toList, below_drewN (Below.refl _ _) _⟩

theorem withNumber_is (k : Nat) (hk : k < 6) (w : World) (b : Bool) (hb : numbered k = b) :
    Calls Tryz.prog 75 #[.int .i64 k] w fun e w' => e = .returned (.bool b) ∧ w = w' := hb ▸ withNumber_any k hk w
set_option maxRecDepth 100000 in
set_option maxHeartbeats 1600000 in
theorem implReadDeed (s : ByteArray) (w : World) (hw : WordsAt w) (hm : MaxAt w) (hs : s.size ≤ 1048576) :
    Calls Tryz.prog 44 #[.string s] w (ReadOut s.data.toList w) := by
  obtain ⟨W, hW⟩ : ∃ W, W = w.alloc (.cells #[.int .i64 0, .int .i64 0] 53) := ⟨_, rfl⟩
  have hb0 : Below w.heap.size w W := by rw [hW]; exact (Below.refl _ _).alloc (Nat.le_refl _) _
  have hWs : W.heap.size = w.heap.size + 1 := by rw [hW]; simp
  have hr0 : W.heap[w.heap.size]? = some (.cells #[.int .i64 0, .int .i64 0] 53 (0, 0)) := by rw [hW]; exact heap_alloc_new _ _
  have hct := strCut_any s 32 W (hm.below' hb0) hs
  have hwd := hw.below' hb0
  have HCT := Lib.hid hct
  have HWD := Lib.hid hwd
  have HR0 := Lib.hid hr0
  have HW := Lib.hid hW
  clear hct hwd hr0 hW
  go_enter Tryz.func44, Tryz.ntmps44
  go_wp2_with fail
  rw [← HW.out]
  go_wp2_with (first
    | (go_at_call 73; refine HCT.out.mono ?_; rintro e w1 ⟨a, b, f, rfl, hcut, hb1⟩; have HCU := Lib.hid hcut; clear hcut))
  have hb2 : Below w.heap.size w w1 := hb0.trans (hb1.mono hb0.size)
  have hrow := (hb1.block w.heap.size (by omega)).trans HR0.out
  have r0 := cell_of_row _ _ 0 _ _ _ hrow
  have r1 := cell_of_row _ _ 1 _ _ _ hrow
  have f0 := frozen_of_row _ _ 0 _ _ hrow
  have f1 := frozen_of_row _ _ 1 _ _ hrow
  have HROW := Lib.hid hrow
  have hwd1 := HWD.out.below' hb1
  have HWD1 := Lib.hid hwd1
  obtain ⟨x, hx⟩ : ∃ x, Tw.str a = x := ⟨_, rfl⟩
  obtain ⟨y, hy⟩ : ∃ y, Tw.str b = y := ⟨_, rfl⟩
  have hyd : y.data.toList = b := by rw [← hy]; rfl
  have hyl : y.size ≤ 1048576 := by
    rw [← hy, Tw.str_size]
    rcases HCU.out with ⟨_, e, _⟩ | ⟨_, _, _, e⟩
    · have e2 := congrArg List.length e
      rw [size_data, List.length_append, List.length_cons] at e2
      omega
    · rw [e]
      simp
  have hnum := fun W => readNumber_any y 2 (by omega) W (by omega)
  rw [hyd] at hnum
  obtain ⟨nr, hnr⟩ : ∃ r, numRes b 2 = r := ⟨_, rfl⟩
  obtain ⟨no, hno⟩ : ∃ r, numOk b 2 = r := ⟨_, rfl⟩
  have hnum2 : Hid (∀ W : World, Calls Tryz.prog 85 #[.string y, .int .i64 2] W fun e w' => e = .returned (.tuple #[.int .i64 nr, .bool no]) ∧ W = w') := fun W => by
    have := hnum W
    unfold NumOut at this
    rwa [hnr, hno] at this
  have HNR := Lib.hid hnr
  have HNO := Lib.hid hno
  rw [hx, hy]
  have HX := Lib.hid hx
  clear hrow hwd1 hyd hnum hnr hno hx hy hb1 hb0 hWs
  go_loop [16] (fun i => ∃ k : Nat, k ≤ 6 ∧ i = .int .i64 k ∧ Hid (∀ j, j < k → ¬ (deedWord j = a ∧ numbered j = f))) (fun i => 6 - (intOf i).toNat)
  case atStart => exact ⟨0, by omega, rfl, fun j hj => absurd hj (by omega)⟩
  case round =>
    obtain ⟨k, hk, rfl, HK⟩ := hrel
    by_cases hlt : k < 6
    · have c := HWD1.out k hlt
      obtain ⟨z, hz⟩ : ∃ z, Tw.str (deedWord k) = z := ⟨_, rfl⟩
      rw [hz] at c
      have hk3 : (0 : Int) ≤ (k : Int) := by omega
      have hk4 : (k : Int) < 6 := by omega
      have hwn := fun W => withNumber_is k hlt W _ rfl
      have hiff : (z.toList == x.toList) = decide (deedWord k = a) := by
        rw [eq_bytes, ← hz, ← HX.out]
        refine decide_eq_decide.2 ⟨fun h => ?_, fun h => by rw [h]⟩
        exact (Tw.str_data _).symm.trans ((congrArg (fun b : ByteArray => b.data.toList) h).trans (Tw.str_data _))
      have HZ := Lib.hid hz
      clear hz
      cases hd : decide (deedWord k = a)
      · rw [hd] at hiff
        have HD := Lib.hid (of_decide_eq_false hd)
        clear hd hwn
        go_wp2_with fail
        go_round
        case rel =>
          refine ⟨k + 1, by omega, by go_num, fun j hj h9 => ?_⟩
          rcases Nat.lt_or_ge j k with h8 | h8
          · exact HK.out j h8 h9
          · obtain rfl : j = k := by omega
            exact HD.out h9.1
        case measure => simp [intOf]; omega
      · rw [hd] at hiff
        have HD := Lib.hid (of_decide_eq_true hd)
        obtain ⟨b', hb'⟩ : ∃ b', numbered k = b' := ⟨_, rfl⟩
        rw [hb'] at hwn
        have HWN := Lib.hid hwn
        have HB := Lib.hid hb'
        clear hd hwn hb'
        rcases (by cases f <;> cases b' <;> simp : (f = false ∧ b' = false) ∨ (f = true ∧ b' = true) ∨ f ≠ b') with ⟨rfl, rfl⟩ | ⟨rfl, rfl⟩ | hne
        · have q := pair_put HROW.out (.int .i64 (k : Int)) (.int .i64 0)
          have q0 := cell_of_row _ _ 0 _ _ _ q
          have q1 := cell_of_row _ _ 1 _ _ _ q
          clear q
          go_wp2_with (first
            | (go_at_call 75; refine (HWN.out _).mono ?_; rintro e w' ⟨rfl, rfl⟩))
          refine bodyPost_ret (v := .tuple #[.agg #[.int .i64 (k : Int), .int .i64 0], .bool true]) (by simp [results, Tryz.results44, go_sem, q0, q1]) rfl ⟨read_ret (read_plain HCU.out hlt HD.out HB.out), ?_⟩
          exact (hb2.setCell (Nat.le_refl _) _).setCell (Nat.le_refl _) _
        · cases no
          · have q := pair_put HROW.out (.int .i64 0) (.int .i64 0)
            have q0 := cell_of_row _ _ 0 _ _ _ q
            have q1 := cell_of_row _ _ 1 _ _ _ q
            clear q
            go_wp2_with (first
              | (go_at_call 75; refine (HWN.out _).mono ?_; rintro e w' ⟨rfl, rfl⟩)
              | (go_at_call 85; refine (hnum2.out _).mono ?_; rintro e w' ⟨rfl, rfl⟩))
            refine bodyPost_ret (v := .tuple #[.agg #[.int .i64 0, .int .i64 0], .bool false]) (by simp [results, Tryz.results44, go_sem, q0, q1]) rfl ⟨read_ret (read_bad HCU.out HNO.out), ?_⟩
            exact (hb2.setCell (Nat.le_refl _) _).setCell (Nat.le_refl _) _
          · have q := pair_put HROW.out (.int .i64 (k : Int)) (.int .i64 nr)
            have q0 := cell_of_row _ _ 0 _ _ _ q
            have q1 := cell_of_row _ _ 1 _ _ _ q
            clear q
            go_wp2_with (first
              | (go_at_call 75; refine (HWN.out _).mono ?_; rintro e w' ⟨rfl, rfl⟩)
              | (go_at_call 85; refine (hnum2.out _).mono ?_; rintro e w' ⟨rfl, rfl⟩))
            have e9 : (numVal b : Int) = nr := by
              rw [← HNR.out]
              unfold numRes
              rw [HNO.out]
              rfl
            refine bodyPost_ret (v := .tuple #[.agg #[.int .i64 (k : Int), .int .i64 nr], .bool true]) (by simp [results, Tryz.results44, go_sem, q0, q1]) rfl ⟨read_ret (e9 ▸ read_number HCU.out hlt HD.out HB.out HNO.out), ?_⟩
            exact (hb2.setCell (Nat.le_refl _) _).setCell (Nat.le_refl _) _
        · have hnew : Hid (∀ j, j < k + 1 → ¬ (deedWord j = a ∧ numbered j = f)) := fun j hj h9 => by
            rcases Nat.lt_or_ge j k with h8 | h8
            · exact HK.out j h8 h9
            · obtain rfl : j = k := by omega
              exact hne (h9.2.symm.trans HB.out)
          have hbb : (f = false ∧ b' = true) ∨ (f = true ∧ b' = false) := by
            cases f <;> cases b' <;> simp at hne ⊢
          clear hne
          rcases hbb with ⟨rfl, rfl⟩ | ⟨rfl, rfl⟩
          all_goals
            go_wp2_with (first
              | (go_at_call 75; refine (HWN.out _).mono ?_; rintro e w' ⟨rfl, rfl⟩))
            go_round
            case rel => exact ⟨k + 1, by omega, by go_num, hnew⟩
            case measure => simp [intOf]; omega
    · obtain rfl : k = 6 := by omega
      have q := pair_put HROW.out (.int .i64 0) (.int .i64 0)
      have q0 := cell_of_row _ _ 0 _ _ _ q
      have q1 := cell_of_row _ _ 1 _ _ _ q
      clear q
      go_wp2_with fail
      refine bodyPost_ret (v := .tuple #[.agg #[.int .i64 0, .int .i64 0], .bool false]) (by simp [results, Tryz.results44, go_sem, q0, q1]) rfl ⟨read_ret (read_other HCU.out HK.out), ?_⟩
      exact (hb2.setCell (Nat.le_refl _) _).setCell (Nat.le_refl _) _

end Go.Proofs.YtccdfndnjjjgfaaGreatDoor

namespace Go.Proofs.YtccdfndnjjjgfaaGreatDoor
open Go.RowKit

theorem data_nil {s : ByteArray} (h : s.data.toList = []) : s = ⟨#[]⟩ := nil_of_sizeR (by rw [← size_data, h]; rfl)
theorem str_back {l : List UInt8} {s : ByteArray} (h : Tw.str l = s) : l = s.data.toList := by rw [← h]; rfl

/-- The deeds that the reference tries. -/
def candOf (s : List UInt8) : List (Int × Int) :=
  if (cutAll 32 s).length = 2 then [(1, 0), (4, 0), (5, 0), (0, digitsRes ((cutAll 32 s).getD 1 [])), (2, digitsRes ((cutAll 32 s).getD 1 [])), (3, digitsRes ((cutAll 32 s).getD 1 []))] else [(1, 0), (4, 0), (5, 0)]
theorem cand_mem {s : List UInt8} {k n : Int} (h0 : s ≠ []) (ht : deedText k n = s) : (k, n) ∈ candOf s := by
  have t := told_of (ht ▸ h0)
  obtain ⟨hk0, hk6⟩ := told_kind t
  have hw := word_clean (k := k.toNat) (by omega)
  rw [text_told t] at ht
  unfold candOf
  split at ht
  · rename_i hk
    have hn : 0 ≤ n ∧ n ≤ 99 := by unfold told at t; omega
    have hd := num_dec (n := n.toNat) (by omega)
    have hc : cutAll 32 s = [deedWord k.toNat, Lib.decDigits n.toNat] := by rw [← ht]; exact cutAll_two hw.1 hd.2.2.1
    have hv : digitsRes (Lib.decDigits n.toNat) = n := by
      unfold digitsRes
      rw [num_mono hd.1 (by omega), hd.2.1, if_pos rfl]
      omega
    have e2 : ([deedWord k.toNat, Lib.decDigits n.toNat] : List (List UInt8)).length = 2 := rfl
    rw [hc, if_pos e2]
    show (k, n) ∈ [(1, 0), (4, 0), (5, 0), (0, digitsRes (Lib.decDigits n.toNat)), (2, digitsRes (Lib.decDigits n.toNat)), (3, digitsRes (Lib.decDigits n.toNat))]
    rw [hv]
    rcases hk with rfl | rfl | rfl <;> simp
  · have hn : (k = 1 ∨ k = 4 ∨ k = 5) ∧ n = 0 := by unfold told at t; omega
    obtain ⟨hk, rfl⟩ := hn
    split <;> (rcases hk with rfl | rfl | rfl <;> simp)
theorem cand_none {s : List UInt8} (h : ∀ d, d ∈ candOf s → s ≠ [] → deedText d.1 d.2 = s → False) : readOf s = ((0, 0), false) :=
  readOf_none fun k n h0 ht => h (k, n) (cand_mem h0 ht) h0 ht

theorem own_le2 {w : World} {base g n cap size : Nat} {e : TypeId} {xs : List Value} (h : w.ownsRow base e size (.slice (some ⟨g, 0, none⟩) n cap) n xs) : n ≤ cap := by
  rcases h.2 with ⟨h1, _⟩ | ⟨g', cap', cur, h1, _, _, hl, _⟩
  · cases h1
  · cases h1
    exact hl
theorem own_six (W : World) (base : Nat) (hb : base ≤ W.heap.size) (x0 x1 x2 x3 x4 x5 : Int) : (W.alloc (.cells #[.int .i64 x0, .int .i64 x1, .int .i64 x2, .int .i64 x3, .int .i64 x4, .int .i64 x5] 53)).ownsRow base 53 2 (.slice (some ⟨W.heap.size, 0, none⟩) 3 3) 3 (pairCells [(x0, x1), (x2, x3), (x4, x5)]) :=
  ⟨rfl, .inr ⟨W.heap.size, 3, _, rfl, hb, heap_alloc_new W _, Nat.le_refl _, by decide, rfl, rfl⟩⟩

set_option maxRecDepth 100000 in
set_option maxHeartbeats 1600000 in
theorem specReadDeed (s : ByteArray) (w : World) (hs : s.size ≤ 1048576) :
    Calls Tryz.prog 48 #[.string s] w (ReadOut s.data.toList w) := by
  obtain ⟨i0, hi0, hz0, hz1, hz2⟩ := info_parts deedInfo
  obtain ⟨W, hW⟩ : ∃ W, W = w.alloc (.cells #[.int .i64 0, .int .i64 0] 53) := ⟨_, rfl⟩
  have hb0 : Below w.heap.size w W := by rw [hW]; exact (Below.refl _ _).alloc (Nat.le_refl _) _
  have hWs : W.heap.size = w.heap.size + 1 := by rw [hW]; simp
  have hr0 : W.heap[w.heap.size]? = some (.cells #[.int .i64 0, .int .i64 0] 53 (0, 0)) := by rw [hW]; exact heap_alloc_new _ _
  have hct := cut_any s 32 W hs
  obtain ⟨n, hnn⟩ : ∃ n, (words 32 s).length = n := ⟨_, rfl⟩
  rw [hnn] at hct
  have hcl : (cutAll 32 s.data.toList).length = n := by rw [← hnn]; unfold words; rw [List.length_map]
  have HCT := Lib.hid hct
  have HR0 := Lib.hid hr0
  have HW := Lib.hid hW
  have HCL := Lib.hid hcl
  have HNN := Lib.hid hnn
  clear hct hr0 hW hcl hnn
  by_cases hn2 : n = 2
  · subst hn2
    obtain ⟨z, hz⟩ : ∃ z, (cutAll 32 s.data.toList)[1]? = some z := ⟨(cutAll 32 s.data.toList)[1]'(by rw [HCL.out]; omega), List.getElem?_eq_getElem _⟩
    have hzs : (strVals (words 32 s))[1]? = some (.string (Tw.str z)) := by
      unfold strVals words
      rw [List.getElem?_map, List.getElem?_map, hz]
      rfl
    obtain ⟨y, hy⟩ : ∃ y, Tw.str z = y := ⟨_, rfl⟩
    rw [hy] at hzs
    have hyz : y.data.toList = z := by rw [← hy]; rfl
    have hys : y.size ≤ 9223372036854775807 := by
      rw [← hy, Tw.str_size]
      have := part_size (sep := 32) (l := s.data.toList) (List.mem_of_getElem? hz)
      rw [size_data] at this
      omega
    have hdg := fun W => digits_any y W hys
    rw [hyz] at hdg
    obtain ⟨r, hr⟩ : ∃ r, digitsRes z = r := ⟨_, rfl⟩
    rw [hr] at hdg
    have hds : candOf s.data.toList = [(1, 0), (4, 0), (5, 0), (0, r), (2, r), (3, r)] := by
      unfold candOf
      rw [if_pos HCL.out]
      have e : (cutAll 32 s.data.toList).getD 1 [] = z := by rw [List.getD_eq_getElem?_getD, hz]; rfl
      rw [e, hr]
    have HDG := Lib.hid hdg
    have HDS0 := Lib.hid hds
    have HZS := Lib.hid hzs
    clear hdg hds hzs hyz hy hz hr hys
    go_enter Tryz.func48, Tryz.ntmps48
    go_wp2_with fail
    rw [← HW.out]
    go_wp2_with (first
      | (go_at_call 61; refine HCT.out.mono ?_; rintro e w1 ⟨g, cap, rfl, hown, hb1⟩; have hc1 : ∀ o, (w1.alloc o).cell? ⟨g, 1, none⟩ = some (.string y) := fun o => own_cell (hown.alloc o) HZS.out; have HB1 := Lib.hid hb1; have hcap := own_le hown; have hl1 : W.heap.size ≤ w1.heap.size := hb1.size; have own3 := own_six w1 w1.heap.size (Nat.le_refl _) 1 0 4 0 5 0; have OWN3 := Lib.hid own3; clear hown hb1 own3)
      | (go_at_call 62; refine (HDG.out _).mono ?_; rintro e w' ⟨rfl, rfl⟩)
      | (at_builtin; refine wpList_append_lies _ rfl _ _ 45 rfl w1.heap.size 53 i0 _ 2 16 Tryz.underlying45 hi0 hz0 hz1 hz2 rfl (by omega) _ 3 (pairCells [(1, 0), (4, 0), (5, 0)]) rfl (OWN3.out.alloc _) ⟨w1.heap.size + 1, 0, none⟩ 3 3 (pairCells [(0, r), (2, r), (3, r)]) rfl rfl (World.news_of_block (cs := (pairCells [(0, r), (2, r), (3, r)]).toArray) (t := 53) (fr := (0, 0)) (heap_alloc2_new w1 _ _)) (by simp [Value.oneCell', pairCells]) (by omega) (by unfold maxLen; omega) (by omega) (by simp; omega) (w1.heap.size + 1 + 1) (by simp) ?_; intro g4 cap4 w4 hown4 hgrow4 hat4 hlt4))
    have hbx : Below W.heap.size W w4 := ((HB1.out.alloc (by omega) _).alloc (by simp; omega) _).grown hgrow4 (by simp; omega) (fun j hj => by have h9 : w1.heap.size = j := Option.some.inj hj; omega)
    have hk4 := own_le2 hown4
    have hdeeds := own_deeds (ds := [(1, 0), (4, 0), (5, 0), (0, r), (2, r), (3, r)]) hown4 rfl hk4
    obtain ⟨ds, hds⟩ : ∃ ds : List (Int × Int), ds = [(1, 0), (4, 0), (5, 0), (0, r), (2, r), (3, r)] := ⟨_, rfl⟩
    rw [← hds] at hdeeds
    have HDS : Hid (candOf s.data.toList = ds) := by show _ = _; rw [hds]; exact HDS0.out
    have hnl : ds.length = 6 := by rw [hds]; rfl
    obtain ⟨W2, hW2⟩ : ∃ W2, W2 = w4 := ⟨_, rfl⟩
    rw [← hW2] at hdeeds hbx
    obtain ⟨a, ha⟩ : ∃ a : Addr, (⟨g4, 0, none⟩ : Addr) = a := ⟨_, rfl⟩
    have hcell : ∀ (j : Nat) (d : Int × Int), ds[j]? = some d → W2.cell? (a.add (j * 2)) = some (.int .i64 d.1) ∧ W2.cell? ⟨(a.add (j * 2)).block, (a.add (j * 2)).off + 1, none⟩ = some (.int .i64 d.2) := by
      rcases hdeeds with ⟨h9, _⟩ | ⟨a', cap', h9, _, h8⟩
      · cases h9
      · simp only [Value.slice.injEq, Option.some.injEq] at h9
        obtain ⟨h7, _, _⟩ := h9
        rw [← ha, h7]
        exact h8
    have hb2 := hb0.trans (hbx.mono hb0.size)
    have hWle : w.heap.size < W2.heap.size := by have := hbx.size; omega
    have HROW := Lib.hid ((hbx.block w.heap.size (by omega)).trans HR0.out)
    have HN := Lib.hid hnl
    have HC := Lib.hid hcell
    rw [ha, ← hW2]
    clear hcell hnl hds hdeeds hbx hgrow4 hown4 hat4 hb0 hW2 ha
    go_loopw [7] (fun i wr => ∃ k : Nat, k ≤ 6 ∧ i = .int .i64 k ∧ Below W2.heap.size W2 wr ∧ Hid (∀ j d, j < k → ds[j]? = some d → s ≠ ⟨#[]⟩ → Tw.str (deedText d.1 d.2) ≠ s)) (fun i _ => 6 - (intOf i).toNat)
    case atStart => exact ⟨0, by omega, rfl, Below.refl _ _, fun j d hj => absurd hj (by omega)⟩
    case round =>
      obtain ⟨k, hk, rfl, hb, HK⟩ := hrel
      by_cases hlt : k < 6
      · obtain ⟨d, hd⟩ : ∃ d, ds[k]? = some d := ⟨ds[k]'(by rw [HN.out]; exact hlt), List.getElem?_eq_getElem (by rw [HN.out]; exact hlt)⟩
        have c0 := cell_keep hb (HC.out k d hd).1
        have c1 := cell_keep hb (HC.out k d hd).2
        have hk3 : (0 : Int) ≤ (k : Int) := by omega
        have hk4 : (k : Int) < 6 := by omega
        have HD := Lib.hid hd
        clear hd
        have hnext : Hid (¬ (s ≠ ⟨#[]⟩ ∧ Tw.str (deedText d.1 d.2) = s) → ∀ j d', j < k + 1 → ds[j]? = some d' → s ≠ ⟨#[]⟩ → Tw.str (deedText d'.1 d'.2) ≠ s) := fun h9 j d' hj hd' h0 h8 => by
          rcases Nat.lt_or_ge j k with h7 | h7
          · exact HK.out j d' h7 hd' h0 h8
          · obtain rfl : j = k := by omega
            rw [HD.out] at hd'
            obtain rfl := Option.some.inj hd'
            exact h9 ⟨h0, h8⟩
        by_cases hs0 : s.size = 0
        · have hemp : Hid (s = ⟨#[]⟩) := nil_of_sizeR hs0
          have hie : s.toList.isEmpty = true := by rw [hemp.out, Lib.toList_data]; rfl
          go_wp2_with fail
          go_roundw
          case rel => exact ⟨k + 1, by omega, by go_num, hb, hnext.out (fun h => h.1 hemp.out)⟩
          case measure => simp [intOf]; omega
        · have hie := notEmptyR (s := s) (by omega)
          have hne : Hid (s ≠ ⟨#[]⟩) := fun h => hs0 (by rw [h]; rfl)
          obtain ⟨t, ht⟩ : ∃ t, Tw.str (deedText d.1 d.2) = t := ⟨_, rfl⟩
          have hdt : Hid (∀ W : World, Calls Tryz.prog 84 #[.agg #[.int .i64 d.1, .int .i64 d.2]] W fun e w' => e = .returned (.string t) ∧ Below W.heap.size W w') := fun W => ht ▸ specDeedText d.1 d.2 W
          have heq := eq_bytes t s
          have HT := Lib.hid ht
          clear ht
          have G0 := Lib.hid c0
          have G1 := Lib.hid c1
          cases hts : decide (t = s)
          · rw [hts] at heq
            have HNS := Lib.hid (of_decide_eq_false hts)
            clear hts
            go_wp2_with (first
              | (go_at_call 84; refine (hdt.out _).mono ?_; rintro e w5 ⟨rfl, hb5⟩))
            go_roundw
            case rel => exact ⟨k + 1, by omega, by go_num, hb.trans (hb5.mono hb.size), hnext.out (fun h => HNS.out (HT.out.symm.trans h.2))⟩
            case measure => simp [intOf]; omega
          · rw [hts] at heq
            have HTS := Lib.hid (of_decide_eq_true hts)
            clear hts
            go_wp2_with (first
              | (go_at_call 84; refine (hdt.out _).mono ?_; rintro e w5 ⟨rfl, hb5⟩; have hb6 := hb.trans (hb5.mono hb.size); have e0 := cell_keep hb5 G0.out; have e1 := cell_keep hb5 G1.out; have hrow := (hb6.block w.heap.size (by omega)).trans HROW.out; have r0 := cell_of_row _ _ 0 _ _ _ hrow; have r1 := cell_of_row _ _ 1 _ _ _ hrow; have f0 := frozen_of_row _ _ 0 _ _ hrow; have f1 := frozen_of_row _ _ 1 _ _ hrow; have q := pair_put hrow (.int .i64 d.1) (.int .i64 d.2); have q0 := cell_of_row _ _ 0 _ _ _ q; have q1 := cell_of_row _ _ 1 _ _ _ q; clear q hrow))
            refine bodyPost_ret (v := .tuple #[.agg #[.int .i64 d.1, .int .i64 d.2], .bool true]) (by simp [results, Tryz.results48, go_sem, q0, q1]) rfl ⟨read_ret (readOf_of (fun h => hne.out (data_nil h)) (str_back (HT.out.trans HTS.out))), ?_⟩
            exact ((hb2.trans (hb6.mono hb2.size)).setCell (Nat.le_refl _) _).setCell (Nat.le_refl _) _
      · obtain rfl : k = 6 := by omega
        have hrow := (hb.block w.heap.size (by omega)).trans HROW.out
        have r0 := cell_of_row _ _ 0 _ _ _ hrow
        have r1 := cell_of_row _ _ 1 _ _ _ hrow
        have f0 := frozen_of_row _ _ 0 _ _ hrow
        have f1 := frozen_of_row _ _ 1 _ _ hrow
        have q := pair_put hrow (.int .i64 0) (.int .i64 0)
        have q0 := cell_of_row _ _ 0 _ _ _ q
        have q1 := cell_of_row _ _ 1 _ _ _ q
        clear q hrow
        go_wp2_with fail
        refine bodyPost_ret (v := .tuple #[.agg #[.int .i64 0, .int .i64 0], .bool false]) (by simp [results, Tryz.results48, go_sem, q0, q1]) rfl ⟨read_ret (cand_none fun d hd h0 h1 => ?_), ?_⟩
        · rw [HDS.out] at hd
          obtain ⟨j, hj, hjd⟩ := List.getElem_of_mem hd
          have hl := HN.out
          exact HK.out j d (by omega) (by rw [List.getElem?_eq_getElem hj, hjd]) (fun h => h0 (by rw [h])) (by rw [h1]; exact Tw.str_of s)
        · exact ((hb2.trans (hb.mono hb2.size)).setCell (Nat.le_refl _) _).setCell (Nat.le_refl _) _
  · have hn3 : ((n : Int) == 2) = false := beq_false_of_ne (by omega)
    have hds0 : candOf s.data.toList = [(1, 0), (4, 0), (5, 0)] := by
      unfold candOf
      rw [if_neg (by rw [HCL.out]; exact hn2)]
    have HDS0 := Lib.hid hds0
    clear hn2 hds0
    go_enter Tryz.func48, Tryz.ntmps48
    go_wp2_with fail
    rw [← HW.out]
    go_wp2_with (first
      | (go_at_call 61; refine HCT.out.mono ?_; rintro e w1 ⟨g, cap, rfl, hown, hb1⟩; have HB1 := Lib.hid hb1; have hl1 : W.heap.size ≤ w1.heap.size := hb1.size; have own3 := own_six w1 w1.heap.size (Nat.le_refl _) 1 0 4 0 5 0; have OWN3 := Lib.hid own3; clear hown hb1 own3))
    have hbx := HB1.out.alloc (by omega) (.cells #[.int .i64 1, .int .i64 0, .int .i64 4, .int .i64 0, .int .i64 5, .int .i64 0] 53)
    have hdeeds := own_deeds (ds := [(1, 0), (4, 0), (5, 0)]) OWN3.out rfl (Nat.le_refl _)
    obtain ⟨ds, hds⟩ : ∃ ds : List (Int × Int), ds = [(1, 0), (4, 0), (5, 0)] := ⟨_, rfl⟩
    rw [← hds] at hdeeds
    have HDS : Hid (candOf s.data.toList = ds) := by show _ = _; rw [hds]; exact HDS0.out
    have hnl : ds.length = 3 := by rw [hds]; rfl
    obtain ⟨W2, hW2⟩ : ∃ W2, W2 = w1.alloc (.cells #[.int .i64 1, .int .i64 0, .int .i64 4, .int .i64 0, .int .i64 5, .int .i64 0] 53) := ⟨_, rfl⟩
    rw [← hW2] at hdeeds hbx
    obtain ⟨a, ha⟩ : ∃ a : Addr, (⟨w1.heap.size, 0, none⟩ : Addr) = a := ⟨_, rfl⟩
    have hcell : ∀ (j : Nat) (d : Int × Int), ds[j]? = some d → W2.cell? (a.add (j * 2)) = some (.int .i64 d.1) ∧ W2.cell? ⟨(a.add (j * 2)).block, (a.add (j * 2)).off + 1, none⟩ = some (.int .i64 d.2) := by
      rcases hdeeds with ⟨h9, _⟩ | ⟨a', cap', h9, _, h8⟩
      · cases h9
      · simp only [Value.slice.injEq, Option.some.injEq] at h9
        obtain ⟨h7, _, _⟩ := h9
        rw [← ha, h7]
        exact h8
    have hb2 := hb0.trans (hbx.mono hb0.size)
    have hWle : w.heap.size < W2.heap.size := by have := hbx.size; omega
    have HROW := Lib.hid ((hbx.block w.heap.size (by omega)).trans HR0.out)
    have HN := Lib.hid hnl
    have HC := Lib.hid hcell
    rw [ha, ← hW2]
    clear hcell hnl hds hdeeds hbx hb0 hW2 ha
    go_loopw [7] (fun i wr => ∃ k : Nat, k ≤ 3 ∧ i = .int .i64 k ∧ Below W2.heap.size W2 wr ∧ Hid (∀ j d, j < k → ds[j]? = some d → s ≠ ⟨#[]⟩ → Tw.str (deedText d.1 d.2) ≠ s)) (fun i _ => 3 - (intOf i).toNat)
    case atStart => exact ⟨0, by omega, rfl, Below.refl _ _, fun j d hj => absurd hj (by omega)⟩
    case round =>
      obtain ⟨k, hk, rfl, hb, HK⟩ := hrel
      by_cases hlt : k < 3
      · obtain ⟨d, hd⟩ : ∃ d, ds[k]? = some d := ⟨ds[k]'(by rw [HN.out]; exact hlt), List.getElem?_eq_getElem (by rw [HN.out]; exact hlt)⟩
        have c0 := cell_keep hb (HC.out k d hd).1
        have c1 := cell_keep hb (HC.out k d hd).2
        have hk3 : (0 : Int) ≤ (k : Int) := by omega
        have hk4 : (k : Int) < 3 := by omega
        have HD := Lib.hid hd
        clear hd
        have hnext : Hid (¬ (s ≠ ⟨#[]⟩ ∧ Tw.str (deedText d.1 d.2) = s) → ∀ j d', j < k + 1 → ds[j]? = some d' → s ≠ ⟨#[]⟩ → Tw.str (deedText d'.1 d'.2) ≠ s) := fun h9 j d' hj hd' h0 h8 => by
          rcases Nat.lt_or_ge j k with h7 | h7
          · exact HK.out j d' h7 hd' h0 h8
          · obtain rfl : j = k := by omega
            rw [HD.out] at hd'
            obtain rfl := Option.some.inj hd'
            exact h9 ⟨h0, h8⟩
        by_cases hs0 : s.size = 0
        · have hemp : Hid (s = ⟨#[]⟩) := nil_of_sizeR hs0
          have hie : s.toList.isEmpty = true := by rw [hemp.out, Lib.toList_data]; rfl
          go_wp2_with fail
          go_roundw
          case rel => exact ⟨k + 1, by omega, by go_num, hb, hnext.out (fun h => h.1 hemp.out)⟩
          case measure => simp [intOf]; omega
        · have hie := notEmptyR (s := s) (by omega)
          have hne : Hid (s ≠ ⟨#[]⟩) := fun h => hs0 (by rw [h]; rfl)
          obtain ⟨t, ht⟩ : ∃ t, Tw.str (deedText d.1 d.2) = t := ⟨_, rfl⟩
          have hdt : Hid (∀ W : World, Calls Tryz.prog 84 #[.agg #[.int .i64 d.1, .int .i64 d.2]] W fun e w' => e = .returned (.string t) ∧ Below W.heap.size W w') := fun W => ht ▸ specDeedText d.1 d.2 W
          have heq := eq_bytes t s
          have HT := Lib.hid ht
          clear ht
          have G0 := Lib.hid c0
          have G1 := Lib.hid c1
          cases hts : decide (t = s)
          · rw [hts] at heq
            have HNS := Lib.hid (of_decide_eq_false hts)
            clear hts
            go_wp2_with (first
              | (go_at_call 84; refine (hdt.out _).mono ?_; rintro e w5 ⟨rfl, hb5⟩))
            go_roundw
            case rel => exact ⟨k + 1, by omega, by go_num, hb.trans (hb5.mono hb.size), hnext.out (fun h => HNS.out (HT.out.symm.trans h.2))⟩
            case measure => simp [intOf]; omega
          · rw [hts] at heq
            have HTS := Lib.hid (of_decide_eq_true hts)
            clear hts
            go_wp2_with (first
              | (go_at_call 84; refine (hdt.out _).mono ?_; rintro e w5 ⟨rfl, hb5⟩; have hb6 := hb.trans (hb5.mono hb.size); have e0 := cell_keep hb5 G0.out; have e1 := cell_keep hb5 G1.out; have hrow := (hb6.block w.heap.size (by omega)).trans HROW.out; have r0 := cell_of_row _ _ 0 _ _ _ hrow; have r1 := cell_of_row _ _ 1 _ _ _ hrow; have f0 := frozen_of_row _ _ 0 _ _ hrow; have f1 := frozen_of_row _ _ 1 _ _ hrow; have q := pair_put hrow (.int .i64 d.1) (.int .i64 d.2); have q0 := cell_of_row _ _ 0 _ _ _ q; have q1 := cell_of_row _ _ 1 _ _ _ q; clear q hrow))
            refine bodyPost_ret (v := .tuple #[.agg #[.int .i64 d.1, .int .i64 d.2], .bool true]) (by simp [results, Tryz.results48, go_sem, q0, q1]) rfl ⟨read_ret (readOf_of (fun h => hne.out (data_nil h)) (str_back (HT.out.trans HTS.out))), ?_⟩
            exact ((hb2.trans (hb6.mono hb2.size)).setCell (Nat.le_refl _) _).setCell (Nat.le_refl _) _
      · obtain rfl : k = 3 := by omega
        have hrow := (hb.block w.heap.size (by omega)).trans HROW.out
        have r0 := cell_of_row _ _ 0 _ _ _ hrow
        have r1 := cell_of_row _ _ 1 _ _ _ hrow
        have f0 := frozen_of_row _ _ 0 _ _ hrow
        have f1 := frozen_of_row _ _ 1 _ _ hrow
        have q := pair_put hrow (.int .i64 0) (.int .i64 0)
        have q0 := cell_of_row _ _ 0 _ _ _ q
        have q1 := cell_of_row _ _ 1 _ _ _ q
        clear q hrow
        go_wp2_with fail
        refine bodyPost_ret (v := .tuple #[.agg #[.int .i64 0, .int .i64 0], .bool false]) (by simp [results, Tryz.results48, go_sem, q0, q1]) rfl ⟨read_ret (cand_none fun d hd h0 h1 => ?_), ?_⟩
        · rw [HDS.out] at hd
          obtain ⟨j, hj, hjd⟩ := List.getElem_of_mem hd
          have hl := HN.out
          exact HK.out j d (by omega) (by rw [List.getElem?_eq_getElem hj, hjd]) (fun h => h0 (by rw [h])) (by rw [h1]; exact Tw.str_of s)
        · exact ((hb2.trans (hb.mono hb2.size)).setCell (Nat.le_refl _) _).setCell (Nat.le_refl _) _

end Go.Proofs.YtccdfndnjjjgfaaGreatDoor
