/-
  The marks of the exact laws: markText, markStringS, heldStringS, markDesk, heldDesk.
-/
import Derived.Test.YtccdfndnjjjgfaaGreatDoorDeskDone
import Derived.Test.YtccdfndnjjjgfaaGreatDoorDeed
import Derived.Test.YtccdfndnjjjgfaaGreatDoorDeskNew
namespace Go.Proofs.YtccdfndnjjjgfaaGreatDoor
open Go.RowKit

/-- The digits of a number ahead of a text. -/
def digs : Nat → Nat → List UInt8 → List UInt8
  | 0, _, o => o
  | f + 1, k, o => if k = 0 then o else digs f (k / 10) (UInt8.ofNat (48 + k % 10) :: o)
theorem digs_zero (f : Nat) (o : List UInt8) : digs f 0 o = o := by cases f <;> simp [digs]
theorem digs_step {f k : Nat} (hk : 0 < k) (hf : k ≤ f) (o : List UInt8) : ∃ g, k / 10 ≤ g ∧ digs f k o = digs g (k / 10) (UInt8.ofNat (48 + k % 10) :: o) := by
  obtain ⟨g, rfl⟩ : ∃ g, f = g + 1 := ⟨f - 1, by omega⟩
  exact ⟨g, by omega, by simp only [digs]; rw [if_neg (by omega)]⟩
/-- The mark of a number. -/
def markOf (k : Nat) : ByteArray := Tw.str (109 :: digs k k [])
def marksOf (k n : Nat) : List ByteArray := (List.range n).map fun i => markOf (k + i)
theorem marks_length (k n : Nat) : (marksOf k n).length = n := by simp [marksOf]
theorem marks_at {k n i : Nat} (h : i < n) : (marksOf k n)[i]? = some (markOf (k + i)) := by simp [marksOf, h]
theorem marks_zero (k : Nat) : marksOf k 0 = [] := rfl
theorem marks_succ (k n : Nat) : marksOf k (n + 1) = marksOf k n ++ [markOf (k + n)] := by unfold marksOf; rw [List.range_succ, List.map_append]; rfl
/-- All that is no part of a slice's own block lies as it lay. -/
structure But (v : Value) (w w' : World) : Prop where
  os : w'.os = w.os
  tape : w'.tape = w.tape
  output : w'.output = w.output
  size : w.heap.size ≤ w'.heap.size
  block : ∀ k, k < w.heap.size → v.ownBlock ≠ some k → w'.heap[k]? = w.heap[k]?
theorem But.refl (v : Value) (w : World) : But v w w := ⟨rfl, rfl, rfl, Nat.le_refl _, fun _ _ _ => rfl⟩
theorem But.trans {v : Value} {a b c : World} (h : But v a b) (k : But v b c) : But v a c :=
  ⟨k.os.trans h.os, k.tape.trans h.tape, k.output.trans h.output, Nat.le_trans h.size k.size, fun i hi hn => (k.block i (Nat.lt_of_lt_of_le hi h.size) hn).trans (h.block i hi hn)⟩
theorem But.of {v : Value} {w w' : World} (h : Below w.heap.size w w') : But v w w' := ⟨h.os, h.tape, h.output, h.size, fun k hk _ => h.block k hk⟩
theorem But.setCell {v : Value} (w : World) {a : Addr} (h : v.ownBlock = some a.block) (u : Value) : But v w (w.setCell a u) :=
  ⟨rfl, rfl, rfl, by simp, fun k _ hk => heap_setCell_other w a k _ (fun e => hk (by rw [h, e]))⟩
theorem But.below {v : Value} {w w' : World} {B : Nat} (h : But v w w') (hv : Fresh B v) (hB : B ≤ w.heap.size) : Below B w w' :=
  ⟨h.os, h.tape, h.output, h.size, fun k hk => h.block k (by omega) (fun e => by have := hv k e; omega)⟩
theorem But.past {v u : Value} {w w' : World} {ys : List ByteArray} (h : But v w w') (hp : PastAt w u ys) (hne : ∀ b, v.ownBlock = some b → u.ownBlock ≠ some b) : PastAt w' u ys := by
  rcases hp with hp | ⟨g, off, cap, cur, rfl, hl, hg, hc, hz⟩
  · exact .inl hp
  · exact .inr ⟨g, off, cap, cur, rfl, hl, (h.block g (lt_at hg) (fun e => hne g e rfl)).trans hg, hc, hz⟩
theorem But.strs {v u : Value} {w w' : World} {ys : List ByteArray} (h : But v w w') (hp : StrsAt w u ys) (hlt : ∀ b, v.ownBlock = some b → u.ownBlock ≠ some b) : StrsAt w' u ys := by
  rcases hp with hp | ⟨a, cap, rfl, hl, hc⟩
  · exact .inl hp
  · refine .inr ⟨a, cap, rfl, hl, fun j z hz => ?_⟩
    have h1 := hc j z hz
    have hb := World.block_lt_of_cell? w _ h1
    rw [add_block] at hb
    rw [← h1]
    refine World.cell?_of_block (h.block _ (by rw [add_block]; exact hb) (fun e => ?_))
    rw [add_block] at e
    exact hlt _ e rfl

theorem add_plain (g off j : Nat) : (⟨g, off, none⟩ : Addr).add j = ⟨g, off + j, none⟩ := by unfold Addr.add; split <;> simp_all
/-- One text of a row is put in. -/
theorem past_set {w : World} {a : Addr} {n cap j : Nat} {zs : List ByteArray} (h : PastAt w (.slice (some a) n cap) zs) (hj : j < n) (z : ByteArray) : PastAt (w.setCell (a.add j) (.string z)) (.slice (some a) n cap) (zs.set j z) := by
  rcases h with ⟨h, _⟩ | ⟨g, off, cap', cur, he, hl, hg, hc, hz⟩
  · cases h
  · simp only [Value.slice.injEq, Option.some.injEq] at he
    obtain ⟨rfl, rfl, rfl⟩ := he
    have e := add_plain g off j
    rw [e]
    refine .inr ⟨g, off, cap, cur.set! (off + j) (.string z), by rw [List.length_set], by rw [List.length_set]; exact hl, ?_, by simpa using hc, fun i y hi => ?_⟩
    · simp [World.setCell, Array.getElem?_modify, hg]
    · rw [List.getElem?_set] at hi
      rw [Array.set!_eq_setIfInBounds, Array.getElem?_setIfInBounds]
      split at hi
      · rename_i hij
        subst hij
        rw [if_pos rfl, if_pos (by omega)]
        exact congrArg some (congrArg Value.string (Option.some.inj hi))
      · rename_i hij
        rw [if_neg (by omega)]
        exact hz i y hi
theorem past_cell {w : World} {a : Addr} {n cap j : Nat} {zs : List ByteArray} (h : PastAt w (.slice (some a) n cap) zs) (hj : j < n) (hn : zs.length = n) : ∃ z, zs[j]? = some z ∧ w.cell? (a.add j) = some (.string z) ∧ w.frozen? (a.add j) = false := by
  rcases h with ⟨h, _⟩ | ⟨g, off, cap', cur, he, hl, hg, hc, hz⟩
  · cases h
  · simp only [Value.slice.injEq, Option.some.injEq] at he
    obtain ⟨rfl, _, _⟩ := he
    have e := add_plain g off j
    refine ⟨zs[j]'(by omega), List.getElem?_eq_getElem _, ?_, ?_⟩
    · rw [e]
      exact (cell_of_row _ _ _ _ _ _ hg).trans (hz j _ (List.getElem?_eq_getElem _))
    · rw [e]
      exact frozen_of_row _ _ _ _ _ hg
theorem set_take {zs : List ByteArray} {k j : Nat} (h : zs.take j = marksOf k j) (hj : j < zs.length) : (zs.set j (markOf (k + j))).take (j + 1) = marksOf k (j + 1) := by
  rw [marks_succ, List.take_add_one, List.take_set_of_le (Nat.le_refl _), h, List.getElem?_set, if_pos rfl, if_pos hj]
  rfl

set_option maxRecDepth 100000 in
set_option maxHeartbeats 800000 in
theorem markText_any (k : Nat) (hk : 0 < k) (hk2 : k ≤ 4194304) (w : World) :
    Calls Tryz.prog 40 #[.int .i64 k] w fun e w' => e = .returned (.string (markOf k)) ∧ Below w.heap.size w w' := by
  have hpos : ¬ (k : Int) ≤ 0 := by omega
  go_enter Tryz.func40, Tryz.ntmps40
  go_wp2
  go_loopw [0, 3] (fun a o wr => ∃ (j f : Nat) (x : ByteArray), a = .int .i64 j ∧ o = .string x ∧ j ≤ f ∧ x.size + j ≤ k ∧ Hid (digs f j x.data.toList = digs k k []) ∧ Below w.heap.size w wr) (fun a _ _ => (intOf a).toNat)
  case atStart => exact ⟨k, k, _, rfl, rfl, Nat.le_refl _, (by show 0 + k ≤ k; omega), rfl, Below.refl _ _⟩
  case round =>
    obtain ⟨j, f, x, rfl, rfl, hjf, hx, HD, hb⟩ := hrel
    by_cases hj : 0 < j
    · obtain ⟨g, hg, hstep⟩ := digs_step hj hjf x.data.toList
      have hm : j % 10 < 10 := by omega
      have hd : j / 10 < j := by omega
      obtain ⟨p, hp⟩ : ∃ p, j / 10 = p := ⟨_, rfl⟩
      obtain ⟨q, hq⟩ : ∃ q, j % 10 = q := ⟨_, rfl⟩
      rw [hp, hq] at hstep
      rw [hp] at hg hd
      rw [hq] at hm
      have eq5 : (j : Int) / 10 = (p : Int) := by omega
      have eq6 : (j : Int) % 10 = (q : Int) := by omega
      obtain ⟨xq, hxq⟩ : ∃ x, Tw.str [UInt8.ofNat (48 + q)] = x := ⟨_, rfl⟩
      have hsq : xq.size = 1 := by rw [← hxq]; rfl
      have hcv : (convert 36 9 (.slice (some ⟨wr.heap.size, 0, none⟩) 1 1)).run Tryz.prog (wr.alloc (.cells #[.int .u8 (48 + (q : Int))] 5)) = .ok (.string xq) (wr.alloc (.cells #[.int .u8 (48 + (q : Int))] 5)) := hxq ▸ conv_digit hm wr
      have HS := Lib.hid hstep
      have HX := Lib.hid hxq
      clear hstep hxq hp hq
      go_wp2
      go_roundw
      case rel =>
        refine ⟨p, g, _, rfl, rfl, hg, by rw [ByteArray.size_append]; omega, ?_, hb.alloc hb.size _⟩
        have e : (xq ++ x).data.toList = UInt8.ofNat (48 + q) :: x.data.toList := by rw [ByteArray.data_append, Array.toList_append, ← HX.out]; rfl
        show _ = _
        rw [e, ← HS.out]
        exact HD.out
      case measure => simp [intOf]; omega
    · obtain rfl : j = 0 := by omega
      go_wp2
      go_ret
      refine ⟨ret_str ?_, hb⟩
      unfold markOf
      rw [← HD.out, digs_zero]
      exact (congrArg (Tw.str [109] ++ ·) (Tw.str_of x)).symm.trans (Tw.str_append [109] x.data.toList)
theorem markText_plus (k j : Nat) (hk : 0 < k) (hk2 : k + j ≤ 4194304) (w : World) :
    Calls Tryz.prog 40 #[.int .i64 ((k : Int) + (j : Int))] w fun e w' => e = .returned (.string (markOf (k + j))) ∧ Below w.heap.size w w' := by
  have := markText_any (k + j) (by omega) hk2 w
  rwa [Int.natCast_add] at this

set_option maxRecDepth 100000 in
set_option maxHeartbeats 800000 in
theorem markStrings_any (v : Value) (zs : List ByteArray) (k : Nat) (w : World) (h : PastAt w v zs) (hn : zs.length ≤ 1048577) (hk : 0 < k) (hk2 : k ≤ 1048577) :
    Calls Tryz.prog 17 #[v, .int .i64 k] w fun e w' => e = .returned (.int .i64 ((k : Int) + zs.length)) ∧ PastAt w' v (marksOf k zs.length) ∧ But v w w' := by
  obtain ⟨n, hnn⟩ : ∃ n, zs.length = n := ⟨_, rfl⟩
  have h' := h
  rcases h with ⟨rfl, rfl⟩ | ⟨g, off, cap, cur, rfl, hl, hg, hc, hz⟩
  · refine (markStrings_nil k w).mono ?_
    rintro e w' ⟨rfl, rfl⟩
    exact ⟨ret_int (by simp), .inl ⟨rfl, rfl⟩, But.refl _ _⟩
  · rw [hnn] at hn hl h' ⊢
    clear hg hc hz cur
    obtain ⟨a, ha⟩ : ∃ a : Addr, (⟨g, off, none⟩ : Addr) = a := ⟨_, rfl⟩
    rw [ha] at h' ⊢
    have HN := Lib.hid hnn
    have HP0 := Lib.hid h'
    clear ha hnn h'
    go_enter Tryz.func17, Tryz.ntmps17
    go_wp2
    go_loopw [1, 5] (fun c i wr => ∃ (j : Nat) (ys : List ByteArray), j ≤ n ∧ i = .int .i64 j ∧ c = .int .i64 ((k : Int) + j) ∧ Hid (PastAt wr (.slice (some a) n cap) ys) ∧ Hid (ys.length = n) ∧ Hid (ys.take j = marksOf k j) ∧ Hid (But (.slice (some a) n cap) w wr)) (fun _ i _ => n - (intOf i).toNat)
    case atStart => exact ⟨0, zs, Nat.zero_le _, rfl, by go_num, HP0.out, HN.out, rfl, But.refl _ _⟩
    case round =>
      obtain ⟨j, ys, hj, rfl, rfl, HP, HL, HT, HB⟩ := hrel
      by_cases hlt : j < n
      · have hk3 : (0 : Int) ≤ (j : Int) := by omega
        have hk4 : (j : Int) < (n : Int) := by omega
        obtain ⟨x, hx⟩ : ∃ x, markOf (k + j) = x := ⟨_, rfl⟩
        have hct : Hid (∀ W : World, Calls Tryz.prog 40 #[.int .i64 ((k : Int) + (j : Int))] W fun e w' => e = .returned (.string x) ∧ Below W.heap.size W w') := fun W => hx ▸ markText_plus k j hk (by omega) W
        have HX := Lib.hid hx
        clear hx
        go_wp2_with (first
          | (go_at_call 40; refine (hct.out _).mono ?_; rintro e w1 ⟨rfl, hb1⟩; have hp1 := HP.out.below hb1; obtain ⟨z, _, c0, f0⟩ := past_cell hp1 hlt HL.out; have HP1 := Lib.hid hp1; clear hp1))
        go_roundw
        case rel =>
          refine ⟨j + 1, ys.set j x, by omega, by go_num, by go_num, past_set HP1.out hlt x, ?_, ?_, ?_⟩
          · show _ = _
            rw [List.length_set]
            exact HL.out
          · show _ = _
            rw [← HX.out]
            exact set_take HT.out (by rw [HL.out]; exact hlt)
          · exact (HB.out.trans (But.of hb1)).trans (But.setCell _ (by rw [add_block]; rfl) _)
        case measure => simp [intOf]; omega
      · obtain rfl : j = n := by omega
        go_wp2_with fail
        go_ret
        have e := HT.out
        rw [List.take_of_length_le (by rw [HL.out]; exact Nat.le_refl _)] at e
        exact ⟨ret_int (by omega), e ▸ HP.out, HB.out⟩

set_option maxRecDepth 100000 in
set_option maxHeartbeats 800000 in
theorem heldStrings_any (v : Value) (n : Nat) (k : Nat) (w : World) (h : PastAt w v (marksOf k n)) (hn : n ≤ 1048577) (hk : 0 < k) (hk2 : k ≤ 1048577) :
    Calls Tryz.prog 19 #[v, .int .i64 k] w fun e w' => e = .returned (.int .i64 ((k : Int) + n)) ∧ Below w.heap.size w w' := by
  have h' := h
  rcases h with ⟨rfl, h0⟩ | ⟨g, off, cap, cur, rfl, hl, hg, hc, hz⟩
  · have e : n = 0 := by have := marks_length k n; rw [h0] at this; exact this.symm
    subst e
    refine (heldStrings_nil k w).mono ?_
    rintro e w' ⟨rfl, rfl⟩
    exact ⟨ret_int (by simp), Below.refl _ _⟩
  · rw [marks_length] at hl h' ⊢
    clear hg hc hz cur
    obtain ⟨a, ha⟩ : ∃ a : Addr, (⟨g, off, none⟩ : Addr) = a := ⟨_, rfl⟩
    rw [ha] at h' ⊢
    have HP0 := Lib.hid h'
    clear ha h'
    go_enter Tryz.func19, Tryz.ntmps19
    go_wp2
    go_loopw [1, 5] (fun c i wr => ∃ j : Nat, j ≤ n ∧ i = .int .i64 j ∧ c = .int .i64 ((k : Int) + j) ∧ Below w.heap.size w wr) (fun _ i _ => n - (intOf i).toNat)
    case atStart => exact ⟨0, Nat.zero_le _, rfl, by go_num, Below.refl _ _⟩
    case round =>
      obtain ⟨j, hj, rfl, rfl, hb⟩ := hrel
      by_cases hlt : j < n
      · have hk3 : (0 : Int) ≤ (j : Int) := by omega
        have hk4 : (j : Int) < (n : Int) := by omega
        obtain ⟨x, hx⟩ : ∃ x, markOf (k + j) = x := ⟨_, rfl⟩
        have hct : Hid (∀ W : World, Calls Tryz.prog 40 #[.int .i64 ((k : Int) + (j : Int))] W fun e w' => e = .returned (.string x) ∧ Below W.heap.size W w') := fun W => hx ▸ markText_plus k j hk (by omega) W
        obtain ⟨z, hz, c0, _⟩ := past_cell (HP0.out.below hb) hlt (marks_length k n)
        have e : z = x := by rw [marks_at hlt, hx] at hz; exact (Option.some.inj hz).symm
        subst e
        clear hx hz
        go_wp2_with fail
        go_region_held3 (fun w' => w'.cell? (a.add j) = some (.string z))
          (first | exact c0 | exact cell_keep hb1 c0)
          (first | (go_at_call 40; refine (hct.out _).mono ?_; rintro e w1 ⟨rfl, hb1⟩))
        go_wp2
        go_roundw
        case rel => exact ⟨j + 1, by omega, by go_num, by go_num, hb.drew.trans (hb1.mono hb.size)⟩
        case measure => simp [intOf]; omega
      · obtain rfl : j = n := by omega
        go_wp2_with fail
        go_ret
        exact ⟨rfl, hb⟩

set_option maxHeartbeats 800000 in
theorem markDesk_any (s : ByteArray) (v : Value) (zs : List ByteArray) (k : Nat) (w : World) (h : PastAt w v zs) (hn : zs.length ≤ 1048577) (hk : 0 < k) (hk2 : k ≤ 1048577) :
    Calls Tryz.prog 16 #[.agg #[.string s, v], .int .i64 k] w fun e w' => e = .returned (.int .i64 ((k : Int) + zs.length)) ∧ PastAt w' v (marksOf k zs.length) ∧ But v w w' := by
  have hb : ∀ o, Below w.heap.size w (w.alloc o) := fun o => (Below.refl _ _).alloc (Nat.le_refl _) o
  have hct : Hid (∀ o, Calls Tryz.prog 17 #[v, .int .i64 k] (w.alloc o) fun e w' => e = .returned (.int .i64 ((k : Int) + zs.length)) ∧ PastAt w' v (marksOf k zs.length) ∧ But v (w.alloc o) w') := fun o => markStrings_any v zs k (w.alloc o) (h.below (hb o)) hn hk hk2
  have HB := Lib.hid hb
  clear hb h
  obtain ⟨r, hr⟩ : ∃ r : Int, (k : Int) + zs.length = r := ⟨_, rfl⟩
  rw [hr] at hct ⊢
  clear hr
  go_enter Tryz.func16, Tryz.ntmps16
  go_wp2_with (first
    | (go_at_call 17; refine (hct.out _).mono ?_; rintro e w1 ⟨rfl, hp1, hb1⟩))
  go_ret
  exact ⟨rfl, hp1, (But.of (HB.out _)).trans hb1⟩

set_option maxHeartbeats 800000 in
theorem heldDesk_any (s : ByteArray) (v : Value) (n : Nat) (k : Nat) (w : World) (h : PastAt w v (marksOf k n)) (hn : n ≤ 1048577) (hk : 0 < k) (hk2 : k ≤ 1048577) :
    Calls Tryz.prog 18 #[.agg #[.string s, v], .int .i64 k] w fun e w' => e = .returned (.int .i64 ((k : Int) + n)) ∧ Below w.heap.size w w' := by
  have hb : ∀ o, Below w.heap.size w (w.alloc o) := fun o => (Below.refl _ _).alloc (Nat.le_refl _) o
  have hct : Hid (∀ o, Calls Tryz.prog 19 #[v, .int .i64 k] (w.alloc o) fun e w' => e = .returned (.int .i64 ((k : Int) + n)) ∧ Below (w.alloc o).heap.size (w.alloc o) w') := fun o => heldStrings_any v n k (w.alloc o) (h.below (hb o)) hn hk hk2
  have HB := Lib.hid hb
  clear hb h
  obtain ⟨r, hr⟩ : ∃ r : Int, (k : Int) + n = r := ⟨_, rfl⟩
  rw [hr] at hct ⊢
  have hr0 : 0 ≤ r := by omega
  clear hr
  go_enter Tryz.func18, Tryz.ntmps18
  go_wp2_with (first
    | (go_at_call 19; refine (hct.out _).mono ?_; rintro e w1 ⟨rfl, hb1⟩))
  go_ret
  exact ⟨rfl, (HB.out _).trans (hb1.mono (by simp))⟩

end Go.Proofs.YtccdfndnjjjgfaaGreatDoor
