/-
  The draw of walks that avoid themselves: some short text, and nothing that was there has turned but the reader.
-/
import Derived.Test.YtaafaangfocbcaaDoorDraw
import Derived.Test.YtaafaangfocbcaaDoorGoes
namespace Go.Proofs.YtaafaangfocbcaaDoor
open Go.RowKit

/-- From w on a reader has been read at most k times more; nothing else that was there has turned. -/
def Drawn (w W : World) (R : Nat) (v : Value) (n p k : Nat) : Prop := ∃ p', p' ≤ p + k ∧ ReaderAt W R v n p' ∧ w.grownBy W (some R)
theorem grown_trans {a b c : World} {row : Option Nat} (h : a.grownBy b row) (k : b.grownBy c row) : a.grownBy c row := by
  obtain ⟨h1, h2, h3, h4, h5⟩ := h
  obtain ⟨k1, k2, k3, k4, k5⟩ := k
  exact ⟨k1.trans h1, k2.trans h2, k3.trans h3, Nat.le_trans h4 k4, fun i hi hr => (k5 i (Nat.lt_of_lt_of_le hi h4) hr).trans (h5 i hi hr)⟩
theorem ReaderAt.lt {w : World} {R n p : Nat} {v : Value} (h : ReaderAt w R v n p) : R < w.heap.size := (Array.getElem?_eq_some_iff.1 h.cells).1
theorem ReaderAt.below {w w' : World} {R n p : Nat} {v : Value} (h : ReaderAt w R v n p) (hb : Below w.heap.size w w') : ReaderAt w' R v n p :=
  ⟨(hb.block _ h.lt).trans h.cells, code_grown h.code h.off (grown_of_below hb _), h.few, h.off⟩
theorem Drawn.start {w : World} {R n p : Nat} {v : Value} (h : ReaderAt w R v n p) : Drawn w w R v n p 0 := ⟨p, by omega, h, ⟨rfl, rfl, rfl, Nat.le_refl _, fun _ _ _ => rfl⟩⟩
theorem Drawn.below {w W W' : World} {R n p k : Nat} {v : Value} (h : Drawn w W R v n p k) (hb : Below W.heap.size W W') : Drawn w W' R v n p k := by
  obtain ⟨p', hp, hr, hg⟩ := h
  exact ⟨p', hp, hr.below hb, grown_trans hg (grown_of_below hb _)⟩
theorem Drawn.alloc {w W : World} {R n p k : Nat} {v : Value} (h : Drawn w W R v n p k) (o : Obj) : Drawn w (W.alloc o) R v n p k := h.below ((Below.refl _ _).alloc (Nat.le_refl _) o)
theorem Drawn.mono {w W : World} {R n p k k' : Nat} {v : Value} (h : Drawn w W R v n p k) (hk : k ≤ k') : Drawn w W R v n p k' := by
  obtain ⟨p', hp, hr⟩ := h
  exact ⟨p', by omega, hr⟩
theorem Drawn.lt {w W : World} {R n p k : Nat} {v : Value} (h : Drawn w W R v n p k) : R < W.heap.size := by
  obtain ⟨p', hp, hr, _⟩ := h
  exact hr.lt
theorem pick_d {w W : World} {R n p k : Nat} {v : Value} {N : Int} (h : Drawn w W R v n p k) (hp : p + k ≤ 1000000) (h1 : 1 ≤ N) (h2 : N ≤ 1000000) :
    Calls Tryd.prog 55 #[.pointer (some ⟨R, 0, none⟩), .int .i64 N] W fun e w' => ∃ x : Int, e = .returned (.int .i64 x) ∧ 0 ≤ x ∧ x < N ∧ Drawn w w' R v n p (k + 1) ∧ W.grownBy w' (some R) := by
  obtain ⟨p', hp', hr, hg⟩ := h
  refine (pick_any R n p' v N W hr (by omega) h1 h2).mono ?_
  rintro e w' ⟨x, ⟨rfl, hx0, hx1⟩, hr', hg'⟩
  exact ⟨x, rfl, hx0, hx1, ⟨p' + 1, by omega, hr', grown_trans hg hg'⟩, hg'⟩
theorem odd_d {w W : World} {R n p k : Nat} {v : Value} {N : Int} (h : Drawn w W R v n p k) (hp : p + k ≤ 1000000) (h1 : 0 ≤ N) (h2 : N ≤ 1000000) :
    Calls Tryd.prog 65 #[.pointer (some ⟨R, 0, none⟩), .int .i64 N] W fun e w' => ∃ b : Bool, e = .returned (.bool b) ∧ Drawn w w' R v n p (k + 1) := by
  obtain ⟨p', hp', hr, hg⟩ := h
  refine (odd_any R n p' v N W hr (by omega) h1 h2).mono ?_
  rintro e w' ⟨b, p2, rfl, hp2, hr', hg'⟩
  exact ⟨b, rfl, p2, by omega, hr', grown_trans hg hg'⟩

/-- A cell of a literal row, read behind a draw. -/
theorem lit_cell {W w' : World} {R : Nat} {cs : Array Value} {t : TypeId} (hR : R < W.heap.size) (hg : (W.alloc (.cells cs t)).grownBy w' (some R)) (j : Nat) (u : Value) (hu : cs[j]? = some u) : w'.cell? ⟨W.heap.size, j, none⟩ = some u := by
  rw [hg.cell_far ⟨W.heap.size, j, none⟩ (by simp) (by simp; omega)]
  exact (cell_of_row _ _ _ _ _ _ (heap_alloc_new W _)).trans hu

theorem lit_size (a : Array UInt8) : (ByteArray.mk a).size = a.size := rfl
theorem zero_or (x : Int) : x = 0 ∨ (x == 0) = false := by
  rcases Decidable.em (x = 0) with h | h
  · exact .inl h
  · exact .inr (by simpa using h)

set_option maxRecDepth 100000 in
set_option maxHeartbeats 6400000 in
theorem avoid_d (w W : World) (R n p k : Nat) (v : Value) (N : Int) (h : Drawn w W R v n p k) (hp : p + k ≤ 100000) (h1 : 0 ≤ N) (h2 : N ≤ 1000000) :
    Calls Tryd.prog 42 #[.pointer (some ⟨R, 0, none⟩), .int .i64 N] W fun e w' => ∃ s : ByteArray, e = .returned (.string s) ∧ s.size ≤ 40 ∧ Drawn w w' R v n p (k + 100) := by
  go_enter Tryd.func42, Tryd.ntmps42
  go_wp2_with (first
    | (go_at_call 55; refine (pick_d h (by omega) (by omega) (by omega)).mono ?_; rintro e w1 ⟨x, rfl, hx0, hx1, hd, _⟩))
  have hd1 := hd
  clear hd
  go_loopw [5, 6, 7, 8] (fun o i _ _ wr => ∃ (s : ByteArray) (j : Nat), o = .string s ∧ i = .int .i64 j ∧ s.size + j ≤ 15 ∧ j ≤ 15 ∧ ∃ m, m ≤ k + 1 + (15 - j) ∧ Drawn w wr R v n p m) (fun _ i _ _ _ => (intOf i).toNat)
  case atStart => exact ⟨_, x.toNat, rfl, by congr 1; omega, by show 0 + x.toNat ≤ 15; omega, by omega, k + 1, by omega, hd1⟩
  case round =>
    obtain ⟨s, j, rfl, rfl, hsz, hj, m, hm, hd⟩ := hrel
    have hd := hd.mono hm
    by_cases hj0 : 0 < j
    · have hgs := fun W => specGoesOn s W (by omega)
      obtain ⟨t, ht⟩ : ∃ t, Tw.str (Tw.goesOn s.data.toList) = t := ⟨_, rfl⟩
      have ht4 : t.size ≤ 4 := by rw [← ht, Tw.str_size]; exact goes_len _
      rw [ht] at hgs
      have HGS := Lib.hid hgs
      clear hgs ht
      rcases Nat.eq_zero_or_pos t.size with ht0 | ht0
      · have he : t.toList.isEmpty = true := by
          rw [Lib.toList_data]
          have : t.data.toList.length = 0 := by rw [size_data]; exact ht0
          rw [List.length_eq_zero_iff.1 this]
          rfl
        go_wp2_with (first
            | (go_at_call 19; refine (HGS.out _).mono ?_; rintro e w2 ⟨rfl, hb2⟩; have hd := hd.below hb2)
            | (go_at_call 55; first
                | (refine (pick_d (hd.alloc _) (by omega) (by omega) (by omega)).mono ?_; rintro e w3 ⟨y, rfl, hy0, hy1, hd', hg'⟩; have hlit := lit_cell hd.lt hg'; have hd := hd'; obtain rfl | rfl | rfl : y = 0 ∨ y = 1 ∨ y = 2 := by omega
                   all_goals (have l0 := hlit 0 _ rfl; have l1 := hlit 1 _ rfl; have l2 := hlit 2 _ rfl))
                | (refine (pick_d hd (by omega) (by omega) (by omega)).mono ?_; rintro e w3 ⟨y, rfl, hy0, hy1, hd, _⟩; rcases zero_or y with rfl | hyy))
            | (go_at_call 65; refine (odd_d hd (by omega) (by omega) (by omega)).mono ?_; rintro e w4 ⟨c, rfl, hd⟩; cases c))
        all_goals
          go_ret
          exact ⟨_, rfl, by first | omega | (simp [lit_size]; done) | (simp [lit_size]; omega), hd.mono (by omega)⟩
      · have he : t.toList.isEmpty = false := by
          rw [Lib.toList_data]
          cases hh : t.data.toList with
          | nil =>
            have : t.data.toList.length = 0 := by rw [hh]; rfl
            rw [size_data] at this
            omega
          | cons => rfl
        have ht1 : (1 : Int) ≤ (t.size : Int) := by omega
        go_wp2_with (first
          | (go_at_call 19; refine (HGS.out _).mono ?_; rintro e w2 ⟨rfl, hb2⟩; have hd := hd.below hb2)
          | (go_at_call 55; refine (pick_d hd (by omega) (by omega) (by omega)).mono ?_; rintro e w3 ⟨y, rfl, hy0, hy1, hd, _⟩))
        go_roundw
        case rel => exact ⟨_, j - 1, rfl, by congr 1; omega, by simp; omega, by omega, _, by omega, hd⟩
        case measure => simp [intOf]; omega
    · obtain rfl : j = 0 := by omega
      go_wp2_with (first
          | (go_at_call 55; first
              | (refine (pick_d (hd.alloc _) (by omega) (by omega) (by omega)).mono ?_; rintro e w3 ⟨y, rfl, hy0, hy1, hd', hg'⟩; have hlit := lit_cell hd.lt hg'; have hd := hd'; obtain rfl | rfl | rfl : y = 0 ∨ y = 1 ∨ y = 2 := by omega
                 all_goals (have l0 := hlit 0 _ rfl; have l1 := hlit 1 _ rfl; have l2 := hlit 2 _ rfl))
              | (refine (pick_d hd (by omega) (by omega) (by omega)).mono ?_; rintro e w3 ⟨y, rfl, hy0, hy1, hd, _⟩; rcases zero_or y with rfl | hyy))
          | (go_at_call 65; refine (odd_d hd (by omega) (by omega) (by omega)).mono ?_; rintro e w4 ⟨c, rfl, hd⟩; cases c))
      all_goals
        go_ret
        exact ⟨_, rfl, by first | omega | (simp [lit_size]; done) | (simp [lit_size]; omega), hd.mono (by omega)⟩

end Go.Proofs.YtaafaangfocbcaaDoor
