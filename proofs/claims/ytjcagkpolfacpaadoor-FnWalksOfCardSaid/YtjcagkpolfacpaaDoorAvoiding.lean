/-
  The program's recursive iterator over all walks that avoid themselves.
-/
import Derived.Test.YtjcagkpolfacpaaDoorBeen
import Derived.Test.YtjcagkpolfacpaaDoorRangeOwn
import Derived.Test.YtjcagkpolfacpaaDoorWaysImpl
import Derived.Test.YtjcagkpolfacpaaDoorArea
import Derived.Deep.RegionHeld3
import Derived.Deep.DeepCutAuto
import Derived.Deep.AppendLies
import Derived.OwnWalk
import Derived.RangeFuncBox
import Derived.Shelf.Abstract
import Derived.Shelf.RegionOpen
import Derived.OwnWalkIn
import Derived.TacticsInMore
import Derived.LoopNIn
import Derived.LoopIn
namespace Go.Proofs.YtjcagkpolfacpaaDoor
open Go Go.RowKit Go.Maps Go.WideMaps Go.Shelf

attribute [local go_sem] Oper.semAt_some

theorem own_same {w w' : World} {base g n cap : Nat} {e : TypeId} {size : Nat} {xs : List Value} (h : w.ownsRow base e size (.slice (some ⟨g, 0, none⟩) n cap) n xs) (hk : w'.heap[g]? = w.heap[g]?) : w'.ownsRow base e size (.slice (some ⟨g, 0, none⟩) n cap) n xs := by
  refine ⟨h.1, ?_⟩
  rcases h.2 with ⟨h1, _⟩ | ⟨g', cap', cur, h1, h2, h3, h4⟩
  · cases h1
  · cases h1
    exact .inr ⟨_, _, cur, rfl, h2, hk.trans h3, h4⟩
theorem own_shorter {w : World} {base g n m cap : Nat} {e : TypeId} {xs ys : List Value} (h : w.ownsRow base e 1 (.slice (some ⟨g, 0, none⟩) m cap) m (xs ++ ys)) (hn : xs.length = n) (hm : n ≤ m) : w.ownsRow base e 1 (.slice (some ⟨g, 0, none⟩) n cap) n xs := by
  refine ⟨by omega, ?_⟩
  rcases h.2 with ⟨h1, _⟩ | ⟨g', cap', cur, h1, h2, h3, h4, h5, h6, h7⟩
  · cases h1
  · cases h1
    refine .inr ⟨_, _, cur, rfl, h2, h3, by omega, h5, h6, ?_⟩
    rw [Nat.mul_one] at h7 ⊢
    have := congrArg (List.take n) h7
    rw [List.take_take, Nat.min_eq_left hm, List.take_append_of_le_length (by omega), List.take_of_length_le (l := xs) (by omega)] at this
    exact this
/-- The iterator's own memory when it stands behind a walk. -/
def AvSt (B N R M : Nat) (l : List UInt8) (w : World) : Prop := w.ownsRow B 5 1 (.slice (some ⟨R, 0, none⟩) l.length N) l.length (bytesOf l) ∧ BeenAt w M (l.length + 1) (Tw.places l)
/-- What the iterator leaves alone. -/
def AvKept (B R M : Nat) (r : Option Nat) (w w' : World) : Prop := w.heap.size ≤ w'.heap.size ∧ ∀ k, B ≤ k → k < w.heap.size → r ≠ some k → k ≠ R → k ≠ M → w'.heap[k]? = w.heap[k]?
def AvOut (B N R M : Nat) (l : List UInt8) (J : List (List UInt8) → Option Nat → World → Prop) (done : List (List UInt8)) (r : Option Nat) (w : World) (e : Ending) (w' : World) : Prop :=
  e = .returned (.bool true) ∧ ∃ r', J done r' w' ∧ NextRow w r r' ∧ AvSt B N R M l w' ∧ AvKept B R M r w w'
theorem AvKept.refl (B R M : Nat) (r : Option Nat) (w : World) : AvKept B R M r w w := ⟨Nat.le_refl _, fun _ _ _ _ _ _ => rfl⟩
theorem AvKept.of_below {B R M : Nat} {r : Option Nat} {w w' : World} (h : Below w.heap.size w w') : AvKept B R M r w w' := ⟨h.size, fun k _ hk _ _ _ => h.block k hk⟩
theorem AvKept.trans {B R M : Nat} {r r' : Option Nat} {w w' w'' : World} (h : AvKept B R M r w w') (hr : NextRow w r r') (k : AvKept B R M r' w' w'') : AvKept B R M r w w'' :=
  ⟨Nat.le_trans h.1 k.1, fun i h1 h2 h3 h4 h5 => (k.2 i h1 (Nat.lt_of_lt_of_le h2 h.1) (hr.ne h2 h3) h4 h5).trans (h.2 i h1 h2 h3 h4 h5)⟩
theorem AvKept.other {B R M : Nat} {r : Option Nat} {w w' : World} (h : SameOther B r w w') : AvKept B R M r w w' := ⟨h.size, fun k h1 h2 h3 _ _ => h.block k h1 h2 h3⟩
theorem AvSt.below {B N R M : Nat} {l : List UInt8} {w w' : World} (h : AvSt B N R M l w) (hb : Below w.heap.size w w') : AvSt B N R M l w' :=
  ⟨own_below h.1 hb, h.2.kept (hb.block _ h.2.lt)⟩
theorem AvSt.row_lt {B N R M : Nat} {l : List UInt8} {w : World} (h : AvSt B N R M l w) : R < w.heap.size := (h.1.lt R rfl).2
theorem AvSt.other {B N R M : Nat} {l : List UInt8} {r : Option Nat} {w w' : World} (h : AvSt B N R M l w) (ho : SameOther B r w w') (hR : B ≤ R) (hM : B ≤ M) (h1 : r ≠ some R) (h2 : r ≠ some M) : AvSt B N R M l w' :=
  ⟨own_same h.1 (ho.block _ hR h.row_lt h1), h.2.kept (ho.block _ hM h.2.lt h2)⟩

set_option maxRecDepth 100000 in
set_option maxHeartbeats 1600000 in
theorem av_zero (B N lrec R M : Nat) (hR : B ≤ R) (hM : B ≤ M) (xs : List (List UInt8)) (J : List (List UInt8) → Option Nat → World → Prop) (hA : AbidesOwn B J)
    (hY : RoundsOwn Fence.wide 4 Tryd.prog lrec B (fun x => #[.string (Tw.str x)]) xs J)
    (l : List UInt8) (pre : List (List UInt8)) (r : Option Nat) (x y : Int) (w : World) (hst : AvSt B N R M l w) (hJ : J pre r w) (hpre : pre ++ [l] <+: xs) (h1 : r ≠ some R) (h2 : r ≠ some M) :
    Calls Tryd.prog 44 #[.slice (some ⟨R, 0, none⟩) l.length N, .agg #[.int .i64 x, .int .i64 y], .int .i64 0, .map (some M), .func (.yield lrec) #[] #[]] w (AvOut B N R M l J (pre ++ [l]) r w) := by
  have hlim := hA.2 _ _ _ hJ
  obtain ⟨W, hW⟩ : ∃ W, w.alloc (.cells #[.int .i64 x, .int .i64 y] 54) = W := ⟨_, rfl⟩
  have hb : Below w.heap.size w W := by rw [← hW]; exact (Below.refl _ _).alloc (Nat.le_refl _) _
  have hJ' : J pre r W := hA.1 _ _ _ _ hJ (SameOwn.of_below hb hlim.1 (fun k e => (hlim.2 k e).2))
  have hst' := hst.below hb
  have hcv := conv_own hst'.1
  obtain ⟨fn, tmps, assign, body, hy, hRd⟩ := hY pre l r W hJ' hpre
  dsimp only at hy
  have HW := Lib.hid hW
  have HB := Lib.hid hb
  clear hW hb
  go_enter Tryd.func44, Tryd.ntmps44
  go_upto_region 2 with (fail)
  rw [HW.out]
  refine (wpIn_wide (n := 5)).1 ?_
  gi_wp2
  refine hRd.mono ?_
  rintro e W3 ⟨rfl, r3, hJ3, hO3, hN3⟩
  gi_wp2
  go_wp2
  go_ret
  have hs := HB.out.size
  exact ⟨rfl, r3, hJ3, hN3.mono hs, hst'.other hO3 hR hM h1 h2, (AvKept.of_below HB.out).trans (NextRow.refl _ _) (AvKept.other hO3)⟩

theorem AvKept.grown {B R M : Nat} {r row : Option Nat} {w w' : World} (h : w.grownBy w' row) (hrow : ∀ k, row = some k → k = R ∨ k = M) : AvKept B R M r w w' :=
  ⟨h.size, fun k _ hk _ h4 h5 => h.block k hk (fun e => by
    rcases hrow k e.symm with h9 | h9
    · exact h4 h9
    · exact h5 h9)⟩
theorem bytesOf_snoc (l : List UInt8) (c : UInt8) : bytesOf (l ++ [c]) = bytesOf l ++ [.int .u8 c.toNat] := by simp [bytesOf]
theorem far_cells9 {W : World} {N A : Nat} {u v x y : Value} (h : A ≠ N) (c0 : W.cell? ⟨A, 0, none⟩ = some x) (c1 : W.cell? ⟨A, 1, none⟩ = some y) :
    ((W.setCell ⟨N, 0, none⟩ u).setCell ⟨N, 1, none⟩ v).cell? ⟨A, 0, none⟩ = some x ∧ ((W.setCell ⟨N, 0, none⟩ u).setCell ⟨N, 1, none⟩ v).cell? ⟨A, 1, none⟩ = some y := by
  constructor
  · rw [World.cell?_setCell_far _ _ _ _ (fun e => h e.symm), World.cell?_setCell_far _ _ _ _ (fun e => h e.symm), c0]
  · rw [World.cell?_setCell_far _ _ _ _ (fun e => h e.symm), World.cell?_setCell_far _ _ _ _ (fun e => h e.symm), c1]
/-- What holds behind a step, if the room for the next place is laid before it or not. -/
theorem near_step {wr w' w3 : World} {A : Nat} {u v : Value} (hb : Below w'.heap.size w' w3) (hw' : (∃ o, w' = wr.drew.alloc o) ∨ w' = wr.drew) (hlt : A < wr.heap.size) (c0 : wr.cell? ⟨A, 0, none⟩ = some u) (c1 : wr.cell? ⟨A, 1, none⟩ = some v) :
    Below wr.heap.size wr w3 ∧ A < w3.heap.size ∧ w3.cell? ⟨A, 0, none⟩ = some u ∧ w3.cell? ⟨A, 1, none⟩ = some v := by
  have h3 : Below wr.heap.size wr w3 := by
    rcases hw' with ⟨o, rfl⟩ | rfl
    · exact ((Below.refl wr.heap.size wr).drew.alloc (Nat.le_refl _) o).trans (hb.mono (by simp))
    · exact (Below.refl wr.heap.size wr).drew.trans hb
  have hs := h3.size
  exact ⟨h3, by omega, (h3.cell (p := ⟨A, 0, none⟩) hlt).trans c0, (h3.cell (p := ⟨A, 1, none⟩) hlt).trans c1⟩
/-- What the iterator's part with n steps to go does. -/
def AvFrom (B N lrec R M : Nat) (xs : List (List UInt8)) (J : List (List UInt8) → Option Nat → World → Prop) (n : Nat) : Prop :=
  ∀ (l : List UInt8) (pre : List (List UInt8)) (r : Option Nat) (w : World), AvSt B N R M l w → Tw.avoids l = true → l.length + n ≤ N → J pre r w → pre ++ Tw.onWalks l n <+: xs → r ≠ some R → r ≠ some M →
    Calls Tryd.prog 44 #[.slice (some ⟨R, 0, none⟩) l.length N, .agg #[.int .i64 (Tw.endOf l).1, .int .i64 (Tw.endOf l).2], .int .i64 n, .map (some M), .func (.yield lrec) #[] #[]] w (AvOut B N R M l J (pre ++ Tw.onWalks l n) r w)

set_option maxRecDepth 100000 in
set_option maxHeartbeats 12800000 in
theorem av_succ (B N lrec R M : Nat) (hN : N ≤ 39) (hR : B ≤ R) (hM : B ≤ M) (hRM : R ≠ M) (xs : List (List UInt8)) (J : List (List UInt8) → Option Nat → World → Prop) (hA : AbidesOwn B J) (hC : ∀ pre r W, J pre r W → DirsAt W)
    (n : Nat) (ih : AvFrom B N lrec R M xs J n) : AvFrom B N lrec R M xs J (n + 1) := by
  intro l pre r w hst hav hlen hJ hpre h1 h2
  have hlim := hA.2 _ _ _ hJ
  obtain ⟨x, hx⟩ : ∃ x, (Tw.endOf l).1 = x := ⟨_, rfl⟩
  obtain ⟨y, hy⟩ : ∃ y, (Tw.endOf l).2 = y := ⟨_, rfl⟩
  obtain ⟨z, hz⟩ : ∃ z : Int, ((n + 1 : Nat) : Int) = z := ⟨_, rfl⟩
  have hqr : -1000000 ≤ x ∧ x ≤ 1000000 ∧ -1000000 ≤ y ∧ y ≤ 1000000 ∧ -100 ≤ x ∧ x ≤ 100 ∧ -100 ≤ y ∧ y ≤ 100 := by
    have := Tw.placeAt_range l l.length
    rw [show Tw.placeAt l l.length = Tw.endOf l from by unfold Tw.placeAt; rw [List.take_of_length_le (Nat.le_refl _)], hx, hy] at this
    omega
  have hz0 : (z == 0) = false := by simp; omega
  have hz1 : IntKind.i64.wrap (z - 1) = (n : Int) := by rw [IntWalk.i64_in _ ⟨by omega, by omega⟩]; omega
  rw [hx, hy, hz]
  have hend : Tw.endOf l = (x, y) := by rw [← hx, ← hy]
  have HEND := Lib.hid hend
  have HST := Lib.hid hst
  have HAV := Lib.hid hav
  have HIH := Lib.hid ih
  have HPRE := Lib.hid hpre
  have hnear : ∀ p ∈ Tw.places l, near p := places_near l (by omega)
  have HNEAR := Lib.hid hnear
  obtain ⟨W, hW⟩ : ∃ W, w.alloc (.cells #[.int .i64 x, .int .i64 y] 54) = W := ⟨_, rfl⟩
  have hb : Below w.heap.size w W := by rw [← hW]; exact (Below.refl _ _).alloc (Nat.le_refl _) _
  have hrow : W.heap[w.heap.size]? = some (.cells #[.int .i64 x, .int .i64 y] 54 (0, 0)) := by rw [← hW]; exact heap_alloc_new w _
  have hsW : w.heap.size < W.heap.size := by rw [← hW]; simp
  have hJ' : J pre r W := hA.1 _ _ _ _ hJ (SameOwn.of_below hb hlim.1 (fun k e => (hlim.2 k e).2))
  have hst' := hst.below hb
  have hRw := hst.row_lt
  have hMw := hst.2.lt
  obtain ⟨A, hAb⟩ : ∃ A, w.heap.size = A := ⟨_, rfl⟩
  rw [hAb] at hsW hrow hlim hRw hMw
  have HAb := Lib.hid hAb
  have HW := Lib.hid hW
  have HB := Lib.hid hb
  have HROW := Lib.hid hrow
  have HJ := Lib.hid hJ'
  have HST' := Lib.hid hst'
  clear hx hy hz hend hst hav ih hpre hnear hW hb hrow hJ hJ' hst' hAb
  obtain ⟨i0, hi0, _, hi1, _⟩ := info_parts u8info
  go_enter Tryd.func44, Tryd.ntmps44
  go_upto_region 3 with (fail)
  rw [HW.out, HAb.out]
  go_wp2_with fail
  go_loopw [11] (fun i wr => ∃ (k : Nat) (r' : Option Nat), k ≤ 4 ∧ i = .int .i64 k ∧ Hid (J (pre ++ Tw.onTo l n k) r' wr) ∧ Hid (NextRow W r r') ∧ Hid (AvSt B N R M l wr) ∧ Hid (AvKept B R M r W wr))
    (fun i _ => 4 - (intOf i).toNat)
  case atStart => exact ⟨0, r, Nat.zero_le _, rfl, by show J _ _ _; simpa [Tw.onTo] using HJ.out, NextRow.refl _ _, HST'.out, AvKept.refl _ _ _ _ _⟩
  case round =>
    obtain ⟨k, r', hk, rfl, HJk, HNk, HSk, HKk⟩ := hrel
    by_cases hlt4 : k < 4
    · obtain ⟨c, hc, hk4⟩ : ∃ c, Tw.order[k]? = some c ∧ ((k = 0 ∧ c = 101) ∨ (k = 1 ∧ c = 110) ∨ (k = 2 ∧ c = 115) ∨ (k = 3 ∧ c = 119)) := by
        obtain rfl | rfl | rfl | rfl : k = 0 ∨ k = 1 ∨ k = 2 ∨ k = 3 := by omega
        · exact ⟨101, rfl, by simp⟩
        · exact ⟨110, rfl, by simp⟩
        · exact ⟨115, rfl, by simp⟩
        · exact ⟨119, rfl, by simp⟩
      have hdc : 0 ≤ Tw.dir c := by
        rcases hk4 with ⟨_, rfl⟩ | ⟨_, rfl⟩ | ⟨_, rfl⟩ | ⟨_, rfl⟩ <;> decide
      have hd3 := (Tw.dir_range c).2
      obtain ⟨x2, hx2⟩ : ∃ x2, x + Tw.east (Tw.dir c) = x2 := ⟨_, rfl⟩
      obtain ⟨y2, hy2⟩ : ∃ y2, y + Tw.north (Tw.dir c) = y2 := ⟨_, rfl⟩
      have hq : near (x2, y2) := by
        rw [← hx2, ← hy2]
        unfold near Tw.east Tw.north
        split <;> split <;> omega
      have hstep : Tw.step (Tw.endOf l) c = (x2, y2) := by rw [HEND.out, step_eq, hx2, hy2]
      have hav1 := Tw.avoids_snoc (c := c) HAV.out (by omega) hdc
      rw [hstep] at hav1
      have hpl1 := Tw.places_snoc l c
      rw [hstep] at hpl1
      have hon := Tw.onTo_succ (l := l) (n := n) hc
      have HX2 := Lib.hid hx2
      have HY2 := Lib.hid hy2
      have HQ := Lib.hid hq
      have HSTEP := Lib.hid hstep
      have HAV1 := Lib.hid hav1
      have HPL1 := Lib.hid hpl1
      have HON := Lib.hid hon
      have HKEY := Lib.hid (keyOf_place _ hq)
      clear hx2 hy2 hq hstep hav1 hpl1 hon hc
      have hrA : r ≠ some A := fun e => by have := (hlim.2 A e).2; omega
      have hBA : B ≤ A := by omega
      have hAR : A ≠ R := fun e => by omega
      have hAM : A ≠ M := fun e => by omega
      have hrow1 : wr.heap[A]? = some (.cells #[.int .i64 x, .int .i64 y] 54 (0, 0)) := (HKk.out.2 A hBA hsW hrA hAR hAM).trans HROW.out
      have hlt1 : A < wr.heap.size := lt_of_heap hrow1
      have c0 : wr.cell? ⟨A, 0, none⟩ = some (.int .i64 x) := cell_of_row _ _ 0 _ _ _ hrow1
      have c1 : wr.cell? ⟨A, 1, none⟩ = some (.int .i64 y) := cell_of_row _ _ 1 _ _ _ hrow1
      have HROW1 := Lib.hid hrow1
      have HDR : Hid (DirsAt wr) := hC _ _ _ HJk.out
      have hxx : -1000000 ≤ x ∧ x ≤ 1000000 := ⟨hqr.1, hqr.2.1⟩
      have hyy : -1000000 ≤ y ∧ y ≤ 1000000 := ⟨hqr.2.2.1, hqr.2.2.2.1⟩
      have hlimk := hA.2 _ _ _ HJk.out
      have HJN : Hid (∀ wx, Tw.avoids (l ++ [c]) = false → Below wr.heap.size wr wx → Hid (J (pre ++ Tw.onTo l n (k + 1)) r' wx)) := fun wx h9 hb9 => by
        show J _ _ _
        rw [HON.out, if_neg (by rw [h9]; simp), List.append_nil]
        exact hA.1 _ _ _ _ HJk.out (SameOwn.of_below hb9 hlimk.1 (fun k e => (hlimk.2 k e).2))
      have hr1 : r' ≠ some R := HNk.out.ne (by omega) h1
      have hr2 : r' ≠ some M := HNk.out.ne (by omega) h2
      have HREC : Hid (∀ w5, Tw.avoids (l ++ [c]) = true → w5.ownsRow B 5 1 (.slice (some ⟨R, 0, none⟩) (l.length + 1) N) (l.length + 1) (bytesOf l ++ [.int .u8 (c.toNat : Int)]) → BeenAt w5 M (l.length + 1 + 1) (Tw.places l ++ [(x2, y2)]) → J (pre ++ Tw.onTo l n k) r' w5 →
          Calls Tryd.prog 44 #[.slice (some ⟨R, 0, none⟩) (l.length + 1) N, .agg #[.int .i64 x2, .int .i64 y2], .int .i64 (n : Int), .map (some M), .func (.yield lrec) #[] #[]] w5 (AvOut B N R M (l ++ [c]) J (pre ++ Tw.onTo l n (k + 1)) r' w5)) := fun w5 g1 g2 g3 g4 => by
        have hend2 : Tw.endOf (l ++ [c]) = (x2, y2) := by rw [← HSTEP.out]; unfold Tw.endOf; rw [List.foldl_append]; rfl
        have hnext : Tw.onTo l n (k + 1) = Tw.onTo l n k ++ Tw.onWalks (l ++ [c]) n := by rw [HON.out, if_pos g1]
        have hpre5 : (pre ++ Tw.onTo l n k) ++ Tw.onWalks (l ++ [c]) n <+: xs := by
          rw [List.append_assoc, ← hnext]
          exact ((List.prefix_append_right_inj pre).2 (Tw.onTo_prefix l n (k + 1))).trans HPRE.out
        have hst5 : AvSt B N R M (l ++ [c]) w5 := by
          unfold AvSt
          rw [List.length_append, List.length_singleton, bytesOf_snoc, HPL1.out]
          exact ⟨g2, g3⟩
        have := HIH.out (l ++ [c]) (pre ++ Tw.onTo l n k) r' w5 hst5 g1 (by rw [List.length_append, List.length_singleton]; omega) g4 hpre5 hr1 hr2
        rw [hend2, List.length_append, List.length_singleton, List.append_assoc, ← hnext] at this
        exact this
      clear hrow1
      rcases hk4 with ⟨rfl, rfl⟩ | ⟨rfl, rfl⟩ | ⟨rfl, rfl⟩ | ⟨rfl, rfl⟩
      · go_wp2_with fail
        go_cut [13] (fun p wx => ∃ Nx, p = .pointer (some ⟨Nx, 0, none⟩) ∧ wr.heap.size ≤ Nx ∧ Hid (wx.heap[Nx]? = some (.cells #[.int .i64 x2, .int .i64 y2] 54 (0, 0))) ∧ Below wr.heap.size wr wx)
        case first =>
          go_region_held3 (fun w' => w'.cell? ⟨A, 0, none⟩ = some (.int .i64 x) ∧ w'.cell? ⟨A, 1, none⟩ = some (.int .i64 y))
            (first
              | exact ⟨c0, c1⟩
              | exact ⟨(cell_alloc_old hlt1 _).trans c0, (cell_alloc_old hlt1 _).trans c1⟩
              | exact ⟨k0, k1⟩
              | exact ⟨(cell_alloc_old hlt3 _).trans k0, (cell_alloc_old hlt3 _).trans k1⟩
              | exact far_cells9 hA3 k0 k1)
            (first
              | (go_at_call 41; refine (dirOf_any _ _).mono ?_; rintro e w' ⟨rfl, rfl⟩)
              | (go_at_call 45; first
                  | (refine (stepped_to x y _ x2 y2 wr.drew HDR.out.drew hdc hd3 hxx hyy HX2.out HY2.out).mono ?_; rintro e w3 ⟨rfl, hb3⟩; obtain ⟨hbr, hlt3, k0, k1⟩ := near_step hb3 (.inr rfl) hlt1 c0 c1)
                  | (refine (stepped_to x y _ x2 y2 (wr.drew.alloc _) (HDR.out.drew.alloc _) hdc hd3 hxx hyy HX2.out HY2.out).mono ?_; rintro e w3 ⟨rfl, hb3⟩; obtain ⟨hbr, hlt3, k0, k1⟩ := near_step hb3 (.inl ⟨_, rfl⟩) hlt1 c0 c1; have e0 := (hb3.block wr.heap.size (by simp)).trans (heap_alloc_new wr.drew _); have n0 := cell_of_row _ _ 0 _ _ _ e0; have n1 := cell_of_row _ _ 1 _ _ _ e0; have f0 := frozen_of_row _ _ 0 _ _ e0; have f1 := frozen_of_row _ _ 1 _ _ e0; have hA3 : A ≠ wr.heap.size := Nat.ne_of_lt hlt1)))
          all_goals
            go_wp2_with fail
            go_meet
            first
              | exact ⟨_, rfl, hbr.size, heap_alloc_new w3 _, hbr.alloc hbr.size _⟩
              | exact ⟨_, rfl, Nat.le_refl _, two_setCell e0 _ _, (hbr.setCell (Nat.le_refl _) _).setCell (Nat.le_refl _) _⟩
        case rest =>
          obtain ⟨wa, rfl⟩ : ∃ wa : World, wa = wc := ⟨_, rfl⟩
          obtain ⟨Nx, rfl, hNx, HNX, hba⟩ := hcut
          have hsa := hba.size
          have hn0 := cell_of_row _ _ 0 _ _ _ HNX.out
          have hn1 := cell_of_row _ _ 1 _ _ _ HNX.out
          have hNa : Nx < wa.heap.size := lt_of_heap HNX.out
          have HSa := Lib.hid (HSk.out.below hba)
          obtain ⟨D, hmapa, hBeen⟩ := HSa.out.2
          obtain ⟨b, hb⟩ : ∃ b, (Tw.places l).contains (x2, y2) = b := ⟨_, rfl⟩
          have hhas := hBeen.2.2 _ HQ.out
          rw [hb] at hhas
          have hlk : (Instr.lookup 56 (.map (some M)) (.agg #[.int .i64 x2, .int .i64 y2]) true).run Tryd.prog wa = .ok (.tuple #[.agg #[], .bool b]) wa := look_run hmapa HKEY.out hhas
          have HAVb := HAV1.out
          rw [hb] at HAVb
          have HAV2 := Lib.hid HAVb
          have HBEEN := Lib.hid hBeen
          have HBB := Lib.hid hb
          clear hhas HAVb hBeen hb
          cases b
          rotate_left
          · go_wp2_with fail
            go_roundw
            case rel =>
              have hbx := hba.alloc hsa (.cells #[] 55)
              exact ⟨_, r', hlt4, rfl, HJN.out _ HAV2.out hbx, HNk.out, HSa.out.below ((Below.refl _ _).alloc (Nat.le_refl _) _), HKk.out.trans HNk.out (AvKept.of_below hbx)⟩
            case measure => simp [intOf]
          · go_upto_region 11 with (at_mapUpdate; refine wpList_mapUpdate_own _ rfl _ _ _ 56 rfl 54 55 placeLaw Tryd.underlying56 (unitElem (H := Unit)) M (l.length + 1) _ rfl (hmapa.alloc _) (by unfold maxLen; omega) _ _ _ rfl rfl HKEY.out _ [] unitElem_mk ?_; intro w4 hmap4 hgrow4)
            have s4 := hgrow4.size
            rw [World.size_alloc] at s4
            have hbx := hba.alloc hsa (.cells #[] 55)
            have hRa := HSa.out.row_lt
            have hMa := hmapa.lt
            have hNM : Nx ≠ M := by have := HSk.out.2.lt; omega
            have hNR : Nx ≠ R := by have := HSk.out.row_lt; omega
            have HNX4 : Hid (w4.heap[Nx]? = some (.cells #[.int .i64 x2, .int .i64 y2] 54 (0, 0))) := (hgrow4.block Nx (by simp; omega) (fun e => hNM (Option.some.inj e))).trans ((Below.heap_alloc _ _ _ hNa).trans HNX.out)
            have HO4 : Hid (w4.ownsRow B 5 1 (.slice (some ⟨R, 0, none⟩) l.length N) l.length (bytesOf l)) := own_same HSa.out.1 ((hgrow4.block R (by simp; omega) (fun e => hRM (Option.some.inj e))).trans (Below.heap_alloc _ _ _ hRa))
            have HB4 : Hid (BeenAt w4 M (l.length + 1 + 1) (Tw.places l ++ [(x2, y2)])) := BeenAt.tight hmap4 (HBEEN.out.put HQ.out HBB.out)
            have HJ4 : Hid (J (pre ++ Tw.onTo l n _) r' w4) := hA.1 _ _ _ _ (hA.1 _ _ _ _ HJk.out (SameOwn.of_below hbx hlimk.1 (fun k e => (hlimk.2 k e).2))) (SameOwn.grown hgrow4 (by simp; omega) (fun k e => by have := (hlimk.2 k e).2; simp; omega) (fun k e => by cases e; exact ⟨hM, hr2⟩))
            have HK4 : Hid (AvKept B R M r W w4) := (HKk.out.trans HNk.out (AvKept.of_below hbx)).trans HNk.out (AvKept.grown hgrow4 (fun k e => by cases e; exact .inr rfl))
            have m0 := cell_of_row _ _ 0 _ _ _ HNX4.out
            have m1 := cell_of_row _ _ 1 _ _ _ HNX4.out
            have hN4 : Nx < w4.heap.size := lt_of_heap HNX4.out
            clear hlk hmapa hmap4 hgrow4 hn0 hn1 c0 c1
            go_frame
            go_region_held3 (fun w' => w'.cell? ⟨Nx, 0, none⟩ = some (.int .i64 x2) ∧ w'.cell? ⟨Nx, 1, none⟩ = some (.int .i64 y2))
              (first
                | exact ⟨m0, m1⟩
                | exact ⟨(cell_alloc_old hN4 _).trans m0, (cell_alloc_old hN4 _).trans m1⟩
                | exact ⟨p0, p1⟩
                | exact ⟨k0, k1⟩)
              (first
                | (refine step_append_fits (by rfl) _ _ _ (by rfl) B 5 i0 1 Tryd.underlying28 hi0 hi1 R l.length N (bytesOf l) (by rfl) (HO4.out.drew.alloc _) ⟨w4.heap.size, 0, none⟩ 1 1 [.int .u8 ((101 : UInt8).toNat : Int)] (by rfl) (by rfl) (World.news_of_block (cs := #[.int .u8 ((101 : UInt8).toNat : Int)]) (t := 5) (fr := (0, 0)) (heap_alloc_new w4.drew _)) (by simp [Value.oneCell']) (by omega) ?_; intro w5 hown5 hgrow5; have s5 := hgrow5.size; have hN5 := (hgrow5.block Nx (by simp; omega) (fun e => hNR (Option.some.inj e))).trans ((Below.heap_alloc _ _ _ (by simpa using hN4)).trans HNX4.out); have k0 := cell_of_row _ _ 0 _ _ _ hN5; have k1 := cell_of_row _ _ 1 _ _ _ hN5)
                | (go_at_call 44; refine (HREC.out _ HAV2.out hown5 (HB4.out.kept ((hgrow5.block M (by simp; have := HB4.out.lt; omega) (fun e => hRM (Option.some.inj e).symm)).trans (Below.heap_alloc _ _ _ HB4.out.lt))) (hA.1 _ _ _ _ (hA.1 _ _ _ _ HJ4.out (SameOwn.of_below (((Below.refl _ _).drew).alloc (Nat.le_refl _) _) (hA.2 _ _ _ HJ4.out).1 (fun k e => ((hA.2 _ _ _ HJ4.out).2 k e).2))) (SameOwn.grown hgrow5 (by have := (hA.2 _ _ _ HJ4.out).1; simp; omega) (fun k e => by have := ((hA.2 _ _ _ HJ4.out).2 k e).2; simp; omega) (fun k e => by cases e; exact ⟨hR, hr1⟩)))).mono ?_; rintro e w6 ⟨rfl, r6, hJ6, hN6, hst6, hk6⟩; have hN6c := (hk6.2 Nx (by omega) (lt_of_heap hN5) (fun e => by have := (hlimk.2 Nx e).2; omega) hNR hNM).trans hN5; have p0 := cell_of_row _ _ 0 _ _ _ hN6c; have p1 := cell_of_row _ _ 1 _ _ _ hN6c))
            obtain ⟨D6, hmap6, hBeen6⟩ := hst6.2
            rw [List.length_append, List.length_singleton] at hmap6 hBeen6
            have HBE6 := Lib.hid hBeen6
            clear hBeen6
            have s5x : w4.heap.size < w5.heap.size := by simp at s5; omega
            have hr6 : r6 ≠ some M := hN6.ne (by have := HB4.out.lt; omega) hr2
            have hs6 := hk6.1
            go_wp2_with (at_delete; refine wpList_delete_own _ rfl _ _ 56 54 rfl 55 placeLaw Tryd.underlying56 (unitElem (H := Unit)) M _ D6 rfl hmap6 _ _ rfl HKEY.out ?_; intro w7 hmap7 hturn7)
            have hgrow7 := hturn7.grown
            go_roundw
            case rel =>
              have hsW5 : W.heap.size ≤ w5.heap.size := by have := HK4.out.1; omega
              have hN7 := HNk.out.trans hsW5 hN6
              refine ⟨_, r6, hlt4, rfl, (by show J _ _ _; exact hA.1 _ _ _ _ hJ6 (SameOwn.grown hgrow7 (hA.2 _ _ _ hJ6).1 (fun k e => ((hA.2 _ _ _ hJ6).2 k e).2) (fun k e => by cases e; exact ⟨hM, hr6⟩))), hN7, ⟨?_, ?_⟩, ?_⟩
              · have hown6 := hst6.1
                rw [List.length_append, List.length_singleton, bytesOf_snoc] at hown6
                exact own_same (own_shorter hown6 (by simp [bytesOf]) (by omega)) (hgrow7.block R hst6.row_lt (fun e => hRM (Option.some.inj e)))
              · have hb6 := HBE6.out
                rw [HPL1.out] at hb6
                exact BeenAt.tight hmap7 (hb6.del HQ.out HBB.out)
              · refine (((HK4.out.trans HNk.out (AvKept.of_below (((Below.refl _ _).drew).alloc (Nat.le_refl _) _))).trans HNk.out (AvKept.grown hgrow5 (fun k e => by cases e; exact .inl rfl))).trans HNk.out hk6).trans hN7 (AvKept.grown hgrow7 (fun k e => by cases e; exact .inr rfl))
            case measure => simp [intOf]
      · go_wp2_with fail
        go_cut [13] (fun p wx => ∃ Nx, p = .pointer (some ⟨Nx, 0, none⟩) ∧ wr.heap.size ≤ Nx ∧ Hid (wx.heap[Nx]? = some (.cells #[.int .i64 x2, .int .i64 y2] 54 (0, 0))) ∧ Below wr.heap.size wr wx)
        case first =>
          go_region_held3 (fun w' => w'.cell? ⟨A, 0, none⟩ = some (.int .i64 x) ∧ w'.cell? ⟨A, 1, none⟩ = some (.int .i64 y))
            (first
              | exact ⟨c0, c1⟩
              | exact ⟨(cell_alloc_old hlt1 _).trans c0, (cell_alloc_old hlt1 _).trans c1⟩
              | exact ⟨k0, k1⟩
              | exact ⟨(cell_alloc_old hlt3 _).trans k0, (cell_alloc_old hlt3 _).trans k1⟩
              | exact far_cells9 hA3 k0 k1)
            (first
              | (go_at_call 41; refine (dirOf_any _ _).mono ?_; rintro e w' ⟨rfl, rfl⟩)
              | (go_at_call 45; first
                  | (refine (stepped_to x y _ x2 y2 wr.drew HDR.out.drew hdc hd3 hxx hyy HX2.out HY2.out).mono ?_; rintro e w3 ⟨rfl, hb3⟩; obtain ⟨hbr, hlt3, k0, k1⟩ := near_step hb3 (.inr rfl) hlt1 c0 c1)
                  | (refine (stepped_to x y _ x2 y2 (wr.drew.alloc _) (HDR.out.drew.alloc _) hdc hd3 hxx hyy HX2.out HY2.out).mono ?_; rintro e w3 ⟨rfl, hb3⟩; obtain ⟨hbr, hlt3, k0, k1⟩ := near_step hb3 (.inl ⟨_, rfl⟩) hlt1 c0 c1; have e0 := (hb3.block wr.heap.size (by simp)).trans (heap_alloc_new wr.drew _); have n0 := cell_of_row _ _ 0 _ _ _ e0; have n1 := cell_of_row _ _ 1 _ _ _ e0; have f0 := frozen_of_row _ _ 0 _ _ e0; have f1 := frozen_of_row _ _ 1 _ _ e0; have hA3 : A ≠ wr.heap.size := Nat.ne_of_lt hlt1)))
          all_goals
            go_wp2_with fail
            go_meet
            first
              | exact ⟨_, rfl, hbr.size, heap_alloc_new w3 _, hbr.alloc hbr.size _⟩
              | exact ⟨_, rfl, Nat.le_refl _, two_setCell e0 _ _, (hbr.setCell (Nat.le_refl _) _).setCell (Nat.le_refl _) _⟩
        case rest =>
          obtain ⟨wa, rfl⟩ : ∃ wa : World, wa = wc := ⟨_, rfl⟩
          obtain ⟨Nx, rfl, hNx, HNX, hba⟩ := hcut
          have hsa := hba.size
          have hn0 := cell_of_row _ _ 0 _ _ _ HNX.out
          have hn1 := cell_of_row _ _ 1 _ _ _ HNX.out
          have hNa : Nx < wa.heap.size := lt_of_heap HNX.out
          have HSa := Lib.hid (HSk.out.below hba)
          obtain ⟨D, hmapa, hBeen⟩ := HSa.out.2
          obtain ⟨b, hb⟩ : ∃ b, (Tw.places l).contains (x2, y2) = b := ⟨_, rfl⟩
          have hhas := hBeen.2.2 _ HQ.out
          rw [hb] at hhas
          have hlk : (Instr.lookup 56 (.map (some M)) (.agg #[.int .i64 x2, .int .i64 y2]) true).run Tryd.prog wa = .ok (.tuple #[.agg #[], .bool b]) wa := look_run hmapa HKEY.out hhas
          have HAVb := HAV1.out
          rw [hb] at HAVb
          have HAV2 := Lib.hid HAVb
          have HBEEN := Lib.hid hBeen
          have HBB := Lib.hid hb
          clear hhas HAVb hBeen hb
          cases b
          rotate_left
          · go_wp2_with fail
            go_roundw
            case rel =>
              have hbx := hba.alloc hsa (.cells #[] 55)
              exact ⟨_, r', hlt4, rfl, HJN.out _ HAV2.out hbx, HNk.out, HSa.out.below ((Below.refl _ _).alloc (Nat.le_refl _) _), HKk.out.trans HNk.out (AvKept.of_below hbx)⟩
            case measure => simp [intOf]
          · go_upto_region 11 with (at_mapUpdate; refine wpList_mapUpdate_own _ rfl _ _ _ 56 rfl 54 55 placeLaw Tryd.underlying56 (unitElem (H := Unit)) M (l.length + 1) _ rfl (hmapa.alloc _) (by unfold maxLen; omega) _ _ _ rfl rfl HKEY.out _ [] unitElem_mk ?_; intro w4 hmap4 hgrow4)
            have s4 := hgrow4.size
            rw [World.size_alloc] at s4
            have hbx := hba.alloc hsa (.cells #[] 55)
            have hRa := HSa.out.row_lt
            have hMa := hmapa.lt
            have hNM : Nx ≠ M := by have := HSk.out.2.lt; omega
            have hNR : Nx ≠ R := by have := HSk.out.row_lt; omega
            have HNX4 : Hid (w4.heap[Nx]? = some (.cells #[.int .i64 x2, .int .i64 y2] 54 (0, 0))) := (hgrow4.block Nx (by simp; omega) (fun e => hNM (Option.some.inj e))).trans ((Below.heap_alloc _ _ _ hNa).trans HNX.out)
            have HO4 : Hid (w4.ownsRow B 5 1 (.slice (some ⟨R, 0, none⟩) l.length N) l.length (bytesOf l)) := own_same HSa.out.1 ((hgrow4.block R (by simp; omega) (fun e => hRM (Option.some.inj e))).trans (Below.heap_alloc _ _ _ hRa))
            have HB4 : Hid (BeenAt w4 M (l.length + 1 + 1) (Tw.places l ++ [(x2, y2)])) := BeenAt.tight hmap4 (HBEEN.out.put HQ.out HBB.out)
            have HJ4 : Hid (J (pre ++ Tw.onTo l n _) r' w4) := hA.1 _ _ _ _ (hA.1 _ _ _ _ HJk.out (SameOwn.of_below hbx hlimk.1 (fun k e => (hlimk.2 k e).2))) (SameOwn.grown hgrow4 (by simp; omega) (fun k e => by have := (hlimk.2 k e).2; simp; omega) (fun k e => by cases e; exact ⟨hM, hr2⟩))
            have HK4 : Hid (AvKept B R M r W w4) := (HKk.out.trans HNk.out (AvKept.of_below hbx)).trans HNk.out (AvKept.grown hgrow4 (fun k e => by cases e; exact .inr rfl))
            have m0 := cell_of_row _ _ 0 _ _ _ HNX4.out
            have m1 := cell_of_row _ _ 1 _ _ _ HNX4.out
            have hN4 : Nx < w4.heap.size := lt_of_heap HNX4.out
            clear hlk hmapa hmap4 hgrow4 hn0 hn1 c0 c1
            go_frame
            go_region_held3 (fun w' => w'.cell? ⟨Nx, 0, none⟩ = some (.int .i64 x2) ∧ w'.cell? ⟨Nx, 1, none⟩ = some (.int .i64 y2))
              (first
                | exact ⟨m0, m1⟩
                | exact ⟨(cell_alloc_old hN4 _).trans m0, (cell_alloc_old hN4 _).trans m1⟩
                | exact ⟨p0, p1⟩
                | exact ⟨k0, k1⟩)
              (first
                | (refine step_append_fits (by rfl) _ _ _ (by rfl) B 5 i0 1 Tryd.underlying28 hi0 hi1 R l.length N (bytesOf l) (by rfl) (HO4.out.drew.alloc _) ⟨w4.heap.size, 0, none⟩ 1 1 [.int .u8 ((110 : UInt8).toNat : Int)] (by rfl) (by rfl) (World.news_of_block (cs := #[.int .u8 ((110 : UInt8).toNat : Int)]) (t := 5) (fr := (0, 0)) (heap_alloc_new w4.drew _)) (by simp [Value.oneCell']) (by omega) ?_; intro w5 hown5 hgrow5; have s5 := hgrow5.size; have hN5 := (hgrow5.block Nx (by simp; omega) (fun e => hNR (Option.some.inj e))).trans ((Below.heap_alloc _ _ _ (by simpa using hN4)).trans HNX4.out); have k0 := cell_of_row _ _ 0 _ _ _ hN5; have k1 := cell_of_row _ _ 1 _ _ _ hN5)
                | (go_at_call 44; refine (HREC.out _ HAV2.out hown5 (HB4.out.kept ((hgrow5.block M (by simp; have := HB4.out.lt; omega) (fun e => hRM (Option.some.inj e).symm)).trans (Below.heap_alloc _ _ _ HB4.out.lt))) (hA.1 _ _ _ _ (hA.1 _ _ _ _ HJ4.out (SameOwn.of_below (((Below.refl _ _).drew).alloc (Nat.le_refl _) _) (hA.2 _ _ _ HJ4.out).1 (fun k e => ((hA.2 _ _ _ HJ4.out).2 k e).2))) (SameOwn.grown hgrow5 (by have := (hA.2 _ _ _ HJ4.out).1; simp; omega) (fun k e => by have := ((hA.2 _ _ _ HJ4.out).2 k e).2; simp; omega) (fun k e => by cases e; exact ⟨hR, hr1⟩)))).mono ?_; rintro e w6 ⟨rfl, r6, hJ6, hN6, hst6, hk6⟩; have hN6c := (hk6.2 Nx (by omega) (lt_of_heap hN5) (fun e => by have := (hlimk.2 Nx e).2; omega) hNR hNM).trans hN5; have p0 := cell_of_row _ _ 0 _ _ _ hN6c; have p1 := cell_of_row _ _ 1 _ _ _ hN6c))
            obtain ⟨D6, hmap6, hBeen6⟩ := hst6.2
            rw [List.length_append, List.length_singleton] at hmap6 hBeen6
            have HBE6 := Lib.hid hBeen6
            clear hBeen6
            have s5x : w4.heap.size < w5.heap.size := by simp at s5; omega
            have hr6 : r6 ≠ some M := hN6.ne (by have := HB4.out.lt; omega) hr2
            have hs6 := hk6.1
            go_wp2_with (at_delete; refine wpList_delete_own _ rfl _ _ 56 54 rfl 55 placeLaw Tryd.underlying56 (unitElem (H := Unit)) M _ D6 rfl hmap6 _ _ rfl HKEY.out ?_; intro w7 hmap7 hturn7)
            have hgrow7 := hturn7.grown
            go_roundw
            case rel =>
              have hsW5 : W.heap.size ≤ w5.heap.size := by have := HK4.out.1; omega
              have hN7 := HNk.out.trans hsW5 hN6
              refine ⟨_, r6, hlt4, rfl, (by show J _ _ _; exact hA.1 _ _ _ _ hJ6 (SameOwn.grown hgrow7 (hA.2 _ _ _ hJ6).1 (fun k e => ((hA.2 _ _ _ hJ6).2 k e).2) (fun k e => by cases e; exact ⟨hM, hr6⟩))), hN7, ⟨?_, ?_⟩, ?_⟩
              · have hown6 := hst6.1
                rw [List.length_append, List.length_singleton, bytesOf_snoc] at hown6
                exact own_same (own_shorter hown6 (by simp [bytesOf]) (by omega)) (hgrow7.block R hst6.row_lt (fun e => hRM (Option.some.inj e)))
              · have hb6 := HBE6.out
                rw [HPL1.out] at hb6
                exact BeenAt.tight hmap7 (hb6.del HQ.out HBB.out)
              · refine (((HK4.out.trans HNk.out (AvKept.of_below (((Below.refl _ _).drew).alloc (Nat.le_refl _) _))).trans HNk.out (AvKept.grown hgrow5 (fun k e => by cases e; exact .inl rfl))).trans HNk.out hk6).trans hN7 (AvKept.grown hgrow7 (fun k e => by cases e; exact .inr rfl))
            case measure => simp [intOf]
      · go_wp2_with fail
        go_cut [13] (fun p wx => ∃ Nx, p = .pointer (some ⟨Nx, 0, none⟩) ∧ wr.heap.size ≤ Nx ∧ Hid (wx.heap[Nx]? = some (.cells #[.int .i64 x2, .int .i64 y2] 54 (0, 0))) ∧ Below wr.heap.size wr wx)
        case first =>
          go_region_held3 (fun w' => w'.cell? ⟨A, 0, none⟩ = some (.int .i64 x) ∧ w'.cell? ⟨A, 1, none⟩ = some (.int .i64 y))
            (first
              | exact ⟨c0, c1⟩
              | exact ⟨(cell_alloc_old hlt1 _).trans c0, (cell_alloc_old hlt1 _).trans c1⟩
              | exact ⟨k0, k1⟩
              | exact ⟨(cell_alloc_old hlt3 _).trans k0, (cell_alloc_old hlt3 _).trans k1⟩
              | exact far_cells9 hA3 k0 k1)
            (first
              | (go_at_call 41; refine (dirOf_any _ _).mono ?_; rintro e w' ⟨rfl, rfl⟩)
              | (go_at_call 45; first
                  | (refine (stepped_to x y _ x2 y2 wr.drew HDR.out.drew hdc hd3 hxx hyy HX2.out HY2.out).mono ?_; rintro e w3 ⟨rfl, hb3⟩; obtain ⟨hbr, hlt3, k0, k1⟩ := near_step hb3 (.inr rfl) hlt1 c0 c1)
                  | (refine (stepped_to x y _ x2 y2 (wr.drew.alloc _) (HDR.out.drew.alloc _) hdc hd3 hxx hyy HX2.out HY2.out).mono ?_; rintro e w3 ⟨rfl, hb3⟩; obtain ⟨hbr, hlt3, k0, k1⟩ := near_step hb3 (.inl ⟨_, rfl⟩) hlt1 c0 c1; have e0 := (hb3.block wr.heap.size (by simp)).trans (heap_alloc_new wr.drew _); have n0 := cell_of_row _ _ 0 _ _ _ e0; have n1 := cell_of_row _ _ 1 _ _ _ e0; have f0 := frozen_of_row _ _ 0 _ _ e0; have f1 := frozen_of_row _ _ 1 _ _ e0; have hA3 : A ≠ wr.heap.size := Nat.ne_of_lt hlt1)))
          all_goals
            go_wp2_with fail
            go_meet
            first
              | exact ⟨_, rfl, hbr.size, heap_alloc_new w3 _, hbr.alloc hbr.size _⟩
              | exact ⟨_, rfl, Nat.le_refl _, two_setCell e0 _ _, (hbr.setCell (Nat.le_refl _) _).setCell (Nat.le_refl _) _⟩
        case rest =>
          obtain ⟨wa, rfl⟩ : ∃ wa : World, wa = wc := ⟨_, rfl⟩
          obtain ⟨Nx, rfl, hNx, HNX, hba⟩ := hcut
          have hsa := hba.size
          have hn0 := cell_of_row _ _ 0 _ _ _ HNX.out
          have hn1 := cell_of_row _ _ 1 _ _ _ HNX.out
          have hNa : Nx < wa.heap.size := lt_of_heap HNX.out
          have HSa := Lib.hid (HSk.out.below hba)
          obtain ⟨D, hmapa, hBeen⟩ := HSa.out.2
          obtain ⟨b, hb⟩ : ∃ b, (Tw.places l).contains (x2, y2) = b := ⟨_, rfl⟩
          have hhas := hBeen.2.2 _ HQ.out
          rw [hb] at hhas
          have hlk : (Instr.lookup 56 (.map (some M)) (.agg #[.int .i64 x2, .int .i64 y2]) true).run Tryd.prog wa = .ok (.tuple #[.agg #[], .bool b]) wa := look_run hmapa HKEY.out hhas
          have HAVb := HAV1.out
          rw [hb] at HAVb
          have HAV2 := Lib.hid HAVb
          have HBEEN := Lib.hid hBeen
          have HBB := Lib.hid hb
          clear hhas HAVb hBeen hb
          cases b
          rotate_left
          · go_wp2_with fail
            go_roundw
            case rel =>
              have hbx := hba.alloc hsa (.cells #[] 55)
              exact ⟨_, r', hlt4, rfl, HJN.out _ HAV2.out hbx, HNk.out, HSa.out.below ((Below.refl _ _).alloc (Nat.le_refl _) _), HKk.out.trans HNk.out (AvKept.of_below hbx)⟩
            case measure => simp [intOf]
          · go_upto_region 11 with (at_mapUpdate; refine wpList_mapUpdate_own _ rfl _ _ _ 56 rfl 54 55 placeLaw Tryd.underlying56 (unitElem (H := Unit)) M (l.length + 1) _ rfl (hmapa.alloc _) (by unfold maxLen; omega) _ _ _ rfl rfl HKEY.out _ [] unitElem_mk ?_; intro w4 hmap4 hgrow4)
            have s4 := hgrow4.size
            rw [World.size_alloc] at s4
            have hbx := hba.alloc hsa (.cells #[] 55)
            have hRa := HSa.out.row_lt
            have hMa := hmapa.lt
            have hNM : Nx ≠ M := by have := HSk.out.2.lt; omega
            have hNR : Nx ≠ R := by have := HSk.out.row_lt; omega
            have HNX4 : Hid (w4.heap[Nx]? = some (.cells #[.int .i64 x2, .int .i64 y2] 54 (0, 0))) := (hgrow4.block Nx (by simp; omega) (fun e => hNM (Option.some.inj e))).trans ((Below.heap_alloc _ _ _ hNa).trans HNX.out)
            have HO4 : Hid (w4.ownsRow B 5 1 (.slice (some ⟨R, 0, none⟩) l.length N) l.length (bytesOf l)) := own_same HSa.out.1 ((hgrow4.block R (by simp; omega) (fun e => hRM (Option.some.inj e))).trans (Below.heap_alloc _ _ _ hRa))
            have HB4 : Hid (BeenAt w4 M (l.length + 1 + 1) (Tw.places l ++ [(x2, y2)])) := BeenAt.tight hmap4 (HBEEN.out.put HQ.out HBB.out)
            have HJ4 : Hid (J (pre ++ Tw.onTo l n _) r' w4) := hA.1 _ _ _ _ (hA.1 _ _ _ _ HJk.out (SameOwn.of_below hbx hlimk.1 (fun k e => (hlimk.2 k e).2))) (SameOwn.grown hgrow4 (by simp; omega) (fun k e => by have := (hlimk.2 k e).2; simp; omega) (fun k e => by cases e; exact ⟨hM, hr2⟩))
            have HK4 : Hid (AvKept B R M r W w4) := (HKk.out.trans HNk.out (AvKept.of_below hbx)).trans HNk.out (AvKept.grown hgrow4 (fun k e => by cases e; exact .inr rfl))
            have m0 := cell_of_row _ _ 0 _ _ _ HNX4.out
            have m1 := cell_of_row _ _ 1 _ _ _ HNX4.out
            have hN4 : Nx < w4.heap.size := lt_of_heap HNX4.out
            clear hlk hmapa hmap4 hgrow4 hn0 hn1 c0 c1
            go_frame
            go_region_held3 (fun w' => w'.cell? ⟨Nx, 0, none⟩ = some (.int .i64 x2) ∧ w'.cell? ⟨Nx, 1, none⟩ = some (.int .i64 y2))
              (first
                | exact ⟨m0, m1⟩
                | exact ⟨(cell_alloc_old hN4 _).trans m0, (cell_alloc_old hN4 _).trans m1⟩
                | exact ⟨p0, p1⟩
                | exact ⟨k0, k1⟩)
              (first
                | (refine step_append_fits (by rfl) _ _ _ (by rfl) B 5 i0 1 Tryd.underlying28 hi0 hi1 R l.length N (bytesOf l) (by rfl) (HO4.out.drew.alloc _) ⟨w4.heap.size, 0, none⟩ 1 1 [.int .u8 ((115 : UInt8).toNat : Int)] (by rfl) (by rfl) (World.news_of_block (cs := #[.int .u8 ((115 : UInt8).toNat : Int)]) (t := 5) (fr := (0, 0)) (heap_alloc_new w4.drew _)) (by simp [Value.oneCell']) (by omega) ?_; intro w5 hown5 hgrow5; have s5 := hgrow5.size; have hN5 := (hgrow5.block Nx (by simp; omega) (fun e => hNR (Option.some.inj e))).trans ((Below.heap_alloc _ _ _ (by simpa using hN4)).trans HNX4.out); have k0 := cell_of_row _ _ 0 _ _ _ hN5; have k1 := cell_of_row _ _ 1 _ _ _ hN5)
                | (go_at_call 44; refine (HREC.out _ HAV2.out hown5 (HB4.out.kept ((hgrow5.block M (by simp; have := HB4.out.lt; omega) (fun e => hRM (Option.some.inj e).symm)).trans (Below.heap_alloc _ _ _ HB4.out.lt))) (hA.1 _ _ _ _ (hA.1 _ _ _ _ HJ4.out (SameOwn.of_below (((Below.refl _ _).drew).alloc (Nat.le_refl _) _) (hA.2 _ _ _ HJ4.out).1 (fun k e => ((hA.2 _ _ _ HJ4.out).2 k e).2))) (SameOwn.grown hgrow5 (by have := (hA.2 _ _ _ HJ4.out).1; simp; omega) (fun k e => by have := ((hA.2 _ _ _ HJ4.out).2 k e).2; simp; omega) (fun k e => by cases e; exact ⟨hR, hr1⟩)))).mono ?_; rintro e w6 ⟨rfl, r6, hJ6, hN6, hst6, hk6⟩; have hN6c := (hk6.2 Nx (by omega) (lt_of_heap hN5) (fun e => by have := (hlimk.2 Nx e).2; omega) hNR hNM).trans hN5; have p0 := cell_of_row _ _ 0 _ _ _ hN6c; have p1 := cell_of_row _ _ 1 _ _ _ hN6c))
            obtain ⟨D6, hmap6, hBeen6⟩ := hst6.2
            rw [List.length_append, List.length_singleton] at hmap6 hBeen6
            have HBE6 := Lib.hid hBeen6
            clear hBeen6
            have s5x : w4.heap.size < w5.heap.size := by simp at s5; omega
            have hr6 : r6 ≠ some M := hN6.ne (by have := HB4.out.lt; omega) hr2
            have hs6 := hk6.1
            go_wp2_with (at_delete; refine wpList_delete_own _ rfl _ _ 56 54 rfl 55 placeLaw Tryd.underlying56 (unitElem (H := Unit)) M _ D6 rfl hmap6 _ _ rfl HKEY.out ?_; intro w7 hmap7 hturn7)
            have hgrow7 := hturn7.grown
            go_roundw
            case rel =>
              have hsW5 : W.heap.size ≤ w5.heap.size := by have := HK4.out.1; omega
              have hN7 := HNk.out.trans hsW5 hN6
              refine ⟨_, r6, hlt4, rfl, (by show J _ _ _; exact hA.1 _ _ _ _ hJ6 (SameOwn.grown hgrow7 (hA.2 _ _ _ hJ6).1 (fun k e => ((hA.2 _ _ _ hJ6).2 k e).2) (fun k e => by cases e; exact ⟨hM, hr6⟩))), hN7, ⟨?_, ?_⟩, ?_⟩
              · have hown6 := hst6.1
                rw [List.length_append, List.length_singleton, bytesOf_snoc] at hown6
                exact own_same (own_shorter hown6 (by simp [bytesOf]) (by omega)) (hgrow7.block R hst6.row_lt (fun e => hRM (Option.some.inj e)))
              · have hb6 := HBE6.out
                rw [HPL1.out] at hb6
                exact BeenAt.tight hmap7 (hb6.del HQ.out HBB.out)
              · refine (((HK4.out.trans HNk.out (AvKept.of_below (((Below.refl _ _).drew).alloc (Nat.le_refl _) _))).trans HNk.out (AvKept.grown hgrow5 (fun k e => by cases e; exact .inl rfl))).trans HNk.out hk6).trans hN7 (AvKept.grown hgrow7 (fun k e => by cases e; exact .inr rfl))
            case measure => simp [intOf]
      · go_wp2_with fail
        go_cut [13] (fun p wx => ∃ Nx, p = .pointer (some ⟨Nx, 0, none⟩) ∧ wr.heap.size ≤ Nx ∧ Hid (wx.heap[Nx]? = some (.cells #[.int .i64 x2, .int .i64 y2] 54 (0, 0))) ∧ Below wr.heap.size wr wx)
        case first =>
          go_region_held3 (fun w' => w'.cell? ⟨A, 0, none⟩ = some (.int .i64 x) ∧ w'.cell? ⟨A, 1, none⟩ = some (.int .i64 y))
            (first
              | exact ⟨c0, c1⟩
              | exact ⟨(cell_alloc_old hlt1 _).trans c0, (cell_alloc_old hlt1 _).trans c1⟩
              | exact ⟨k0, k1⟩
              | exact ⟨(cell_alloc_old hlt3 _).trans k0, (cell_alloc_old hlt3 _).trans k1⟩
              | exact far_cells9 hA3 k0 k1)
            (first
              | (go_at_call 41; refine (dirOf_any _ _).mono ?_; rintro e w' ⟨rfl, rfl⟩)
              | (go_at_call 45; first
                  | (refine (stepped_to x y _ x2 y2 wr.drew HDR.out.drew hdc hd3 hxx hyy HX2.out HY2.out).mono ?_; rintro e w3 ⟨rfl, hb3⟩; obtain ⟨hbr, hlt3, k0, k1⟩ := near_step hb3 (.inr rfl) hlt1 c0 c1)
                  | (refine (stepped_to x y _ x2 y2 (wr.drew.alloc _) (HDR.out.drew.alloc _) hdc hd3 hxx hyy HX2.out HY2.out).mono ?_; rintro e w3 ⟨rfl, hb3⟩; obtain ⟨hbr, hlt3, k0, k1⟩ := near_step hb3 (.inl ⟨_, rfl⟩) hlt1 c0 c1; have e0 := (hb3.block wr.heap.size (by simp)).trans (heap_alloc_new wr.drew _); have n0 := cell_of_row _ _ 0 _ _ _ e0; have n1 := cell_of_row _ _ 1 _ _ _ e0; have f0 := frozen_of_row _ _ 0 _ _ e0; have f1 := frozen_of_row _ _ 1 _ _ e0; have hA3 : A ≠ wr.heap.size := Nat.ne_of_lt hlt1)))
          all_goals
            go_wp2_with fail
            go_meet
            first
              | exact ⟨_, rfl, hbr.size, heap_alloc_new w3 _, hbr.alloc hbr.size _⟩
              | exact ⟨_, rfl, Nat.le_refl _, two_setCell e0 _ _, (hbr.setCell (Nat.le_refl _) _).setCell (Nat.le_refl _) _⟩
        case rest =>
          obtain ⟨wa, rfl⟩ : ∃ wa : World, wa = wc := ⟨_, rfl⟩
          obtain ⟨Nx, rfl, hNx, HNX, hba⟩ := hcut
          have hsa := hba.size
          have hn0 := cell_of_row _ _ 0 _ _ _ HNX.out
          have hn1 := cell_of_row _ _ 1 _ _ _ HNX.out
          have hNa : Nx < wa.heap.size := lt_of_heap HNX.out
          have HSa := Lib.hid (HSk.out.below hba)
          obtain ⟨D, hmapa, hBeen⟩ := HSa.out.2
          obtain ⟨b, hb⟩ : ∃ b, (Tw.places l).contains (x2, y2) = b := ⟨_, rfl⟩
          have hhas := hBeen.2.2 _ HQ.out
          rw [hb] at hhas
          have hlk : (Instr.lookup 56 (.map (some M)) (.agg #[.int .i64 x2, .int .i64 y2]) true).run Tryd.prog wa = .ok (.tuple #[.agg #[], .bool b]) wa := look_run hmapa HKEY.out hhas
          have HAVb := HAV1.out
          rw [hb] at HAVb
          have HAV2 := Lib.hid HAVb
          have HBEEN := Lib.hid hBeen
          have HBB := Lib.hid hb
          clear hhas HAVb hBeen hb
          cases b
          rotate_left
          · go_wp2_with fail
            go_roundw
            case rel =>
              have hbx := hba.alloc hsa (.cells #[] 55)
              exact ⟨_, r', hlt4, rfl, HJN.out _ HAV2.out hbx, HNk.out, HSa.out.below ((Below.refl _ _).alloc (Nat.le_refl _) _), HKk.out.trans HNk.out (AvKept.of_below hbx)⟩
            case measure => simp [intOf]
          · go_upto_region 11 with (at_mapUpdate; refine wpList_mapUpdate_own _ rfl _ _ _ 56 rfl 54 55 placeLaw Tryd.underlying56 (unitElem (H := Unit)) M (l.length + 1) _ rfl (hmapa.alloc _) (by unfold maxLen; omega) _ _ _ rfl rfl HKEY.out _ [] unitElem_mk ?_; intro w4 hmap4 hgrow4)
            have s4 := hgrow4.size
            rw [World.size_alloc] at s4
            have hbx := hba.alloc hsa (.cells #[] 55)
            have hRa := HSa.out.row_lt
            have hMa := hmapa.lt
            have hNM : Nx ≠ M := by have := HSk.out.2.lt; omega
            have hNR : Nx ≠ R := by have := HSk.out.row_lt; omega
            have HNX4 : Hid (w4.heap[Nx]? = some (.cells #[.int .i64 x2, .int .i64 y2] 54 (0, 0))) := (hgrow4.block Nx (by simp; omega) (fun e => hNM (Option.some.inj e))).trans ((Below.heap_alloc _ _ _ hNa).trans HNX.out)
            have HO4 : Hid (w4.ownsRow B 5 1 (.slice (some ⟨R, 0, none⟩) l.length N) l.length (bytesOf l)) := own_same HSa.out.1 ((hgrow4.block R (by simp; omega) (fun e => hRM (Option.some.inj e))).trans (Below.heap_alloc _ _ _ hRa))
            have HB4 : Hid (BeenAt w4 M (l.length + 1 + 1) (Tw.places l ++ [(x2, y2)])) := BeenAt.tight hmap4 (HBEEN.out.put HQ.out HBB.out)
            have HJ4 : Hid (J (pre ++ Tw.onTo l n _) r' w4) := hA.1 _ _ _ _ (hA.1 _ _ _ _ HJk.out (SameOwn.of_below hbx hlimk.1 (fun k e => (hlimk.2 k e).2))) (SameOwn.grown hgrow4 (by simp; omega) (fun k e => by have := (hlimk.2 k e).2; simp; omega) (fun k e => by cases e; exact ⟨hM, hr2⟩))
            have HK4 : Hid (AvKept B R M r W w4) := (HKk.out.trans HNk.out (AvKept.of_below hbx)).trans HNk.out (AvKept.grown hgrow4 (fun k e => by cases e; exact .inr rfl))
            have m0 := cell_of_row _ _ 0 _ _ _ HNX4.out
            have m1 := cell_of_row _ _ 1 _ _ _ HNX4.out
            have hN4 : Nx < w4.heap.size := lt_of_heap HNX4.out
            clear hlk hmapa hmap4 hgrow4 hn0 hn1 c0 c1
            go_frame
            go_region_held3 (fun w' => w'.cell? ⟨Nx, 0, none⟩ = some (.int .i64 x2) ∧ w'.cell? ⟨Nx, 1, none⟩ = some (.int .i64 y2))
              (first
                | exact ⟨m0, m1⟩
                | exact ⟨(cell_alloc_old hN4 _).trans m0, (cell_alloc_old hN4 _).trans m1⟩
                | exact ⟨p0, p1⟩
                | exact ⟨k0, k1⟩)
              (first
                | (refine step_append_fits (by rfl) _ _ _ (by rfl) B 5 i0 1 Tryd.underlying28 hi0 hi1 R l.length N (bytesOf l) (by rfl) (HO4.out.drew.alloc _) ⟨w4.heap.size, 0, none⟩ 1 1 [.int .u8 ((119 : UInt8).toNat : Int)] (by rfl) (by rfl) (World.news_of_block (cs := #[.int .u8 ((119 : UInt8).toNat : Int)]) (t := 5) (fr := (0, 0)) (heap_alloc_new w4.drew _)) (by simp [Value.oneCell']) (by omega) ?_; intro w5 hown5 hgrow5; have s5 := hgrow5.size; have hN5 := (hgrow5.block Nx (by simp; omega) (fun e => hNR (Option.some.inj e))).trans ((Below.heap_alloc _ _ _ (by simpa using hN4)).trans HNX4.out); have k0 := cell_of_row _ _ 0 _ _ _ hN5; have k1 := cell_of_row _ _ 1 _ _ _ hN5)
                | (go_at_call 44; refine (HREC.out _ HAV2.out hown5 (HB4.out.kept ((hgrow5.block M (by simp; have := HB4.out.lt; omega) (fun e => hRM (Option.some.inj e).symm)).trans (Below.heap_alloc _ _ _ HB4.out.lt))) (hA.1 _ _ _ _ (hA.1 _ _ _ _ HJ4.out (SameOwn.of_below (((Below.refl _ _).drew).alloc (Nat.le_refl _) _) (hA.2 _ _ _ HJ4.out).1 (fun k e => ((hA.2 _ _ _ HJ4.out).2 k e).2))) (SameOwn.grown hgrow5 (by have := (hA.2 _ _ _ HJ4.out).1; simp; omega) (fun k e => by have := ((hA.2 _ _ _ HJ4.out).2 k e).2; simp; omega) (fun k e => by cases e; exact ⟨hR, hr1⟩)))).mono ?_; rintro e w6 ⟨rfl, r6, hJ6, hN6, hst6, hk6⟩; have hN6c := (hk6.2 Nx (by omega) (lt_of_heap hN5) (fun e => by have := (hlimk.2 Nx e).2; omega) hNR hNM).trans hN5; have p0 := cell_of_row _ _ 0 _ _ _ hN6c; have p1 := cell_of_row _ _ 1 _ _ _ hN6c))
            obtain ⟨D6, hmap6, hBeen6⟩ := hst6.2
            rw [List.length_append, List.length_singleton] at hmap6 hBeen6
            have HBE6 := Lib.hid hBeen6
            clear hBeen6
            have s5x : w4.heap.size < w5.heap.size := by simp at s5; omega
            have hr6 : r6 ≠ some M := hN6.ne (by have := HB4.out.lt; omega) hr2
            have hs6 := hk6.1
            go_wp2_with (at_delete; refine wpList_delete_own _ rfl _ _ 56 54 rfl 55 placeLaw Tryd.underlying56 (unitElem (H := Unit)) M _ D6 rfl hmap6 _ _ rfl HKEY.out ?_; intro w7 hmap7 hturn7)
            have hgrow7 := hturn7.grown
            go_roundw
            case rel =>
              have hsW5 : W.heap.size ≤ w5.heap.size := by have := HK4.out.1; omega
              have hN7 := HNk.out.trans hsW5 hN6
              refine ⟨_, r6, hlt4, rfl, (by show J _ _ _; exact hA.1 _ _ _ _ hJ6 (SameOwn.grown hgrow7 (hA.2 _ _ _ hJ6).1 (fun k e => ((hA.2 _ _ _ hJ6).2 k e).2) (fun k e => by cases e; exact ⟨hM, hr6⟩))), hN7, ⟨?_, ?_⟩, ?_⟩
              · have hown6 := hst6.1
                rw [List.length_append, List.length_singleton, bytesOf_snoc] at hown6
                exact own_same (own_shorter hown6 (by simp [bytesOf]) (by omega)) (hgrow7.block R hst6.row_lt (fun e => hRM (Option.some.inj e)))
              · have hb6 := HBE6.out
                rw [HPL1.out] at hb6
                exact BeenAt.tight hmap7 (hb6.del HQ.out HBB.out)
              · refine (((HK4.out.trans HNk.out (AvKept.of_below (((Below.refl _ _).drew).alloc (Nat.le_refl _) _))).trans HNk.out (AvKept.grown hgrow5 (fun k e => by cases e; exact .inl rfl))).trans HNk.out hk6).trans hN7 (AvKept.grown hgrow7 (fun k e => by cases e; exact .inr rfl))
            case measure => simp [intOf]
    · obtain rfl : k = 4 := by omega
      go_wp2_with fail
      go_ret
      have hs := HB.out.size
      exact ⟨rfl, r', by rw [Tw.onTo_all] at HJk; exact HJk.out, HNk.out.mono hs, HSk.out, (AvKept.of_below HB.out).trans (NextRow.refl _ _) HKk.out⟩
end Go.Proofs.YtjcagkpolfacpaaDoor
