/-
  The draw of a deed: its two numbers, and nothing that was there has turned but the reader.
-/
import Derived.Test.YtccdfndnjjjgfaaGreatDoorDrawWalk
import Derived.Deep.RegionLaw
import Derived.Deep.RegionHeld3
import Derived.Deep.DeepCutAuto
namespace Go.Proofs.YtccdfndnjjjgfaaGreatDoor
open Go.RowKit

theorem Drawn.drew {w W : World} {R n p k : Nat} {v : Value} (h : Drawn w W R v n p k) : Drawn w W.drew R v n p k := h.below (Below.refl _ _).drew
theorem grow_row' {X w' : World} {R b : Nat} {o : Obj} (hg : X.grownBy w' (some R)) (h : X.heap[b]? = some o) (hne : b ≠ R) : w'.heap[b]? = some o :=
  (hg.block b (Array.getElem?_eq_some_iff.1 h).1 (fun e => hne (Option.some.inj e))).trans h
section
variable {Y w' : World} {R : Nat} {cs : Array Value} {t : TypeId} {o : Obj}
theorem row_old (Y : World) (a o : Obj) : ((Y.alloc a).alloc o).heap[Y.heap.size]? = (Y.alloc a).heap[Y.heap.size]? := Below.heap_alloc (Y.alloc a) o _ (by simp)
theorem g_a (hg : (Y.alloc (.cells cs t)).grownBy w' (some R)) (hR : R < Y.heap.size) : w'.heap[Y.heap.size]? = some (.cells cs t (0, 0)) := grow_row' hg (heap_alloc_new Y _) (by omega)
theorem g_ad (hg : (Y.alloc (.cells cs t)).drew.grownBy w' (some R)) (hR : R < Y.heap.size) : w'.heap[Y.heap.size]? = some (.cells cs t (0, 0)) := grow_row' hg (heap_alloc_new Y _) (by omega)
theorem g_b (hg : ((Y.alloc (.cells cs t)).alloc o).grownBy w' (some R)) (hR : R < Y.heap.size) : w'.heap[Y.heap.size]? = some (.cells cs t (0, 0)) := grow_row' hg ((row_old Y _ _).trans (heap_alloc_new Y _)) (by omega)
theorem g_bd (hg : ((Y.alloc (.cells cs t)).alloc o).drew.grownBy w' (some R)) (hR : R < Y.heap.size) : w'.heap[Y.heap.size]? = some (.cells cs t (0, 0)) := grow_row' hg ((row_old Y _ _).trans (heap_alloc_new Y _)) (by omega)
theorem g_a2 (hg : ((Y.alloc o).alloc (.cells cs t)).grownBy w' (some R)) (hR : R < Y.heap.size) : w'.heap[Y.heap.size + 1]? = some (.cells cs t (0, 0)) := by
  have := heap_alloc_new (Y.alloc o) (.cells cs t)
  rw [World.size_alloc] at this
  exact grow_row' hg this (by omega)
theorem g_a2d (hg : ((Y.alloc o).alloc (.cells cs t)).drew.grownBy w' (some R)) (hR : R < Y.heap.size) : w'.heap[Y.heap.size + 1]? = some (.cells cs t (0, 0)) := by
  have := heap_alloc_new (Y.alloc o) (.cells cs t)
  rw [World.size_alloc] at this
  exact grow_row' hg this (by omega)
theorem g_c {L : Nat} (h : Y.heap[L]? = some (.cells cs t (0, 0))) (hg : Y.grownBy w' (some R)) (hne : L ≠ R) : w'.heap[L]? = some (.cells cs t (0, 0)) := grow_row' hg h hne
theorem g_d {L : Nat} (h : Y.heap[L]? = some (.cells cs t (0, 0))) (hg : (Y.alloc o).grownBy w' (some R)) (hne : L ≠ R) : w'.heap[L]? = some (.cells cs t (0, 0)) := grow_row' hg ((Below.heap_alloc Y o L (Array.getElem?_eq_some_iff.1 h).1).trans h) hne
theorem g_e {L : Nat} {o' : Obj} (h : Y.heap[L]? = some (.cells cs t (0, 0))) (hg : ((Y.alloc o).alloc o').grownBy w' (some R)) (hne : L ≠ R) : w'.heap[L]? = some (.cells cs t (0, 0)) := by
  have hl := (Array.getElem?_eq_some_iff.1 h).1
  exact grow_row' hg ((Below.heap_alloc (Y.alloc o) o' L (by simp; omega)).trans ((Below.heap_alloc Y o L hl).trans h)) hne
theorem lit_at {L j : Nat} {u : Value} (h : Y.heap[L]? = some (.cells cs t (0, 0))) (hu : cs[j]? = some u) : Y.cell? ⟨L, j, none⟩ = some u := (cell_of_row _ _ _ _ _ _ h).trans hu
theorem lit_at_alloc {L j : Nat} {u : Value} (h : Y.heap[L]? = some (.cells cs t (0, 0))) (hu : cs[j]? = some u) (o : Obj) : (Y.alloc o).cell? ⟨L, j, none⟩ = some u :=
  lit_at (Y := Y.alloc o) ((Below.heap_alloc Y o L (Array.getElem?_eq_some_iff.1 h).1).trans h) hu
theorem froz_alloc {L j : Nat} (h : Y.heap[L]? = some (.cells cs t (0, 0))) (o : Obj) : (Y.alloc o).frozen? ⟨L, j, none⟩ = false := frozen_of_row _ _ _ _ _ ((Below.heap_alloc Y o L (Array.getElem?_eq_some_iff.1 h).1).trans h)
theorem lit_new {j : Nat} {u : Value} (Y : World) (hu : cs[j]? = some u) : (Y.alloc (.cells cs t)).cell? ⟨Y.heap.size, j, none⟩ = some u := lit_at (heap_alloc_new Y _) hu
theorem lit_new2 {j : Nat} {u : Value} (Y : World) (o : Obj) (hu : cs[j]? = some u) : ((Y.alloc (.cells cs t)).alloc o).cell? ⟨Y.heap.size, j, none⟩ = some u := lit_at ((row_old Y _ _).trans (heap_alloc_new Y _)) hu
end
theorem kind_at {y : Int} (h0 : 0 ≤ y) (h1 : y < 8) : ∃ K : Int, (#[.int .i64 0, .int .i64 0, .int .i64 0, .int .i64 1, .int .i64 2, .int .i64 3, .int .i64 4, .int .i64 5] : Array Value)[y.toNat]? = some (.int .i64 K) ∧ (∀ h, ([.int .i64 0, .int .i64 0, .int .i64 0, .int .i64 1, .int .i64 2, .int .i64 3, .int .i64 4, .int .i64 5] : List Value)[y.toNat]'h = .int .i64 K) ∧ 0 ≤ K ∧ K ≤ 5 := by
  obtain rfl | rfl | rfl | rfl | rfl | rfl | rfl | rfl : y = 0 ∨ y = 1 ∨ y = 2 ∨ y = 3 ∨ y = 4 ∨ y = 5 ∨ y = 6 ∨ y = 7 := by omega
  all_goals exact ⟨_, rfl, fun _ => rfl, by omega, by omega⟩
theorem div59 {q : Int} (h0 : 0 ≤ q) (h1 : q < 60) : ∃ d : Int, q.tdiv 59 = d ∧ 0 ≤ d ∧ d ≤ 1 := by
  refine ⟨_, rfl, ?_⟩
  rw [Int.tdiv_eq_ediv_of_nonneg h0]
  omega
theorem Drawn.setCell {w W W1 : World} {R n p k k0 N : Nat} {v : Value} (h : Drawn w W R v n p k) (h0 : Drawn w W1 R v n p k0) (hN : W1.heap.size ≤ N) (j : Nat) (u : Value) : Drawn w (W.setCell ⟨N, j, none⟩ u) R v n p k := by
  obtain ⟨p', hp, hr, hg⟩ := h
  obtain ⟨p0, _, hr0, hg0⟩ := h0
  have hlR := hr0.lt
  have hsz := hg0.size
  have hne : R ≠ N := by omega
  refine ⟨p', hp, ⟨(heap_setCell_other W ⟨N, j, none⟩ R u hne).trans hr.cells, ?_, hr.few, hr.off⟩, ⟨hg.os, hg.tape, hg.output, by simpa [World.setCell] using hg.size, fun i hi hR => (heap_setCell_other W ⟨N, j, none⟩ i u (by show i ≠ N; omega)).trans (hg.block i hi hR)⟩⟩
  rcases hr.code with hc | ⟨a, cap, hv, hl, hc⟩
  · exact .inl hc
  · refine .inr ⟨a, cap, hv, hl, fun i hi => ?_⟩
    obtain ⟨b, h1, h2, h3⟩ := hc i hi
    refine ⟨b, h1, h2, ?_⟩
    have hlt : a.block < W1.heap.size := by
      rcases hr0.code with ⟨hv0, _⟩ | ⟨a0, cap0, hv0, _, hc0⟩
      · rw [hv0] at hv
        cases hv
      · rw [hv0] at hv
        simp only [Value.slice.injEq, Option.some.injEq] at hv
        obtain ⟨rfl, _, _⟩ := hv
        obtain ⟨_, _, _, h4⟩ := hc0 i hi
        have := World.block_lt_of_cell? W1 _ h4
        rwa [show (a0.add i).block = a0.block by unfold Addr.add; split <;> rfl] at this
    rw [← h3]
    exact World.cell?_of_block (heap_setCell_other W ⟨N, j, none⟩ _ u (by show (a.add i).block ≠ N; rw [show (a.add i).block = a.block by unfold Addr.add; split <;> rfl]; omega))
theorem odd_g {w W : World} {R n p k : Nat} {v : Value} {N : Int} (h : Drawn w W R v n p k) (hp : p + k ≤ 1000000) (h1 : 0 ≤ N) (h2 : N ≤ 1000000) :
    Calls Tryz.prog 69 #[.pointer (some ⟨R, 0, none⟩), .int .i64 N] W fun e w' => ∃ b : Bool, e = .returned (.bool b) ∧ Drawn w w' R v n p (k + 1) ∧ W.grownBy w' (some R) := by
  obtain ⟨p', hp', hr, hg⟩ := h
  refine (odd_any R n p' v N W hr (by omega) h1 h2).mono ?_
  rintro e w' ⟨b, p2, rfl, hp2, hr', hg'⟩
  exact ⟨b, rfl, ⟨p2, by omega, hr', grown_trans hg hg'⟩, hg'⟩
/-- A deed in the making lies in block N, the result in B. -/
structure DeedSt (w W1 X : World) (R N B : Nat) (v : Value) (n p k : Nat) (K M : Int) : Prop where
  drawn : Drawn w X R v n p k
  row : X.heap[N]? = some (.cells #[.int .i64 K, .int .i64 M] 53 (0, 0))
  res : X.heap[B]? = some (.cells #[.int .i64 0, .int .i64 0] 53 (0, 0))
  ge : W1.heap.size ≤ N
  lt : B < W1.heap.size
  neR : B ≠ R
  neN : N ≠ R
theorem DeedSt.grow {w W1 X X' : World} {R N B n p k k' : Nat} {v : Value} {K M : Int} (h : DeedSt w W1 X R N B v n p k K M) (hd : Drawn w X' R v n p k') (hg : X.grownBy X' (some R)) : DeedSt w W1 X' R N B v n p k' K M :=
  ⟨hd, grow_row' hg h.row h.neN, grow_row' hg h.res h.neR, h.ge, h.lt, h.neR, h.neN⟩
theorem DeedSt.alloc {w W1 X : World} {R N B n p k : Nat} {v : Value} {K M : Int} (h : DeedSt w W1 X R N B v n p k K M) (o : Obj) : DeedSt w W1 (X.alloc o) R N B v n p k K M :=
  ⟨h.drawn.alloc o, (Below.heap_alloc X o N (Array.getElem?_eq_some_iff.1 h.row).1).trans h.row, (Below.heap_alloc X o B (Array.getElem?_eq_some_iff.1 h.res).1).trans h.res, h.ge, h.lt, h.neR, h.neN⟩
theorem DeedSt.put {w W1 X : World} {R N B n p k k0 : Nat} {v : Value} {K M : Int} (h : DeedSt w W1 X R N B v n p k K M) (h0 : Drawn w W1 R v n p k0) (x : Int) : DeedSt w W1 (X.setCell ⟨N, 1, none⟩ (.int .i64 x)) R N B v n p k K x := by
  have h1 := h.ge
  have h2 := h.lt
  refine ⟨h.drawn.setCell h0 h.ge 1 _, ?_, (heap_setCell_other X ⟨N, 1, none⟩ B _ (by show B ≠ N; omega)).trans h.res, h.ge, h.lt, h.neR, h.neN⟩
  simp [World.setCell, Array.getElem?_modify, h.row]
theorem DeedSt.cells {w W1 X : World} {R N B n p k : Nat} {v : Value} {K M : Int} (h : DeedSt w W1 X R N B v n p k K M) : X.cell? ⟨N, 0, none⟩ = some (.int .i64 K) ∧ X.cell? ⟨N, 1, none⟩ = some (.int .i64 M) ∧ X.frozen? ⟨N, 1, none⟩ = false :=
  ⟨cell_of_row _ _ 0 _ _ _ h.row, cell_of_row _ _ 1 _ _ _ h.row, frozen_of_row _ _ 1 _ _ h.row⟩
theorem DeedSt.rests {w W1 X : World} {R N B n p k : Nat} {v : Value} {K M : Int} (h : DeedSt w W1 X R N B v n p k K M) : X.cell? ⟨B, 0, none⟩ = some (.int .i64 0) ∧ X.cell? ⟨B, 1, none⟩ = some (.int .i64 0) ∧ X.frozen? ⟨B, 0, none⟩ = false ∧ X.frozen? ⟨B, 1, none⟩ = false :=
  ⟨cell_of_row _ _ 0 _ _ _ h.res, cell_of_row _ _ 1 _ _ _ h.res, frozen_of_row _ _ 0 _ _ h.res, frozen_of_row _ _ 1 _ _ h.res⟩
theorem sz_le {X W1 w' : World} {r : Option Nat} (hg : X.grownBy w' r) (h : W1.heap.size ≤ X.heap.size) : W1.heap.size ≤ w'.heap.size := Nat.le_trans h hg.size
theorem le_alloc (Y : World) (o : Obj) : Y.heap.size ≤ (Y.alloc o).heap.size := by simp
theorem two_put {X : World} {N : Nat} {t : TypeId} {a b : Value} (h : X.heap[N]? = some (.cells #[a, b] t (0, 0))) (x y : Value) : ((X.setCell ⟨N, 0, none⟩ x).setCell ⟨N, 1, none⟩ y).heap[N]? = some (.cells #[x, y] t (0, 0)) := by
  simp [World.setCell, Array.getElem?_modify, h]
theorem set_far2 {X : World} {N B : Nat} {o : Obj} (h : X.heap[B]? = some o) (hne : B ≠ N) (x y : Value) : ((X.setCell ⟨N, 0, none⟩ x).setCell ⟨N, 1, none⟩ y).heap[B]? = some o := (heap_setCell_other _ ⟨N, 1, none⟩ B y hne).trans ((heap_setCell_other X ⟨N, 0, none⟩ B x hne).trans h)
theorem row_alloc {X : World} {N : Nat} {o' : Obj} (h : X.heap[N]? = some o') (o : Obj) : (X.alloc o).heap[N]? = some o' := (Below.heap_alloc X o N (Array.getElem?_eq_some_iff.1 h).1).trans h

set_option maxRecDepth 100000 in
set_option maxHeartbeats 3200000 in
theorem deed_d (s : ByteArray) (w W : World) (R n p k : Nat) (v : Value) (h : Drawn w W R v n p k) (hp : p + k ≤ 90000) (hs : s.size ≤ 41) :
    Calls Tryz.prog 83 #[.pointer (some ⟨R, 0, none⟩), .string s] W fun e w' => ∃ K M : Int, e = .returned (.agg #[.int .i64 K, .int .i64 M]) ∧ 0 ≤ K ∧ K ≤ 11 ∧ -1 ≤ M ∧ M ≤ 100 ∧ Drawn w w' R v n p (k + 5) := by
  have h1 := h.alloc (.cells #[.int .i64 0, .int .i64 0] 53)
  obtain ⟨W1, hW1⟩ : ∃ W1, W.alloc (.cells #[.int .i64 0, .int .i64 0] 53) = W1 := ⟨_, rfl⟩
  rw [hW1] at h1
  have hr0 : W1.heap[W.heap.size]? = some (.cells #[.int .i64 0, .int .i64 0] 53 (0, 0)) := hW1 ▸ heap_alloc_new W _
  have hlW := h.lt
  have hs0 := h1.lt
  have RES0 := Lib.hid hr0
  have hlB : W.heap.size < W1.heap.size := by rw [← hW1]; simp
  have HW1 := Lib.hid hW1
  clear hW1 hr0
  go_enter Tryz.func83, Tryz.ntmps83
  go_wp2_with fail
  rw [HW1.out]
  go_upto_region 1 with fail
  go_cut [5] (fun q wx => ∃ (N : Nat) (K : Int), q = .pointer (some ⟨N, 0, none⟩) ∧ 0 ≤ K ∧ K ≤ 11 ∧ Hid (DeedSt w W1 wx R N W.heap.size v n p (k + 2) K 0))
  case first =>
    go_region_law (first
      | (go_simp; go_at_call_of 68 (Value.int .i64 8); first
          | (have hq := hd1; refine (pick_d (N := 8) (by first | exact hd1 | exact hd1.alloc _ | exact (hd1.alloc _).alloc _) (by omega) (by omega) (by omega)).mono ?_; rintro e w2 ⟨y, rfl, y0, y1, hd2, hg2⟩; have sw2 := hd2.lt; have tw2 := sz_le (W1 := w1) hg2 (by first | exact Nat.le_refl _ | exact le_alloc _ _ | exact Nat.le_trans (le_alloc _ _) (le_alloc _ _)); obtain ⟨K, hKy, hKl, hK0, hK5⟩ := kind_at y0 y1; have uL := fun Y : World => lit_new (t := 3) Y hKy; have uL2 := fun (Y : World) (o : Obj) => lit_new2 (t := 3) Y o hKy; (first | (have HL := g_a2 (cs := #[.int .i64 0, .int .i64 0, .int .i64 0, .int .i64 1, .int .i64 2, .int .i64 3, .int .i64 4, .int .i64 5]) (t := 3) hg2 (by omega)) | (have HL := g_a2d (cs := #[.int .i64 0, .int .i64 0, .int .i64 0, .int .i64 1, .int .i64 2, .int .i64 3, .int .i64 4, .int .i64 5]) (t := 3) hg2 (by omega)) | (have HL := g_a (cs := #[.int .i64 0, .int .i64 0, .int .i64 0, .int .i64 1, .int .i64 2, .int .i64 3, .int .i64 4, .int .i64 5]) (t := 3) hg2 (by omega)) | (have HL := g_ad (cs := #[.int .i64 0, .int .i64 0, .int .i64 0, .int .i64 1, .int .i64 2, .int .i64 3, .int .i64 4, .int .i64 5]) (t := 3) hg2 (by omega)) | (have HL := g_b (cs := #[.int .i64 0, .int .i64 0, .int .i64 0, .int .i64 1, .int .i64 2, .int .i64 3, .int .i64 4, .int .i64 5]) (t := 3) hg2 (by omega)) | (have HL := g_bd (cs := #[.int .i64 0, .int .i64 0, .int .i64 0, .int .i64 1, .int .i64 2, .int .i64 3, .int .i64 4, .int .i64 5]) (t := 3) hg2 (by omega)) | (have HL := g_c HL hg2 (by omega)) | (have HL := g_d HL hg2 (by omega)) | (have HL := g_e HL hg2 (by omega)) | skip); (first | (have HN := g_a2 (cs := #[.int .i64 0, .int .i64 0]) (t := 53) hg2 (by omega)) | (have HN := g_a2d (cs := #[.int .i64 0, .int .i64 0]) (t := 53) hg2 (by omega)) | (have HN := g_a (cs := #[.int .i64 0, .int .i64 0]) (t := 53) hg2 (by omega)) | (have HN := g_ad (cs := #[.int .i64 0, .int .i64 0]) (t := 53) hg2 (by omega)) | (have HN := g_b (cs := #[.int .i64 0, .int .i64 0]) (t := 53) hg2 (by omega)) | (have HN := g_bd (cs := #[.int .i64 0, .int .i64 0]) (t := 53) hg2 (by omega)) | (have HN := g_c HN hg2 (by omega)) | (have HN := g_d HN hg2 (by omega)) | (have HN := g_e HN hg2 (by omega)) | skip); have RES := Lib.hid (grow_row' hg2 (show _ = _ from (by first | exact RES1.out | exact row_alloc RES1.out _ | exact row_alloc (row_alloc RES1.out _) _)) (by omega)); (first | (have cL := lit_at HL hKy; have cLa := lit_at_alloc HL hKy) | skip); (first | (have nf0 := frozen_of_row _ _ 0 _ _ HN; have nf1 := frozen_of_row _ _ 1 _ _ HN; have nc0 := cell_of_row _ _ 0 _ _ _ HN; have nc1 := cell_of_row _ _ 1 _ _ _ HN; have na0 := fun o => lit_at_alloc (j := 0) HN rfl o; have na1 := fun o => lit_at_alloc (j := 1) HN rfl o; have nz0 := fun o => froz_alloc (j := 0) HN o; have nz1 := fun o => froz_alloc (j := 1) HN o) | skip); (first | (have z1 := IntWalk.i64_in d (by omega); have z2 := IntWalk.i64_in (d * 6) (by omega); have z3 := IntWalk.i64_in (K + d * 6) (by omega)) | skip))
          | (refine (pick_d (N := 8) (by first | exact h1.drew | exact (h1.alloc _).drew | exact ((h1.alloc _).alloc _).drew | exact h1.drew.alloc _ | exact (h1.drew.alloc _).alloc _) (by omega) (by omega) (by omega)).mono ?_; rintro e w1 ⟨y, rfl, y0, y1, hd1, hg1⟩; have sw1 := hd1.lt; have tw1 := sz_le (W1 := W1) hg1 (by first | exact Nat.le_refl _ | exact le_alloc _ _ | exact Nat.le_trans (le_alloc _ _) (le_alloc _ _)); obtain ⟨K, hKy, hKl, hK0, hK5⟩ := kind_at y0 y1; have uL := fun Y : World => lit_new (t := 3) Y hKy; have uL2 := fun (Y : World) (o : Obj) => lit_new2 (t := 3) Y o hKy; (first | (have HL := g_a2 (cs := #[.int .i64 0, .int .i64 0, .int .i64 0, .int .i64 1, .int .i64 2, .int .i64 3, .int .i64 4, .int .i64 5]) (t := 3) hg1 (by omega)) | (have HL := g_a2d (cs := #[.int .i64 0, .int .i64 0, .int .i64 0, .int .i64 1, .int .i64 2, .int .i64 3, .int .i64 4, .int .i64 5]) (t := 3) hg1 (by omega)) | (have HL := g_a (cs := #[.int .i64 0, .int .i64 0, .int .i64 0, .int .i64 1, .int .i64 2, .int .i64 3, .int .i64 4, .int .i64 5]) (t := 3) hg1 (by omega)) | (have HL := g_ad (cs := #[.int .i64 0, .int .i64 0, .int .i64 0, .int .i64 1, .int .i64 2, .int .i64 3, .int .i64 4, .int .i64 5]) (t := 3) hg1 (by omega)) | (have HL := g_b (cs := #[.int .i64 0, .int .i64 0, .int .i64 0, .int .i64 1, .int .i64 2, .int .i64 3, .int .i64 4, .int .i64 5]) (t := 3) hg1 (by omega)) | (have HL := g_bd (cs := #[.int .i64 0, .int .i64 0, .int .i64 0, .int .i64 1, .int .i64 2, .int .i64 3, .int .i64 4, .int .i64 5]) (t := 3) hg1 (by omega)) | (have HL := g_c HL hg1 (by omega)) | (have HL := g_d HL hg1 (by omega)) | (have HL := g_e HL hg1 (by omega)) | skip); (first | (have HN := g_a2 (cs := #[.int .i64 0, .int .i64 0]) (t := 53) hg1 (by omega)) | (have HN := g_a2d (cs := #[.int .i64 0, .int .i64 0]) (t := 53) hg1 (by omega)) | (have HN := g_a (cs := #[.int .i64 0, .int .i64 0]) (t := 53) hg1 (by omega)) | (have HN := g_ad (cs := #[.int .i64 0, .int .i64 0]) (t := 53) hg1 (by omega)) | (have HN := g_b (cs := #[.int .i64 0, .int .i64 0]) (t := 53) hg1 (by omega)) | (have HN := g_bd (cs := #[.int .i64 0, .int .i64 0]) (t := 53) hg1 (by omega)) | (have HN := g_c HN hg1 (by omega)) | (have HN := g_d HN hg1 (by omega)) | (have HN := g_e HN hg1 (by omega)) | skip); have RES1 := Lib.hid (grow_row' hg1 (show _ = _ from (by first | exact RES0.out | exact row_alloc RES0.out _ | exact row_alloc (row_alloc RES0.out _) _)) (by omega)); (first | (have cL := lit_at HL hKy; have cLa := lit_at_alloc HL hKy) | skip); (first | (have nf0 := frozen_of_row _ _ 0 _ _ HN; have nf1 := frozen_of_row _ _ 1 _ _ HN; have nc0 := cell_of_row _ _ 0 _ _ _ HN; have nc1 := cell_of_row _ _ 1 _ _ _ HN; have na0 := fun o => lit_at_alloc (j := 0) HN rfl o; have na1 := fun o => lit_at_alloc (j := 1) HN rfl o; have nz0 := fun o => froz_alloc (j := 0) HN o; have nz1 := fun o => froz_alloc (j := 1) HN o) | skip); (first | (have z1 := IntWalk.i64_in d (by omega); have z2 := IntWalk.i64_in (d * 6) (by omega); have z3 := IntWalk.i64_in (K + d * 6) (by omega)) | skip)))
      | (go_simp; go_at_call_of 68 (Value.int .i64 60); first
          | (have hq := hd1; refine (pick_d (N := 60) (by first | exact hd1 | exact hd1.alloc _ | exact (hd1.alloc _).alloc _) (by omega) (by omega) (by omega)).mono ?_; rintro e w2 ⟨q, rfl, q0, q1, hd2, hg2⟩; have sw2 := hd2.lt; have tw2 := sz_le (W1 := w1) hg2 (by first | exact Nat.le_refl _ | exact le_alloc _ _ | exact Nat.le_trans (le_alloc _ _) (le_alloc _ _)); obtain ⟨d, hdq, hd0, hd1'⟩ := div59 q0 q1; (first | (have HL := g_a2 (cs := #[.int .i64 0, .int .i64 0, .int .i64 0, .int .i64 1, .int .i64 2, .int .i64 3, .int .i64 4, .int .i64 5]) (t := 3) hg2 (by omega)) | (have HL := g_a2d (cs := #[.int .i64 0, .int .i64 0, .int .i64 0, .int .i64 1, .int .i64 2, .int .i64 3, .int .i64 4, .int .i64 5]) (t := 3) hg2 (by omega)) | (have HL := g_a (cs := #[.int .i64 0, .int .i64 0, .int .i64 0, .int .i64 1, .int .i64 2, .int .i64 3, .int .i64 4, .int .i64 5]) (t := 3) hg2 (by omega)) | (have HL := g_ad (cs := #[.int .i64 0, .int .i64 0, .int .i64 0, .int .i64 1, .int .i64 2, .int .i64 3, .int .i64 4, .int .i64 5]) (t := 3) hg2 (by omega)) | (have HL := g_b (cs := #[.int .i64 0, .int .i64 0, .int .i64 0, .int .i64 1, .int .i64 2, .int .i64 3, .int .i64 4, .int .i64 5]) (t := 3) hg2 (by omega)) | (have HL := g_bd (cs := #[.int .i64 0, .int .i64 0, .int .i64 0, .int .i64 1, .int .i64 2, .int .i64 3, .int .i64 4, .int .i64 5]) (t := 3) hg2 (by omega)) | (have HL := g_c HL hg2 (by omega)) | (have HL := g_d HL hg2 (by omega)) | (have HL := g_e HL hg2 (by omega)) | skip); (first | (have HN := g_a2 (cs := #[.int .i64 0, .int .i64 0]) (t := 53) hg2 (by omega)) | (have HN := g_a2d (cs := #[.int .i64 0, .int .i64 0]) (t := 53) hg2 (by omega)) | (have HN := g_a (cs := #[.int .i64 0, .int .i64 0]) (t := 53) hg2 (by omega)) | (have HN := g_ad (cs := #[.int .i64 0, .int .i64 0]) (t := 53) hg2 (by omega)) | (have HN := g_b (cs := #[.int .i64 0, .int .i64 0]) (t := 53) hg2 (by omega)) | (have HN := g_bd (cs := #[.int .i64 0, .int .i64 0]) (t := 53) hg2 (by omega)) | (have HN := g_c HN hg2 (by omega)) | (have HN := g_d HN hg2 (by omega)) | (have HN := g_e HN hg2 (by omega)) | skip); have RES := Lib.hid (grow_row' hg2 (show _ = _ from (by first | exact RES1.out | exact row_alloc RES1.out _ | exact row_alloc (row_alloc RES1.out _) _)) (by omega)); (first | (have cL := lit_at HL hKy; have cLa := lit_at_alloc HL hKy) | skip); (first | (have nf0 := frozen_of_row _ _ 0 _ _ HN; have nf1 := frozen_of_row _ _ 1 _ _ HN; have nc0 := cell_of_row _ _ 0 _ _ _ HN; have nc1 := cell_of_row _ _ 1 _ _ _ HN; have na0 := fun o => lit_at_alloc (j := 0) HN rfl o; have na1 := fun o => lit_at_alloc (j := 1) HN rfl o; have nz0 := fun o => froz_alloc (j := 0) HN o; have nz1 := fun o => froz_alloc (j := 1) HN o) | skip); (first | (have z1 := IntWalk.i64_in d (by omega); have z2 := IntWalk.i64_in (d * 6) (by omega); have z3 := IntWalk.i64_in (K + d * 6) (by omega)) | skip))
          | (refine (pick_d (N := 60) (by first | exact h1.drew | exact (h1.alloc _).drew | exact ((h1.alloc _).alloc _).drew | exact h1.drew.alloc _ | exact (h1.drew.alloc _).alloc _) (by omega) (by omega) (by omega)).mono ?_; rintro e w1 ⟨q, rfl, q0, q1, hd1, hg1⟩; have sw1 := hd1.lt; have tw1 := sz_le (W1 := W1) hg1 (by first | exact Nat.le_refl _ | exact le_alloc _ _ | exact Nat.le_trans (le_alloc _ _) (le_alloc _ _)); obtain ⟨d, hdq, hd0, hd1'⟩ := div59 q0 q1; (first | (have HL := g_a2 (cs := #[.int .i64 0, .int .i64 0, .int .i64 0, .int .i64 1, .int .i64 2, .int .i64 3, .int .i64 4, .int .i64 5]) (t := 3) hg1 (by omega)) | (have HL := g_a2d (cs := #[.int .i64 0, .int .i64 0, .int .i64 0, .int .i64 1, .int .i64 2, .int .i64 3, .int .i64 4, .int .i64 5]) (t := 3) hg1 (by omega)) | (have HL := g_a (cs := #[.int .i64 0, .int .i64 0, .int .i64 0, .int .i64 1, .int .i64 2, .int .i64 3, .int .i64 4, .int .i64 5]) (t := 3) hg1 (by omega)) | (have HL := g_ad (cs := #[.int .i64 0, .int .i64 0, .int .i64 0, .int .i64 1, .int .i64 2, .int .i64 3, .int .i64 4, .int .i64 5]) (t := 3) hg1 (by omega)) | (have HL := g_b (cs := #[.int .i64 0, .int .i64 0, .int .i64 0, .int .i64 1, .int .i64 2, .int .i64 3, .int .i64 4, .int .i64 5]) (t := 3) hg1 (by omega)) | (have HL := g_bd (cs := #[.int .i64 0, .int .i64 0, .int .i64 0, .int .i64 1, .int .i64 2, .int .i64 3, .int .i64 4, .int .i64 5]) (t := 3) hg1 (by omega)) | (have HL := g_c HL hg1 (by omega)) | (have HL := g_d HL hg1 (by omega)) | (have HL := g_e HL hg1 (by omega)) | skip); (first | (have HN := g_a2 (cs := #[.int .i64 0, .int .i64 0]) (t := 53) hg1 (by omega)) | (have HN := g_a2d (cs := #[.int .i64 0, .int .i64 0]) (t := 53) hg1 (by omega)) | (have HN := g_a (cs := #[.int .i64 0, .int .i64 0]) (t := 53) hg1 (by omega)) | (have HN := g_ad (cs := #[.int .i64 0, .int .i64 0]) (t := 53) hg1 (by omega)) | (have HN := g_b (cs := #[.int .i64 0, .int .i64 0]) (t := 53) hg1 (by omega)) | (have HN := g_bd (cs := #[.int .i64 0, .int .i64 0]) (t := 53) hg1 (by omega)) | (have HN := g_c HN hg1 (by omega)) | (have HN := g_d HN hg1 (by omega)) | (have HN := g_e HN hg1 (by omega)) | skip); have RES1 := Lib.hid (grow_row' hg1 (show _ = _ from (by first | exact RES0.out | exact row_alloc RES0.out _ | exact row_alloc (row_alloc RES0.out _) _)) (by omega)); (first | (have cL := lit_at HL hKy; have cLa := lit_at_alloc HL hKy) | skip); (first | (have nf0 := frozen_of_row _ _ 0 _ _ HN; have nf1 := frozen_of_row _ _ 1 _ _ HN; have nc0 := cell_of_row _ _ 0 _ _ _ HN; have nc1 := cell_of_row _ _ 1 _ _ _ HN; have na0 := fun o => lit_at_alloc (j := 0) HN rfl o; have na1 := fun o => lit_at_alloc (j := 1) HN rfl o; have nz0 := fun o => froz_alloc (j := 0) HN o; have nz1 := fun o => froz_alloc (j := 1) HN o) | skip); (first | (have z1 := IntWalk.i64_in d (by omega); have z2 := IntWalk.i64_in (d * 6) (by omega); have z3 := IntWalk.i64_in (K + d * 6) (by omega)) | skip))))
    all_goals
      go_wp2_with fail
      go_meet
      first
        | exact ⟨_, _, rfl, by omega, by omega, ⟨hd2.alloc _, heap_alloc_new w2 _, row_alloc RES.out _, by omega, by omega, by omega, by omega⟩⟩
        | exact ⟨_, _, rfl, by omega, by omega, ⟨(hd2.setCell h1 (by omega) 0 _).setCell h1 (by omega) 1 _, two_put HN _ _, set_far2 RES.out (by omega) _ _, by omega, by omega, by omega, by omega⟩⟩
        | exact ⟨_, _, rfl, by omega, by omega, ⟨((hd2.alloc _).setCell h1 (by omega) 0 _).setCell h1 (by omega) 1 _, two_put (row_alloc HN _) _ _, set_far2 (row_alloc RES.out _) (by omega) _ _, by omega, by omega, by omega, by omega⟩⟩
        | exact ⟨_, _, rfl, by omega, by omega, ⟨(hd2.alloc _).alloc _, heap_alloc2_new w2 _ _, row_alloc (row_alloc RES.out _) _, by omega, by omega, by omega, by omega⟩⟩
        | exact ⟨_, _, rfl, by omega, by omega, ⟨(hd2.alloc _).alloc _, heap_alloc2_old w2 _ _, row_alloc (row_alloc RES.out _) _, by omega, by omega, by omega, by omega⟩⟩
  case rest =>
    obtain ⟨N, K, rfl, hK0, hK11, HS⟩ := hcut
    obtain ⟨q0, q1, q2⟩ := HS.out.cells
    have hmx0 : 1 ≤ max (s.size : Int) 1 := by omega
    have hmx1 : max (s.size : Int) 1 ≤ 41 := by omega
    obtain ⟨mx, hmx⟩ : ∃ mx, max (s.size : Int) 1 = mx := ⟨_, rfl⟩
    have hcase : K = 0 ∨ K = 2 ∨ K = 3 ∨ ((K == 0) = false ∧ (K == 2) = false ∧ (K == 3) = false) := by
      rcases Decidable.em (K = 0) with e | e
      · exact .inl e
      rcases Decidable.em (K = 2) with e2 | e2
      · exact .inr (.inl e2)
      rcases Decidable.em (K = 3) with e3 | e3
      · exact .inr (.inr (.inl e3))
      exact .inr (.inr (.inr ⟨beq_false_of_ne e, beq_false_of_ne e2, beq_false_of_ne e3⟩))
    rcases hcase with rfl | rfl | rfl | ⟨e0, e2, e3⟩
    all_goals
      go_wp2_with (first
        | (go_at_call 68; first
            | (have hq := HSo; refine (pick_d (HSo.out.drawn.alloc _) (by omega) (by omega) (by omega)).mono ?_; rintro e wg ⟨z, rfl, hz0, hz1, hdg, hgg⟩; have hlit := lit_cell HSo.out.drawn.lt hgg; have HSg := Lib.hid ((HSo.out.alloc _).grow hdg hgg); obtain ⟨g0, g1, g2⟩ := HSg.out.cells; have t0 := fun z => (HSg.out.put h1 z).rests.1; have t1 := fun z => (HSg.out.put h1 z).rests.2.1; have t2 := fun z => (HSg.out.put h1 z).rests.2.2.1; have t3 := fun z => (HSg.out.put h1 z).rests.2.2.2; have t4 := fun z => (HSg.out.put h1 z).cells.1; have t5 := fun z => (HSg.out.put h1 z).cells.2.1; obtain rfl | rfl | rfl | rfl : z = 0 ∨ z = 1 ∨ z = 2 ∨ z = 3 := by omega
               all_goals (have l0 := hlit 0 _ rfl; have l1 := hlit 1 _ rfl; have l2 := hlit 2 _ rfl; have l3 := hlit 3 _ rfl))
            | (refine (pick_d HS.out.drawn (by omega) (by omega) (by omega)).mono ?_; rintro e wd ⟨x, rfl, hx0, hx1, hdd, hgd⟩; have HSd := Lib.hid (HS.out.grow hdd hgd); obtain ⟨d0, d1, d2⟩ := HSd.out.cells; have HSp := Lib.hid (HSd.out.put h1 x)))
        | (go_at_call 69; first
            | (have hq := HSp; refine (odd_g HSp.out.drawn (by omega) (by omega) (by omega)).mono ?_; rintro e we ⟨b, rfl, hde, hge⟩; have HSo := Lib.hid (HSp.out.grow hde hge); obtain ⟨o0, o1, o2⟩ := HSo.out.cells; obtain ⟨r0, r1, r2, r3⟩ := HSo.out.rests; cases b)
            | (refine (odd_g HS.out.drawn (by omega) (by omega) (by omega)).mono ?_; rintro e we ⟨b, rfl, hde, hge⟩; have HSo := Lib.hid (HS.out.grow hde hge); obtain ⟨o0, o1, o2⟩ := HSo.out.cells; obtain ⟨r0, r1, r2, r3⟩ := HSo.out.rests; cases b)))
    · have q := two_put HSo.out.res (.int .i64 0) (.int .i64 x)
      have q0' := cell_of_row _ _ 0 _ _ _ q
      have q1' := cell_of_row _ _ 1 _ _ _ q
      refine bodyPost_ret (v := .agg #[.int .i64 0, .int .i64 x]) (by simp [results, Tryz.results83, go_sem, q0', q1']) rfl ⟨_, _, rfl, by omega, by omega, by omega, by omega, ?_⟩
      exact ((HSo.out.drawn.setCell h (Nat.le_refl _) 0 _).setCell h (Nat.le_refl _) 1 _).mono (by omega)
    · have q := two_put (HSg.out.put h1 (-1)).res (.int .i64 0) (.int .i64 (-1))
      have q0' := cell_of_row _ _ 0 _ _ _ q
      have q1' := cell_of_row _ _ 1 _ _ _ q
      refine bodyPost_ret (v := .agg #[.int .i64 0, .int .i64 (-1)]) (by simp [results, Tryz.results83, go_sem, q0', q1']) rfl ⟨_, _, rfl, by omega, by omega, by omega, by omega, ?_⟩
      exact (((HSg.out.put h1 (-1)).drawn.setCell h (Nat.le_refl _) 0 _).setCell h (Nat.le_refl _) 1 _).mono (by omega)
    · have q := two_put (HSg.out.put h1 8).res (.int .i64 0) (.int .i64 8)
      have q0' := cell_of_row _ _ 0 _ _ _ q
      have q1' := cell_of_row _ _ 1 _ _ _ q
      refine bodyPost_ret (v := .agg #[.int .i64 0, .int .i64 8]) (by simp [results, Tryz.results83, go_sem, q0', q1']) rfl ⟨_, _, rfl, by omega, by omega, by omega, by omega, ?_⟩
      exact (((HSg.out.put h1 8).drawn.setCell h (Nat.le_refl _) 0 _).setCell h (Nat.le_refl _) 1 _).mono (by omega)
    · have q := two_put (HSg.out.put h1 40).res (.int .i64 0) (.int .i64 40)
      have q0' := cell_of_row _ _ 0 _ _ _ q
      have q1' := cell_of_row _ _ 1 _ _ _ q
      refine bodyPost_ret (v := .agg #[.int .i64 0, .int .i64 40]) (by simp [results, Tryz.results83, go_sem, q0', q1']) rfl ⟨_, _, rfl, by omega, by omega, by omega, by omega, ?_⟩
      exact (((HSg.out.put h1 40).drawn.setCell h (Nat.le_refl _) 0 _).setCell h (Nat.le_refl _) 1 _).mono (by omega)
    · have q := two_put (HSg.out.put h1 100).res (.int .i64 0) (.int .i64 100)
      have q0' := cell_of_row _ _ 0 _ _ _ q
      have q1' := cell_of_row _ _ 1 _ _ _ q
      refine bodyPost_ret (v := .agg #[.int .i64 0, .int .i64 100]) (by simp [results, Tryz.results83, go_sem, q0', q1']) rfl ⟨_, _, rfl, by omega, by omega, by omega, by omega, ?_⟩
      exact (((HSg.out.put h1 100).drawn.setCell h (Nat.le_refl _) 0 _).setCell h (Nat.le_refl _) 1 _).mono (by omega)
    · have q := two_put HSo.out.res (.int .i64 2) (.int .i64 x)
      have q0' := cell_of_row _ _ 0 _ _ _ q
      have q1' := cell_of_row _ _ 1 _ _ _ q
      refine bodyPost_ret (v := .agg #[.int .i64 2, .int .i64 x]) (by simp [results, Tryz.results83, go_sem, q0', q1']) rfl ⟨_, _, rfl, by omega, by omega, by omega, by omega, ?_⟩
      exact ((HSo.out.drawn.setCell h (Nat.le_refl _) 0 _).setCell h (Nat.le_refl _) 1 _).mono (by omega)
    · have q := two_put (HSg.out.put h1 (-1)).res (.int .i64 2) (.int .i64 (-1))
      have q0' := cell_of_row _ _ 0 _ _ _ q
      have q1' := cell_of_row _ _ 1 _ _ _ q
      refine bodyPost_ret (v := .agg #[.int .i64 2, .int .i64 (-1)]) (by simp [results, Tryz.results83, go_sem, q0', q1']) rfl ⟨_, _, rfl, by omega, by omega, by omega, by omega, ?_⟩
      exact (((HSg.out.put h1 (-1)).drawn.setCell h (Nat.le_refl _) 0 _).setCell h (Nat.le_refl _) 1 _).mono (by omega)
    · have q := two_put (HSg.out.put h1 8).res (.int .i64 2) (.int .i64 8)
      have q0' := cell_of_row _ _ 0 _ _ _ q
      have q1' := cell_of_row _ _ 1 _ _ _ q
      refine bodyPost_ret (v := .agg #[.int .i64 2, .int .i64 8]) (by simp [results, Tryz.results83, go_sem, q0', q1']) rfl ⟨_, _, rfl, by omega, by omega, by omega, by omega, ?_⟩
      exact (((HSg.out.put h1 8).drawn.setCell h (Nat.le_refl _) 0 _).setCell h (Nat.le_refl _) 1 _).mono (by omega)
    · have q := two_put (HSg.out.put h1 40).res (.int .i64 2) (.int .i64 40)
      have q0' := cell_of_row _ _ 0 _ _ _ q
      have q1' := cell_of_row _ _ 1 _ _ _ q
      refine bodyPost_ret (v := .agg #[.int .i64 2, .int .i64 40]) (by simp [results, Tryz.results83, go_sem, q0', q1']) rfl ⟨_, _, rfl, by omega, by omega, by omega, by omega, ?_⟩
      exact (((HSg.out.put h1 40).drawn.setCell h (Nat.le_refl _) 0 _).setCell h (Nat.le_refl _) 1 _).mono (by omega)
    · have q := two_put (HSg.out.put h1 100).res (.int .i64 2) (.int .i64 100)
      have q0' := cell_of_row _ _ 0 _ _ _ q
      have q1' := cell_of_row _ _ 1 _ _ _ q
      refine bodyPost_ret (v := .agg #[.int .i64 2, .int .i64 100]) (by simp [results, Tryz.results83, go_sem, q0', q1']) rfl ⟨_, _, rfl, by omega, by omega, by omega, by omega, ?_⟩
      exact (((HSg.out.put h1 100).drawn.setCell h (Nat.le_refl _) 0 _).setCell h (Nat.le_refl _) 1 _).mono (by omega)
    · have q := two_put HSo.out.res (.int .i64 3) (.int .i64 x)
      have q0' := cell_of_row _ _ 0 _ _ _ q
      have q1' := cell_of_row _ _ 1 _ _ _ q
      refine bodyPost_ret (v := .agg #[.int .i64 3, .int .i64 x]) (by simp [results, Tryz.results83, go_sem, q0', q1']) rfl ⟨_, _, rfl, by omega, by omega, by omega, by omega, ?_⟩
      exact ((HSo.out.drawn.setCell h (Nat.le_refl _) 0 _).setCell h (Nat.le_refl _) 1 _).mono (by omega)
    · have q := two_put (HSg.out.put h1 (-1)).res (.int .i64 3) (.int .i64 (-1))
      have q0' := cell_of_row _ _ 0 _ _ _ q
      have q1' := cell_of_row _ _ 1 _ _ _ q
      refine bodyPost_ret (v := .agg #[.int .i64 3, .int .i64 (-1)]) (by simp [results, Tryz.results83, go_sem, q0', q1']) rfl ⟨_, _, rfl, by omega, by omega, by omega, by omega, ?_⟩
      exact (((HSg.out.put h1 (-1)).drawn.setCell h (Nat.le_refl _) 0 _).setCell h (Nat.le_refl _) 1 _).mono (by omega)
    · have q := two_put (HSg.out.put h1 8).res (.int .i64 3) (.int .i64 8)
      have q0' := cell_of_row _ _ 0 _ _ _ q
      have q1' := cell_of_row _ _ 1 _ _ _ q
      refine bodyPost_ret (v := .agg #[.int .i64 3, .int .i64 8]) (by simp [results, Tryz.results83, go_sem, q0', q1']) rfl ⟨_, _, rfl, by omega, by omega, by omega, by omega, ?_⟩
      exact (((HSg.out.put h1 8).drawn.setCell h (Nat.le_refl _) 0 _).setCell h (Nat.le_refl _) 1 _).mono (by omega)
    · have q := two_put (HSg.out.put h1 40).res (.int .i64 3) (.int .i64 40)
      have q0' := cell_of_row _ _ 0 _ _ _ q
      have q1' := cell_of_row _ _ 1 _ _ _ q
      refine bodyPost_ret (v := .agg #[.int .i64 3, .int .i64 40]) (by simp [results, Tryz.results83, go_sem, q0', q1']) rfl ⟨_, _, rfl, by omega, by omega, by omega, by omega, ?_⟩
      exact (((HSg.out.put h1 40).drawn.setCell h (Nat.le_refl _) 0 _).setCell h (Nat.le_refl _) 1 _).mono (by omega)
    · have q := two_put (HSg.out.put h1 100).res (.int .i64 3) (.int .i64 100)
      have q0' := cell_of_row _ _ 0 _ _ _ q
      have q1' := cell_of_row _ _ 1 _ _ _ q
      refine bodyPost_ret (v := .agg #[.int .i64 3, .int .i64 100]) (by simp [results, Tryz.results83, go_sem, q0', q1']) rfl ⟨_, _, rfl, by omega, by omega, by omega, by omega, ?_⟩
      exact (((HSg.out.put h1 100).drawn.setCell h (Nat.le_refl _) 0 _).setCell h (Nat.le_refl _) 1 _).mono (by omega)
    · have q := two_put HSo.out.res (.int .i64 K) (.int .i64 0)
      have q0' := cell_of_row _ _ 0 _ _ _ q
      have q1' := cell_of_row _ _ 1 _ _ _ q
      refine bodyPost_ret (v := .agg #[.int .i64 K, .int .i64 0]) (by simp [results, Tryz.results83, go_sem, q0', q1']) rfl ⟨_, _, rfl, by omega, by omega, by omega, by omega, ?_⟩
      exact ((HSo.out.drawn.setCell h (Nat.le_refl _) 0 _).setCell h (Nat.le_refl _) 1 _).mono (by omega)
    · have q := two_put (HSg.out.put h1 (-1)).res (.int .i64 K) (.int .i64 (-1))
      have q0' := cell_of_row _ _ 0 _ _ _ q
      have q1' := cell_of_row _ _ 1 _ _ _ q
      refine bodyPost_ret (v := .agg #[.int .i64 K, .int .i64 (-1)]) (by simp [results, Tryz.results83, go_sem, q0', q1']) rfl ⟨_, _, rfl, by omega, by omega, by omega, by omega, ?_⟩
      exact (((HSg.out.put h1 (-1)).drawn.setCell h (Nat.le_refl _) 0 _).setCell h (Nat.le_refl _) 1 _).mono (by omega)
    · have q := two_put (HSg.out.put h1 8).res (.int .i64 K) (.int .i64 8)
      have q0' := cell_of_row _ _ 0 _ _ _ q
      have q1' := cell_of_row _ _ 1 _ _ _ q
      refine bodyPost_ret (v := .agg #[.int .i64 K, .int .i64 8]) (by simp [results, Tryz.results83, go_sem, q0', q1']) rfl ⟨_, _, rfl, by omega, by omega, by omega, by omega, ?_⟩
      exact (((HSg.out.put h1 8).drawn.setCell h (Nat.le_refl _) 0 _).setCell h (Nat.le_refl _) 1 _).mono (by omega)
    · have q := two_put (HSg.out.put h1 40).res (.int .i64 K) (.int .i64 40)
      have q0' := cell_of_row _ _ 0 _ _ _ q
      have q1' := cell_of_row _ _ 1 _ _ _ q
      refine bodyPost_ret (v := .agg #[.int .i64 K, .int .i64 40]) (by simp [results, Tryz.results83, go_sem, q0', q1']) rfl ⟨_, _, rfl, by omega, by omega, by omega, by omega, ?_⟩
      exact (((HSg.out.put h1 40).drawn.setCell h (Nat.le_refl _) 0 _).setCell h (Nat.le_refl _) 1 _).mono (by omega)
    · have q := two_put (HSg.out.put h1 100).res (.int .i64 K) (.int .i64 100)
      have q0' := cell_of_row _ _ 0 _ _ _ q
      have q1' := cell_of_row _ _ 1 _ _ _ q
      refine bodyPost_ret (v := .agg #[.int .i64 K, .int .i64 100]) (by simp [results, Tryz.results83, go_sem, q0', q1']) rfl ⟨_, _, rfl, by omega, by omega, by omega, by omega, ?_⟩
      exact (((HSg.out.put h1 100).drawn.setCell h (Nat.le_refl _) 0 _).setCell h (Nat.le_refl _) 1 _).mono (by omega)
end Go.Proofs.YtccdfndnjjjgfaaGreatDoor
