/-
  The end of l20Desk: a desk that may be spoilt.
-/
import Derived.Test.YtpkenccgjlhnlaaDoorDrawDeed
import Derived.Test.YtpkenccgjlhnlaaDoorDeskRun
import Derived.Test.YtpkenccgjlhnlaaDoorAppendPast
namespace Go.Proofs.YtpkenccgjlhnlaaDoor
open Go.RowKit

theorem Drawn.belowB {w W W' W1 : World} {R n p k k0 : Nat} {v : Value} (h : Drawn w W R v n p k) (h0 : Drawn w W1 R v n p k0) (hb : Below W1.heap.size W W') : Drawn w W' R v n p k := by
  obtain ⟨p', hp, hr, hg⟩ := h
  obtain ⟨p0, _, hr0, hg0⟩ := h0
  have hlR := hr0.lt
  have hsz := hg0.size
  refine ⟨p', hp, ⟨(hb.block R hlR).trans hr.cells, ?_, hr.few, hr.off⟩, ⟨hb.os.trans hg.os, hb.tape.trans hg.tape, hb.output.trans hg.output, Nat.le_trans hg.size hb.size, fun i hi hR => (hb.block i (by omega)).trans (hg.block i hi hR)⟩⟩
  rcases hr.code with hc | ⟨a, cap, hv, hl, hc⟩
  · exact .inl hc
  · refine .inr ⟨a, cap, hv, hl, fun i hi => ?_⟩
    obtain ⟨b, h1, h2, h3⟩ := hc i hi
    refine ⟨b, h1, h2, ?_⟩
    have hlt : a.block < W1.heap.size := by
      rcases hr0.code with ⟨hv0, _⟩ | ⟨a0, cap0, hv0, _, hc0⟩
      · rw [hv0] at hv
        cases hv
      · rw [hv0] at hv
        simp only [Value.slice.injEq, Option.some.injEq] at hv
        obtain ⟨rfl, _, _⟩ := hv
        obtain ⟨_, _, _, h4⟩ := hc0 i hi
        have := World.block_lt_of_cell? W1 _ h4
        rwa [show (a0.add i).block = a0.block by unfold Addr.add; split <;> rfl] at this
    rw [← h3]
    exact World.cell?_of_block (hb.block _ (by rw [show (a.add i).block = a.block by unfold Addr.add; split <;> rfl]; exact hlt))
theorem past_grown {X X' : World} {v : Value} {zs : List ByteArray} {R : Nat} (h : PastAt X v zs) (hg : X.grownBy X' (some R)) (hne : v.ownBlock ≠ some R) : PastAt X' v zs := by
  rcases h with h | ⟨g, off, cap, cur, rfl, hl, hr, hc, hz⟩
  · exact .inl h
  · exact .inr ⟨g, off, cap, cur, rfl, hl, grow_row' hg hr (fun e => hne (by rw [← e]; rfl)), hc, hz⟩

structure FinSt (w W1 X : World) (R D B : Nat) (v0 : Value) (n p m : Nat) (s : ByteArray) (v : Value) (zs : List ByteArray) : Prop where
  row : X.heap[D]? = some (.cells #[.string s, v] 25 (0, 0))
  past : PastAt X v zs
  ne : v.ownBlock ≠ some D
  ge : W1.heap.size ≤ D
  fresh : Fresh W1.heap.size v
  drawn : Drawn w X R v0 n p m
  res : X.heap[B]? = some (.cells #[.string ⟨#[]⟩, .slice none 0 0] 25 (0, 0))
  size : W1.heap.size ≤ X.heap.size
  hs : s.size ≤ 41
  hl : zs.length ≤ 9
  hz : ∀ z ∈ zs, z.size ≤ 41
section
variable {w W1 X : World} {R D B n p m k0 : Nat} {v0 : Value} {s : ByteArray} {v : Value} {zs : List ByteArray}
theorem FinSt.facts (h : FinSt w W1 X R D B v0 n p m s v zs) : X.cell? ⟨D, 0, none⟩ = some (.string s) ∧ X.cell? ⟨D, 1, none⟩ = some v ∧ X.frozen? ⟨D, 0, none⟩ = false ∧ X.frozen? ⟨D, 1, none⟩ = false ∧ X.cell? ⟨B, 0, none⟩ = some (.string ⟨#[]⟩) ∧ X.cell? ⟨B, 1, none⟩ = some (.slice none 0 0) ∧ X.frozen? ⟨B, 0, none⟩ = false ∧ X.frozen? ⟨B, 1, none⟩ = false :=
  ⟨cell_of_row _ _ 0 _ _ _ h.row, cell_of_row _ _ 1 _ _ _ h.row, frozen_of_row _ _ 0 _ _ h.row, frozen_of_row _ _ 1 _ _ h.row, cell_of_row _ _ 0 _ _ _ h.res, cell_of_row _ _ 1 _ _ _ h.res, frozen_of_row _ _ 0 _ _ h.res, frozen_of_row _ _ 1 _ _ h.res⟩
theorem FinSt.grown (h : FinSt w W1 X R D B v0 n p m s v zs) {X' : World} {m' : Nat} (hg : X.grownBy X' (some R)) (hd : Drawn w X' R v0 n p m') (hR : R < W1.heap.size) (hB : B ≠ R) : FinSt w W1 X' R D B v0 n p m' s v zs :=
  ⟨grow_row' hg h.row (by have := h.ge; omega), past_grown h.past hg (fun e => by have := h.fresh R e; omega), h.ne, h.ge, h.fresh, hd, grow_row' hg h.res hB, Nat.le_trans h.size hg.size, h.hs, h.hl, h.hz⟩
theorem FinSt.alloc (h : FinSt w W1 X R D B v0 n p m s v zs) (o : Obj) : FinSt w W1 (X.alloc o) R D B v0 n p m s v zs :=
  ⟨row_alloc h.row o, ((Ext.refl X).alloc o).past h.past, h.ne, h.ge, h.fresh, h.drawn.alloc o, row_alloc h.res o, by have := h.size; simp; omega, h.hs, h.hl, h.hz⟩
theorem FinSt.putx (h : FinSt w W1 X R D B v0 n p m s v zs) (h0 : Drawn w W1 R v0 n p k0) (hB : B < W1.heap.size) (x : ByteArray) (hx : x.size ≤ 41) : FinSt w W1 (X.setCell ⟨D, 0, none⟩ (.string x)) R D B v0 n p m x v zs :=
  ⟨by simp [World.setCell, Array.getElem?_modify, h.row], past_put h.past _ _ h.ne, h.ne, h.ge, h.fresh, h.drawn.setCell h0 h.ge 0 _, (heap_setCell_other _ _ _ _ (by have := h.ge; show B ≠ D; omega)).trans h.res, by simpa [World.setCell] using h.size, hx, h.hl, h.hz⟩
theorem FinSt.app (h : FinSt w W1 X R D B v0 n p m s v zs) (h0 : Drawn w W1 R v0 n p k0) (hB : B < W1.heap.size) (hl8 : zs.length ≤ 8) {X' : World} {v' : Value} {z : ByteArray} (hz : z.size ≤ 41) (hp : PastAt X' v' (zs ++ [z])) (hb : But v X X') (hf : ∀ g, v'.ownBlock = some g → v.ownBlock = some g ∨ X.heap.size ≤ g) : FinSt w W1 (X'.setCell ⟨D, 1, none⟩ v') R D B v0 n p m s v' (zs ++ [z]) := by
  have hbb := hb.below h.fresh h.size
  have hDX := lt_at h.row
  have hge := h.ge
  have hne : v'.ownBlock ≠ some D := fun e => by
    rcases hf D e with h1 | h1
    · exact h.ne h1
    · omega
  have hrow : X'.heap[D]? = some (.cells #[.string s, v] 25 (0, 0)) := (hb.block D hDX h.ne).trans h.row
  refine ⟨by simp [World.setCell, Array.getElem?_modify, hrow], past_put hp _ _ hne, hne, h.ge, fun g hg => ?_, (h.drawn.belowB h0 hbb).setCell h0 h.ge 1 _, (heap_setCell_other _ _ _ _ (by show B ≠ D; omega)).trans ((hbb.block B hB).trans h.res), by simpa [World.setCell] using Nat.le_trans h.size hb.size, h.hs, by simp; omega, fun y hy => ?_⟩
  · rcases hf g hg with h1 | h1
    · exact h.fresh g h1
    · have := h.size
      omega
  · rcases List.mem_append.1 hy with h1 | h1
    · exact h.hz y h1
    · rw [List.mem_singleton.1 h1]
      exact hz
theorem FinSt.but_facts (h : FinSt w W1 X R D B v0 n p m s v zs) (hB : B < W1.heap.size) {X' : World} (hb : But v X X') : X'.cell? ⟨D, 0, none⟩ = some (.string s) ∧ X'.cell? ⟨D, 1, none⟩ = some v ∧ X'.frozen? ⟨D, 0, none⟩ = false ∧ X'.frozen? ⟨D, 1, none⟩ = false ∧ X'.cell? ⟨B, 0, none⟩ = some (.string ⟨#[]⟩) ∧ X'.cell? ⟨B, 1, none⟩ = some (.slice none 0 0) ∧ X'.frozen? ⟨B, 0, none⟩ = false ∧ X'.frozen? ⟨B, 1, none⟩ = false := by
  have hrow := (hb.block D (lt_at h.row) h.ne).trans h.row
  have hres := ((hb.below h.fresh h.size).block B hB).trans h.res
  exact ⟨cell_of_row _ _ 0 _ _ _ hrow, cell_of_row _ _ 1 _ _ _ hrow, frozen_of_row _ _ 0 _ _ hrow, frozen_of_row _ _ 1 _ _ hrow, cell_of_row _ _ 0 _ _ _ hres, cell_of_row _ _ 1 _ _ _ hres, frozen_of_row _ _ 0 _ _ hres, frozen_of_row _ _ 1 _ _ hres⟩
theorem FinSt.finish (h : FinSt w W1 X R D B v0 n p m s v zs) {W : World} (hW0 : Drawn w W R v0 n p k0) (hBW : B = W.heap.size) (hB : B < W1.heap.size) {k : Nat} (hk : m ≤ k) :
    ((X.setCell ⟨B, 0, none⟩ (.string s)).setCell ⟨B, 1, none⟩ v).cell? ⟨B, 0, none⟩ = some (.string s) ∧ ((X.setCell ⟨B, 0, none⟩ (.string s)).setCell ⟨B, 1, none⟩ v).cell? ⟨B, 1, none⟩ = some v ∧
    ∃ (s' : ByteArray) (v' : Value) (zs' : List ByteArray), Ending.returned (.agg #[.string s, v]) = .returned (.agg #[.string s', v']) ∧ PastAt ((X.setCell ⟨B, 0, none⟩ (.string s)).setCell ⟨B, 1, none⟩ v) v' zs' ∧ Fresh W.heap.size v' ∧ s'.size ≤ 41 ∧ zs'.length ≤ 9 ∧ (∀ z ∈ zs', z.size ≤ 41) ∧ Drawn w ((X.setCell ⟨B, 0, none⟩ (.string s)).setCell ⟨B, 1, none⟩ v) R v0 n p k := by
  have q := pair_put h.res (.string s) v
  have hne : v.ownBlock ≠ some B := fun e => by have := h.fresh B e; omega
  exact ⟨cell_of_row _ _ 0 _ _ _ q, cell_of_row _ _ 1 _ _ _ q, s, v, zs, rfl, past_put (past_put h.past _ _ hne) _ _ hne, fun g hg => by have := h.fresh g hg; omega, h.hs, h.hl, h.hz, ((h.drawn.setCell hW0 (by omega) 0 _).setCell hW0 (by omega) 1 _).mono hk⟩
end
end Go.Proofs.YtpkenccgjlhnlaaDoor
