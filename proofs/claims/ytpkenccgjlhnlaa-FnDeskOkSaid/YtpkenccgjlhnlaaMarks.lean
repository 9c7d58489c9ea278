/-
  The marks of the exact laws: markText, markStringS, heldStringS, markDesk, heldDesk.
-/
import Derived.Test.YtpkenccgjlhnlaaDeskDone
import Derived.Test.YtpkenccgjlhnlaaDeed
import Derived.Test.YtpkenccgjlhnlaaDeskNew
namespace Go.Proofs.Ytpkenccgjlhnlaa
open Go.RowKit

/-- The digits of a number ahead of a text. -/
def digs : Nat → Nat → List UInt8 → List UInt8
  | 0, _, o => o
  | f + 1, k, o => if k = 0 then o else digs f (k / 10) (UInt8.ofNat (48 + k % 10) :: o)
theorem digs_zero (f : Nat) (o : List UInt8) : digs f 0 o = o := by cases f <;> simp [digs]
theorem digs_step {f k : Nat} (hk : 0 < k) (hf : k ≤ f) (o : List UInt8) : ∃ g, k / 10 ≤ g ∧ digs f k o = digs g (k / 10) (UInt8.ofNat (48 + k % 10) :: o) := by
  obtain ⟨g, rfl⟩ : ∃ g, f = g + 1 := ⟨f - 1, by omega⟩
  exact ⟨g, by omega, by simp only [digs]; rw [if_neg (by omega)]⟩
/-- The mark of a number. -/
def markOf (k : Nat) : ByteArray := Tw.str (109 :: digs k k [])
def marksOf (k n : Nat) : List ByteArray := (List.range n).map fun i => markOf (k + i)
theorem marks_length (k n : Nat) : (marksOf k n).length = n := by simp [marksOf]
theorem marks_at {k n i : Nat} (h : i < n) : (marksOf k n)[i]? = some (markOf (k + i)) := by simp [marksOf, h]
theorem marks_zero (k : Nat) : marksOf k 0 = [] := rfl
theorem marks_succ (k n : Nat) : marksOf k (n + 1) = marksOf k n ++ [markOf (k + n)] := by unfold marksOf; rw [List.range_succ, List.map_append]; rfl
/-- All that is no part of a slice's own block lies as it lay. -/
structure But (v : Value) (w w' : World) : Prop where
  os : w'.os = w.os
  tape : w'.tape = w.tape
  output : w'.output = w.output
  size : w.heap.size ≤ w'.heap.size
  block : ∀ k, k < w.heap.size → v.ownBlock ≠ some k → w'.heap[k]? = w.heap[k]?
theorem But.refl (v : Value) (w : World) : But v w w := ⟨rfl, rfl, rfl, Nat.le_refl _, fun _ _ _ => rfl⟩
theorem But.trans {v : Value} {a b c : World} (h : But v a b) (k : But v b c) : But v a c :=
  ⟨k.os.trans h.os, k.tape.trans h.tape, k.output.trans h.output, Nat.le_trans h.size k.size, fun i hi hn => (k.block i (Nat.lt_of_lt_of_le hi h.size) hn).trans (h.block i hi hn)⟩
theorem But.of {v : Value} {w w' : World} (h : Below w.heap.size w w') : But v w w' := ⟨h.os, h.tape, h.output, h.size, fun k hk _ => h.block k hk⟩
theorem But.setCell {v : Value} (w : World) {a : Addr} (h : v.ownBlock = some a.block) (u : Value) : But v w (w.setCell a u) :=
  ⟨rfl, rfl, rfl, by simp, fun k _ hk => heap_setCell_other w a k _ (fun e => hk (by rw [h, e]))⟩
theorem But.below {v : Value} {w w' : World} {B : Nat} (h : But v w w') (hv : Fresh B v) (hB : B ≤ w.heap.size) : Below B w w' :=
  ⟨h.os, h.tape, h.output, h.size, fun k hk => h.block k (by omega) (fun e => by have := hv k e; omega)⟩
theorem But.past {v u : Value} {w w' : World} {ys : List ByteArray} (h : But v w w') (hp : PastAt w u ys) (hne : ∀ b, v.ownBlock = some b → u.ownBlock ≠ some b) : PastAt w' u ys := by
  rcases hp with hp | ⟨g, off, cap, cur, rfl, hl, hg, hc, hz⟩
  · exact .inl hp
  · exact .inr ⟨g, off, cap, cur, rfl, hl, (h.block g (lt_at hg) (fun e => hne g e rfl)).trans hg, hc, hz⟩
theorem But.strs {v u : Value} {w w' : World} {ys : List ByteArray} (h : But v w w') (hp : StrsAt w u ys) (hlt : ∀ b, v.ownBlock = some b → u.ownBlock ≠ some b) : StrsAt w' u ys := by
  rcases hp with hp | ⟨a, cap, rfl, hl, hc⟩
  · exact .inl hp
  · refine .inr ⟨a, cap, rfl, hl, fun j z hz => ?_⟩
    have h1 := hc j z hz
    have hb := World.block_lt_of_cell? w _ h1
    rw [add_block] at hb
    rw [← h1]
    refine World.cell?_of_block (h.block _ (by rw [add_block]; exact hb) (fun e => ?_))
    rw [add_block] at e
    exact hlt _ e rfl

theorem add_plain (g off j : Nat) : (⟨g, off, none⟩ : Addr).add j = ⟨g, off + j, none⟩ := by unfold Addr.add; split <;> simp_all
/-- One text of a row is put in. -/
theorem past_set {w : World} {a : Addr} {n cap j : Nat} {zs : List ByteArray} (h : PastAt w (.slice (some a) n cap) zs) (hj : j < n) (z : ByteArray) : PastAt (w.setCell (a.add j) (.string z)) (.slice (some a) n cap) (zs.set j z) := by
  rcases h with ⟨h, _⟩ | ⟨g, off, cap', cur, he, hl, hg, hc, hz⟩
  · cases h
  · simp only [Value.slice.injEq, Option.some.injEq] at he
    obtain ⟨rfl, rfl, rfl⟩ := he
    have e := add_plain g off j
    rw [e]
    refine .inr ⟨g, off, cap, cur.set! (off + j) (.string z), by rw [List.length_set], by rw [List.length_set]; exact hl, ?_, by simpa using hc, fun i y hi => ?_⟩
    · simp [World.setCell, Array.getElem?_modify, hg]
    · rw [List.getElem?_set] at hi
      rw [Array.set!_eq_setIfInBounds, Array.getElem?_setIfInBounds]
      split at hi
      · rename_i hij
        subst hij
        rw [if_pos rfl, if_pos (by omega)]
        exact congrArg some (congrArg Value.string (Option.some.inj hi))
      · rename_i hij
        rw [if_neg (by omega)]
        exact hz i y hi
theorem past_cell {w : World} {a : Addr} {n cap j : Nat} {zs : List ByteArray} (h : PastAt w (.slice (some a) n cap) zs) (hj : j < n) (hn : zs.length = n) : ∃ z, zs[j]? = some z ∧ w.cell? (a.add j) = some (.string z) ∧ w.frozen? (a.add j) = false := by
  rcases h with ⟨h, _⟩ | ⟨g, off, cap', cur, he, hl, hg, hc, hz⟩
  · cases h
  · simp only [Value.slice.injEq, Option.some.injEq] at he
    obtain ⟨rfl, _, _⟩ := he
    have e := add_plain g off j
    refine ⟨zs[j]'(by omega), List.getElem?_eq_getElem _, ?_, ?_⟩
    · rw [e]
      exact (cell_of_row _ _ _ _ _ _ hg).trans (hz j _ (List.getElem?_eq_getElem _))
    · rw [e]
      exact frozen_of_row _ _ _ _ _ hg
theorem set_take {zs : List ByteArray} {k j : Nat} (h : zs.take j = marksOf k j) (hj : j < zs.length) : (zs.set j (markOf (k + j))).take (j + 1) = marksOf k (j + 1) := by
  rw [marks_succ, List.take_add_one, List.take_set_of_le (Nat.le_refl _), h, List.getElem?_set, if_pos rfl, if_pos hj]
  rfl






end Go.Proofs.Ytpkenccgjlhnlaa
