/-
  Worlds that only gain memory; desks in boxes: what stays of them while other memory is written.
-/
import Derived.Test.YtccdfndnjjjgfaaGreatDoorMarks
import Derived.Test.YtccdfndnjjjgfaaGreatDoorDeskImpl
namespace Go.Proofs.YtccdfndnjjjgfaaGreatDoor
open Go.RowKit

/-- All that was there is there. -/
def Ext (a X : World) : Prop := Below a.heap.size a X
theorem Ext.refl (a : World) : Ext a a := Below.refl _ _
theorem Ext.drew {a X : World} (h : Ext a X) : Ext a X.drew := Below.drew h
theorem Ext.size {a X : World} (h : Ext a X) : a.heap.size ≤ X.heap.size := Below.size h
theorem Ext.alloc {a X : World} (h : Ext a X) (o : Obj) : Ext a (X.alloc o) := Below.alloc h (Ext.size h) o
theorem Ext.call {a X Y : World} (h : Ext a X) (hb : Below X.heap.size X Y) : Ext a Y := Below.trans h (hb.mono (Ext.size h))
theorem Ext.trans {a X Y : World} (h : Ext a X) (k : Ext X Y) : Ext a Y := Ext.call h k
theorem Ext.setCell {a X : World} (h : Ext a X) {p : Addr} (hp : a.heap.size ≤ p.block) (u : Value) : Ext a (X.setCell p u) := Below.setCell h hp u
theorem Ext.below {a X w : World} {B : Nat} (hb : Below B w a) (h : Ext a X) (hB : B ≤ a.heap.size) : Below B w X := hb.trans (Below.mono h hB)
theorem Ext.row {a X : World} (h : Ext a X) {b : Nat} {o : Obj} (hr : a.heap[b]? = some o) : X.heap[b]? = some o := (Below.block h b (lt_at hr)).trans hr
theorem Ext.strs {a X : World} (h : Ext a X) {v : Value} {zs : List ByteArray} (k : StrsAt a v zs) : StrsAt X v zs := k.below' h
theorem Ext.past {a X : World} (h : Ext a X) {v : Value} {zs : List ByteArray} (k : PastAt a v zs) : PastAt X v zs := k.below h
theorem box_keep {Y W : World} {o : Array Value} {t : TypeId} (h : Below (Y.alloc (.cells o t)).heap.size (Y.alloc (.cells o t)) W) : W.heap[Y.heap.size]? = some (.cells o t (0, 0)) := Ext.row h (heap_alloc_new Y _)
theorem box_keep_drew {Y W : World} {o : Array Value} {t : TypeId} (h : Below (Y.alloc (.cells o t)).drew.heap.size (Y.alloc (.cells o t)).drew W) : W.heap[Y.heap.size]? = some (.cells o t (0, 0)) := Ext.row h (heap_alloc_new Y _)

theorem heap_alloc_new' (Y : World) (o : Obj) : (Y.alloc o).heap[Y.heap.size]? = some o := by
  show (Y.heap.push o)[Y.heap.size]? = _
  simp
theorem fresh_ext {a X : World} {v : Value} (h : Ext a X) (hf : Fresh X.heap.size v) : Fresh a.heap.size v := fun b hb => Nat.le_trans (Ext.size h) (hf b hb)
theorem fresh_ne {X : World} {v : Value} {N : Nat} {o : Obj} (hf : Fresh X.heap.size v) (hN : X.heap[N]? = some o) : v.ownBlock ≠ some N := fun e => by
  have := hf N e
  have := lt_at hN
  omega
theorem box_ne {Y : World} {v : Value} {o : Obj} (hf : Fresh (Y.alloc o).heap.size v) : v.ownBlock ≠ some Y.heap.size := fresh_ne hf (heap_alloc_new' Y o)
theorem box_ne_drew {Y : World} {v : Value} {o : Obj} (hf : Fresh (Y.alloc o).drew.heap.size v) : v.ownBlock ≠ some Y.heap.size := fresh_ne hf (heap_alloc_new' Y o)
theorem past_lt {w : World} {v : Value} {ys : List ByteArray} (h : PastAt w v ys) {b : Nat} (hb : v.ownBlock = some b) : b < w.heap.size := by
  rcases h with ⟨rfl, _⟩ | ⟨g, off, cap, cur, rfl, _, hg, _⟩
  · cases hb
  · obtain rfl : g = b := Option.some.inj hb
    exact lt_at hg
theorem past_belowB {w w' : World} {v : Value} {ys : List ByteArray} {B : Nat} (h : PastAt w v ys) (hv : ∀ b, v.ownBlock = some b → b < B) (hb : Below B w w') : PastAt w' v ys := by
  rcases h with h | ⟨g, off, cap, cur, rfl, hl, hg, hc, hz⟩
  · exact .inl h
  · exact .inr ⟨g, off, cap, cur, rfl, hl, (hb.block _ (hv g rfl)).trans hg, hc, hz⟩

theorem Ext.but {a X Y : World} {v : Value} {B : Nat} (h : Ext a X) (k : But v X Y) (hf : Fresh B v) (hB : a.heap.size ≤ B) : Ext a Y := Below.trans h (k.below (fun b hb => Nat.le_trans hB (hf b hb)) (Ext.size h))
theorem past_slice {w : World} {v : Value} {ys : List ByteArray} (h : PastAt w v ys) {M : Nat} (hM : ys.length = M) : ∃ a c, v = .slice a M c := hM ▸ past_value h
/-- A desk in a box, all of it below B and, from A on, in memory of its own. -/
structure BoxB (A B : Nat) (W : World) (N : Nat) (x : ByteArray) (v : Value) (ys : List ByteArray) : Prop where
  row : W.heap[N]? = some (.cells #[.string x, v] 27 (0, 0))
  past : PastAt W v ys
  ne : v.ownBlock ≠ some N
  ge : A ≤ N
  fresh : Fresh A v
  lt : N < B
  vlt : ∀ b, v.ownBlock = some b → b < B
theorem BoxB.cells {A B : Nat} {W : World} {N : Nat} {x : ByteArray} {v : Value} {ys : List ByteArray} (h : BoxB A B W N x v ys) : W.cell? ⟨N, 0, none⟩ = some (.string x) ∧ W.cell? ⟨N, 1, none⟩ = some v := ⟨cell_of_row _ _ 0 _ _ _ h.row, cell_of_row _ _ 1 _ _ _ h.row⟩
theorem BoxB.ext {A B : Nat} {W X : World} {N : Nat} {x : ByteArray} {v : Value} {ys : List ByteArray} (h : BoxB A B W N x v ys) (k : Ext W X) : BoxB A B X N x v ys := ⟨k.row h.row, k.past h.past, h.ne, h.ge, h.fresh, h.lt, h.vlt⟩
theorem BoxB.below {A B C : Nat} {W X : World} {N : Nat} {x : ByteArray} {v : Value} {ys : List ByteArray} (h : BoxB A B W N x v ys) (k : Below C W X) (hC : B ≤ C) : BoxB A B X N x v ys :=
  ⟨(k.block N (by have := h.lt; omega)).trans h.row, past_belowB h.past h.vlt (k.mono hC), h.ne, h.ge, h.fresh, h.lt, h.vlt⟩
/-- Another slice's own block is written: a desk that lies elsewhere stays. -/
theorem BoxB.but {A B : Nat} {W X : World} {N : Nat} {x : ByteArray} {v u : Value} {ys : List ByteArray} (h : BoxB A B W N x v ys) (k : But u W X) (hu : ∀ b, u.ownBlock = some b → b < A) : BoxB A B X N x v ys :=
  ⟨(k.block N (lt_at h.row) (fun e => by have := hu N e; have := h.ge; omega)).trans h.row, k.past h.past (fun b hb e => by have := hu b hb; have := h.fresh b e; omega), h.ne, h.ge, h.fresh, h.lt, h.vlt⟩
/-- Its own slice is written. -/
theorem BoxB.own {A B : Nat} {W X : World} {N : Nat} {x : ByteArray} {v : Value} {ys zs : List ByteArray} (h : BoxB A B W N x v ys) (k : But v W X) (hp : PastAt X v zs) : BoxB A B X N x v zs :=
  ⟨(k.block N (lt_at h.row) h.ne).trans h.row, hp, h.ne, h.ge, h.fresh, h.lt, h.vlt⟩
theorem box_new {A : Nat} {X : World} {x : ByteArray} {v : Value} {ys : List ByteArray} (hp : PastAt X v ys) (hf : Fresh A v) (hA : A ≤ X.heap.size) : BoxB A (X.alloc (.cells #[.string x, v] 27)).heap.size (X.alloc (.cells #[.string x, v] 27)) X.heap.size x v ys :=
  ⟨heap_alloc_new X _, ((Ext.refl X).alloc _).past hp, fun e => by have := past_lt hp e; omega, hA, hf, by simp, fun b hb => by have := past_lt hp hb; simp; omega⟩
theorem box_set {A N : Nat} {X : World} {x : ByteArray} {v a b : Value} {ys : List ByteArray} (hN : X.heap[N]? = some (.cells #[a, b] 27 (0, 0))) (hp : PastAt X v ys) (hf : Fresh A v) (hne : v.ownBlock ≠ some N) (hA : A ≤ N) :
    BoxB A ((X.setCell ⟨N, 0, none⟩ (.string x)).setCell ⟨N, 1, none⟩ v).heap.size ((X.setCell ⟨N, 0, none⟩ (.string x)).setCell ⟨N, 1, none⟩ v) N x v ys :=
  ⟨pair_put hN _ _, past_put (past_put hp _ _ hne) _ _ hne, hne, hA, hf, by simpa [World.setCell] using lt_at hN, fun c hc => by simpa [World.setCell] using past_lt hp hc⟩

theorem toDesk_past (s : ByteArray) (v : Value) (zs : List ByteArray) (w : World) (h : StrsAt w v zs) (L : Nat) (hL : zs.length = L) (hn : L ≤ 1048576) :
    Calls Tryz.prog 11 #[.agg #[.string s, v]] w fun e w' => ∃ g, e = .returned (.agg #[.string s, .slice (some ⟨g, 0, none⟩) L L]) ∧ PastAt w' (.slice (some ⟨g, 0, none⟩) L L) zs ∧ w.heap.size ≤ g ∧ Below w.heap.size w w' := by
  subst hL
  refine (toDesk_any s v zs w h hn).mono ?_
  rintro e w' ⟨g, rfl, hown, hb⟩
  exact ⟨g, rfl, past_own hown, (hown.lt g rfl).1, hb⟩

theorem markDesk_one (s : ByteArray) (v : Value) (zs : List ByteArray) (w : World) (h : PastAt w v zs) (L : Nat) (hL : zs.length = L) (hn : L ≤ 1048577) :
    Calls Tryz.prog 16 #[.agg #[.string s, v], .int .i64 1] w fun e w' => e = .returned (.int .i64 (1 + (L : Int))) ∧ PastAt w' v (marksOf 1 L) ∧ But v w w' := by
  subst hL
  exact markDesk_any s v zs 1 w h hn (by omega) (by omega)
theorem heldDesk_one (s : ByteArray) (v : Value) (n : Nat) (w : World) (h : PastAt w v (marksOf 1 n)) (hn : n ≤ 1048577) :
    Calls Tryz.prog 18 #[.agg #[.string s, v], .int .i64 1] w fun e w' => e = .returned (.int .i64 (1 + (n : Int))) ∧ Below w.heap.size w w' := heldDesk_any s v n 1 w h hn (by omega) (by omega)

end Go.Proofs.YtccdfndnjjjgfaaGreatDoor
