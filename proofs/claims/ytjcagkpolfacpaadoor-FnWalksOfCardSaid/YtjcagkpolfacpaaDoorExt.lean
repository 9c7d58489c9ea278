/-
  Worlds that only gain memory; desks in boxes: what stays of them while other memory is written.
-/
import Derived.Test.YtjcagkpolfacpaaDoorMarks
import Derived.Test.YtjcagkpolfacpaaDoorDeskImpl
namespace Go.Proofs.YtjcagkpolfacpaaDoor
open Go.RowKit

theorem past_value {w : World} {v : Value} {zs : List ByteArray} (h : PastAt w v zs) : ∃ a c, v = .slice a zs.length c := strs_value h.strs
/-- All that was there is there. -/
def Ext (a X : World) : Prop := Below a.heap.size a X
theorem Ext.refl (a : World) : Ext a a := Below.refl _ _
theorem Ext.drew {a X : World} (h : Ext a X) : Ext a X.drew := Below.drew h
theorem Ext.size {a X : World} (h : Ext a X) : a.heap.size ≤ X.heap.size := Below.size h
theorem Ext.alloc {a X : World} (h : Ext a X) (o : Obj) : Ext a (X.alloc o) := Below.alloc h (Ext.size h) o
theorem Ext.call {a X Y : World} (h : Ext a X) (hb : Below X.heap.size X Y) : Ext a Y := Below.trans h (hb.mono (Ext.size h))
theorem Ext.trans {a X Y : World} (h : Ext a X) (k : Ext X Y) : Ext a Y := Ext.call h k
theorem Ext.setCell {a X : World} (h : Ext a X) {p : Addr} (hp : a.heap.size ≤ p.block) (u : Value) : Ext a (X.setCell p u) := Below.setCell h hp u
theorem Ext.below {a X w : World} {B : Nat} (hb : Below B w a) (h : Ext a X) (hB : B ≤ a.heap.size) : Below B w X := hb.trans (Below.mono h hB)
theorem Ext.row {a X : World} (h : Ext a X) {b : Nat} {o : Obj} (hr : a.heap[b]? = some o) : X.heap[b]? = some o := (Below.block h b (lt_at hr)).trans hr
theorem Ext.strs {a X : World} (h : Ext a X) {v : Value} {zs : List ByteArray} (k : StrsAt a v zs) : StrsAt X v zs := k.below' h
theorem Ext.past {a X : World} (h : Ext a X) {v : Value} {zs : List ByteArray} (k : PastAt a v zs) : PastAt X v zs := k.below h
theorem box_keep {Y W : World} {o : Array Value} {t : TypeId} (h : Below (Y.alloc (.cells o t)).heap.size (Y.alloc (.cells o t)) W) : W.heap[Y.heap.size]? = some (.cells o t (0, 0)) := Ext.row h (heap_alloc_new Y _)
theorem box_keep_drew {Y W : World} {o : Array Value} {t : TypeId} (h : Below (Y.alloc (.cells o t)).drew.heap.size (Y.alloc (.cells o t)).drew W) : W.heap[Y.heap.size]? = some (.cells o t (0, 0)) := Ext.row h (heap_alloc_new Y _)

theorem heap_alloc_new' (Y : World) (o : Obj) : (Y.alloc o).heap[Y.heap.size]? = some o := by
  show (Y.heap.push o)[Y.heap.size]? = _
  simp
theorem fresh_ext {a X : World} {v : Value} (h : Ext a X) (hf : Fresh X.heap.size v) : Fresh a.heap.size v := fun b hb => Nat.le_trans (Ext.size h) (hf b hb)
theorem fresh_ne {X : World} {v : Value} {N : Nat} {o : Obj} (hf : Fresh X.heap.size v) (hN : X.heap[N]? = some o) : v.ownBlock ≠ some N := fun e => by
  have := hf N e
  have := lt_at hN
  omega
theorem box_ne {Y : World} {v : Value} {o : Obj} (hf : Fresh (Y.alloc o).heap.size v) : v.ownBlock ≠ some Y.heap.size := fresh_ne hf (heap_alloc_new' Y o)
theorem box_ne_drew {Y : World} {v : Value} {o : Obj} (hf : Fresh (Y.alloc o).drew.heap.size v) : v.ownBlock ≠ some Y.heap.size := fresh_ne hf (heap_alloc_new' Y o)
theorem past_lt {w : World} {v : Value} {ys : List ByteArray} (h : PastAt w v ys) {b : Nat} (hb : v.ownBlock = some b) : b < w.heap.size := by
  rcases h with ⟨rfl, _⟩ | ⟨g, off, cap, cur, rfl, _, hg, _⟩
  · cases hb
  · obtain rfl : g = b := Option.some.inj hb
    exact lt_at hg
theorem past_belowB {w w' : World} {v : Value} {ys : List ByteArray} {B : Nat} (h : PastAt w v ys) (hv : ∀ b, v.ownBlock = some b → b < B) (hb : Below B w w') : PastAt w' v ys := by
  rcases h with h | ⟨g, off, cap, cur, rfl, hl, hg, hc, hz⟩
  · exact .inl h
  · exact .inr ⟨g, off, cap, cur, rfl, hl, (hb.block _ (hv g rfl)).trans hg, hc, hz⟩

theorem Ext.but {a X Y : World} {v : Value} {B : Nat} (h : Ext a X) (k : But v X Y) (hf : Fresh B v) (hB : a.heap.size ≤ B) : Ext a Y := Below.trans h (k.below (fun b hb => Nat.le_trans hB (hf b hb)) (Ext.size h))
theorem past_slice {w : World} {v : Value} {ys : List ByteArray} (h : PastAt w v ys) {M : Nat} (hM : ys.length = M) : ∃ a c, v = .slice a M c := hM ▸ past_value h



end Go.Proofs.YtjcagkpolfacpaaDoor
