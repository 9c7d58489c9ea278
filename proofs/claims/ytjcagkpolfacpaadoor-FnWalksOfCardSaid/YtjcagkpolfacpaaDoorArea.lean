/-
  Contracts of uprightsOf and AreaOf: the area of a closed walk.
-/
import Derived.Test.YtjcagkpolfacpaaDoorEnd
import Derived.Test.YtjcagkpolfacpaaDoorClosed
import Derived.Test.YtjcagkpolfacpaaDoorShapeLaw
import Derived.Deep.AppendLies
namespace Go.Proofs.YtjcagkpolfacpaaDoor
open Go.RowKit

def triCells (us : List (Int × Int × Int)) : List Value := us.flatMap fun u => [.int .i64 u.1, .int .i64 u.2.1, .int .i64 u.2.2]
theorem triCells_append (us vs : List (Int × Int × Int)) : triCells (us ++ vs) = triCells us ++ triCells vs := List.flatMap_append
theorem triCells_get : ∀ (us : List (Int × Int × Int)) (i : Nat) (u : Int × Int × Int), us[i]? = some u → (triCells us)[i * 3]? = some (.int .i64 u.1) ∧ (triCells us)[i * 3 + 1]? = some (.int .i64 u.2.1) ∧ (triCells us)[i * 3 + 2]? = some (.int .i64 u.2.2)
  | [], i, p, h => by simp at h
  | q :: us, 0, p, h => by
    obtain rfl : q = p := by simpa using h
    exact ⟨rfl, rfl, rfl⟩
  | q :: us, i + 1, p, h => by
    have ih := triCells_get us i p (by simpa using h)
    rw [show (i + 1) * 3 = i * 3 + 1 + 1 + 1 from by omega]
    exact ih
def sumUp (us : List (Int × Int × Int)) : Int := (us.map fun u => u.1 * u.2.2).sum
theorem sumUp_snoc (us : List (Int × Int × Int)) (u : Int × Int × Int) : sumUp (us ++ [u]) = sumUp us + u.1 * u.2.2 := by
  unfold sumUp
  rw [List.map_append, List.sum_append]
  simp
/-- What an upright may be. -/
def upright (u : Int × Int × Int) : Prop := -1000 ≤ u.1 ∧ u.1 ≤ 1000 ∧ -1000 ≤ u.2.1 ∧ u.2.1 ≤ 1000 ∧ (u.2.2 = 1 ∨ u.2.2 = -1)
def areaTo (l : List UInt8) (k : Nat) : Int := Tw.areaFrom (0, 0) (l.take k)
theorem areaTo_succ {l : List UInt8} {k : Nat} (h : k < l.length) : areaTo l (k + 1) = areaTo l k + (Tw.placeAt l k).1 * Tw.north (Tw.dir l[k]) := by
  unfold areaTo
  rw [Tw.take_snoc _ _ h, Tw.area_append]
  show _ + ((Tw.placeAt l k).1 * Tw.north (Tw.dir l[k]) + 0) = _
  omega
theorem areaTo_all (l : List UInt8) : areaTo l l.length = Tw.areaOf l := by
  unfold areaTo Tw.areaOf
  rw [List.take_length]


theorem own_set3 {w : World} {base : Nat} {e : TypeId} {size : Nat} {v : Value} {n : Nat} {xs : List Value} (h : w.ownsRow base e size v n xs) (a : Addr) (u : Value) (hne : v.ownBlock ≠ some a.block) : (w.setCell a u).ownsRow base e size v n xs :=
  h.kept (row := some a.block) ⟨rfl, rfl, rfl, by simp, fun k _ hk => heap_setCell_other w a k _ (fun e => hk (by rw [e]))⟩ (.inr hne)
/-- The next place lies in block N, that of before in its own. -/
structure NextAt (w : World) (N base n m : Nat) (t T : TypeId) (v : Value) (xs : List Value) (x y x2 y2 : Value) (W : World) : Prop where
  own : W.ownsRow base t m v n xs
  below : Below w.heap.size w W
  lt : w.heap.size < W.heap.size
  nlt : N < W.heap.size
  ne : w.heap.size ≠ N
  vne : v.ownBlock ≠ some N
  row : W.heap[w.heap.size]? = some (.cells #[x, y] T (0, 0))
  nrow : W.heap[N]? = some (.cells #[x2, y2] T (0, 0))
theorem next_set {w W : World} {N base n m : Nat} {t T : TypeId} {v x y a b : Value} {xs : List Value} (hown : W.ownsRow base t m v n xs) (hb : Below w.heap.size w W) (hlt : w.heap.size < W.heap.size) (hlN : w.heap.size < N) (hv : v.ownBlock ≠ some N)
    (hrow : W.heap[w.heap.size]? = some (.cells #[x, y] T (0, 0))) (hN : W.heap[N]? = some (.cells #[a, b] T (0, 0))) (x2 y2 : Value) : NextAt w N base n m t T v xs x y x2 y2 ((W.setCell ⟨N, 0, none⟩ x2).setCell ⟨N, 1, none⟩ y2) := by
  have hne : w.heap.size ≠ N := Nat.ne_of_lt hlN
  refine ⟨own_set3 (own_set3 hown _ _ hv) _ _ hv, (hb.setCell (by show w.heap.size ≤ N; omega) _).setCell (by show w.heap.size ≤ N; omega) _, by simpa using hlt, by simpa using lt_of_heap hN, hne, hv, ?_, two_setCell hN _ _⟩
  rw [heap_setCell_other _ _ _ _ (by simpa using hne), heap_setCell_other _ _ _ _ (by simpa using hne)]
  exact hrow
theorem grow_row {W w4 : World} {o r : Obj} {b : Nat} {row : Option Nat} (h : W.heap[b]? = some r) (hg : (W.alloc o).grownBy w4 row) (hne : row ≠ some b) : w4.heap[b]? = some r := by
  have hlt := lt_of_heap h
  rw [hg.block b (by simp; omega) (fun e => hne e.symm)]
  exact (((Below.refl W.heap.size W).alloc (Nat.le_refl _) o).block b hlt).trans h
theorem heap_alloc_old' {w : World} {b : Nat} {r o : Obj} (h : w.heap[b]? = some r) : (w.alloc o).heap[b]? = some r := by
  have hlt := lt_of_heap h
  exact (((Below.refl w.heap.size w).alloc (Nat.le_refl _) o).block b hlt).trans h
theorem next_alloc {w W : World} {base n m : Nat} {t T : TypeId} {v x y : Value} {xs : List Value} (hown : W.ownsRow base t m v n xs) (hb : Below w.heap.size w W) (hlt : w.heap.size < W.heap.size)
    (hv : v.ownBlock ≠ some W.heap.size) (hrow : W.heap[w.heap.size]? = some (.cells #[x, y] T (0, 0))) (x2 y2 : Value) : NextAt w W.heap.size base n m t T v xs x y x2 y2 (W.alloc (.cells #[x2, y2] T)) :=
  ⟨hown.alloc _, hb.alloc (Nat.le_of_lt hlt) _, by simp; omega, by simp, Nat.ne_of_lt hlt, hv, heap_alloc_old' hrow, heap_alloc_new W _⟩
theorem stepped_to (x y d x2 y2 : Int) (w : World) (hw : DirsAt w) (h0 : 0 ≤ d) (h3 : d ≤ 3) (hx : -1000000 ≤ x ∧ x ≤ 1000000) (hy : -1000000 ≤ y ∧ y ≤ 1000000) (e1 : x + Tw.east d = x2) (e2 : y + Tw.north d = y2) :
    Calls Tryd.prog 45 #[.agg #[.int .i64 x, .int .i64 y], .int .i64 d] w fun e w' => e = .returned (.agg #[.int .i64 x2, .int .i64 y2]) ∧ Below w.heap.size w w' := e1 ▸ e2 ▸ stepped_any x y d w hw h0 h3 hx hy
theorem at_world {Q : Exit → Act → World → Prop} {a : Act} {W : World} {F : World → Prop} (h : F W) (k : ∀ W2, F W2 → Q .normal a W2) : Q .normal a W := k W h


end Go.Proofs.YtjcagkpolfacpaaDoor
