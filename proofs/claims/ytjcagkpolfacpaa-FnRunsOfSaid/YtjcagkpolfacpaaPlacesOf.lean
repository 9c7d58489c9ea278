/-
  The contract of placesOf: the places of a walk, two cells a place, in a row of the call's own.
-/
import Derived.Test.YtjcagkpolfacpaaPlaces
import Derived.Test.YtjcagkpolfacpaaSteps
namespace Go.Proofs.Ytjcagkpolfacpaa
open Go.RowKit

theorem take_made (z : Array Value) (n : Nat) (hn : 1 ≤ n) : (madeCells z (n * z.size)).toList.take (1 * z.size) = z.toList := by
  have hle : z.size ≤ n * z.size := Nat.le_mul_of_pos_left _ hn
  apply List.ext_getElem?
  intro j
  by_cases hj : j < z.size
  · have hj2 : j < n * z.size := by omega
    rw [List.getElem?_take, if_pos (by omega)]
    simp [madeCells, hj2, Nat.mod_eq_of_lt hj, hj]
  · rw [List.getElem?_eq_none (by simp; omega), List.getElem?_eq_none (by simp; omega)]

/-- 'make([]T, 1, n)'. -/
theorem wpList_make_one {P : Program} (w : World) {ops : Array Oper} {rest : List Oper} {o : Oper} {a : Act} {Q : Exit → Act → World → Prop}
    (hg : o.guard = none) (l c : Operand) (t : TypeId) (hop : o.op = Op.makeSlice t l c)
    (base : Nat) (e : TypeId) (i : TypeInfo) (z : Value) (size : Nat) (h1 : P.underlying t = some (.slice e)) (h2 : P.info? e = some i) (h3 : i.zero = some z) (h4 : i.size = size) (h5 : z.cells.size = size)
    (kl kc : IntKind) (C : Int) (n : Nat) (hl : a.eval l = .int kl 1) (hc : a.eval c = .int kc C) (hC : C = (n : Int)) (h6 : 1 ≤ n) (b2 : i.bytes * n ≤ 281474976710656) (b3 : n ≤ 9223372036854775807) (b4 : base ≤ w.heap.size)
    (hK : ∀ w', w'.ownsRow base e size (.slice (some ⟨w.heap.size, 0, none⟩) 1 n) 1 z.cells.toList → w.grownBy w' none → wpList P ops Q rest (a.put o.dst (.slice (some ⟨w.heap.size, 0, none⟩) 1 n)) w') :
    wpList P ops Q (o :: rest) a w := by
  refine wpList_plain hg fun K hK' => ?_
  subst hC
  subst h4
  have hb' : (i.bytes : Int) * (n : Int) ≤ 281474976710656 := by
    have h : ((i.bytes * n : Nat) : Int) ≤ 281474976710656 := by omega
    rwa [Int.natCast_mul] at h
  have hr := run_make (P := P) w t e i z h1 h2 h3 kl kc 1 n (by omega) (by omega) hb' (by omega)
  unfold Oper.wp
  simp [execOp, hop, hl, hc, hr, Result.andThen]
  refine hK' _ _ (hK _ ⟨by simp [h5], .inr ⟨w.heap.size, n, _, rfl, b4, heap_alloc_new w _, h6, by unfold maxLen; omega, size_madeCells _ _, ?_⟩⟩ (World.grownBy_alloc w _ none))
  rw [← h5]
  exact take_made _ n h6

/-- The cells of a row of places. -/
def pairCells (ps : List (Int × Int)) : List Value := ps.flatMap fun p => [.int .i64 p.1, .int .i64 p.2]
theorem pairCells_append (ps qs : List (Int × Int)) : pairCells (ps ++ qs) = pairCells ps ++ pairCells qs := List.flatMap_append
theorem pairCells_length (ps : List (Int × Int)) : (pairCells ps).length = ps.length * 2 := by
  induction ps with
  | nil => rfl
  | cons p ps ih =>
    show (_ :: _ :: pairCells ps).length = _
    simp [ih]; omega
theorem pairCells_get : ∀ (ps : List (Int × Int)) (i : Nat) (p : Int × Int), ps[i]? = some p → (pairCells ps)[i * 2]? = some (.int .i64 p.1) ∧ (pairCells ps)[i * 2 + 1]? = some (.int .i64 p.2)
  | [], i, p, h => by simp at h
  | q :: ps, 0, p, h => by
    obtain rfl : q = p := by simpa using h
    exact ⟨rfl, rfl⟩
  | q :: ps, i + 1, p, h => by
    have ih := pairCells_get ps i p (by simpa using h)
    rw [show (i + 1) * 2 = i * 2 + 1 + 1 from by omega]
    exact ih





end Go.Proofs.Ytjcagkpolfacpaa
