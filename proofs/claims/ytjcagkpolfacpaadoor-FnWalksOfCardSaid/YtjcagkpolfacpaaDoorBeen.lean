/-
  Places that have been, kept in a map of the call's own: one more, and one fewer.
-/
import Derived.Test.YtjcagkpolfacpaaDoorGoesImpl
import Derived.Test.YtjcagkpolfacpaaDoorCountPure
namespace Go.Proofs.YtjcagkpolfacpaaDoor
open Go.RowKit Go.Maps Go.WideMaps

/-- The datum of the places that have been. -/
def Been (D : DataW Unit) (m : Nat) (ps : List (Int × Int)) : Prop := Tidy D ∧ size D = m ∧ ∀ q, near q → Maps.has D (placeKey q) = ps.contains q
theorem Been.put {D : DataW Unit} {m : Nat} {ps : List (Int × Int)} {q : Int × Int} (h : Been D m ps) (hq : near q) (hn : ps.contains q = false) : Been (D.put (placeKey q) (.agg [])) (m + 1) (ps ++ [q]) := by
  obtain ⟨h1, h2, h3⟩ := h
  refine ⟨h1.put (isKey_place q) _, ?_, fun p hp => ?_⟩
  · rw [size_put h1, h3 q hq, hn, h2]
    rfl
  · by_cases hpq : p = q
    · subst hpq
      rw [has_put_same h1.isMap (isKey_place p)]
      simp
    · rw [has_put_other (fun e => hpq (placeKey_inj hp hq e)), h3 p hp, Bool.eq_iff_iff, List.contains_iff_mem, List.contains_iff_mem, List.mem_append, List.mem_singleton]
      simp [hpq]
theorem Been.del {D : DataW Unit} {m : Nat} {ps : List (Int × Int)} {q : Int × Int} (h : Been D (m + 1) (ps ++ [q])) (hq : near q) (hn : ps.contains q = false) : Been (D.del (placeKey q)) m ps := by
  obtain ⟨h1, h2, h3⟩ := h
  have hh : Maps.has D (placeKey q) = true := by rw [h3 q hq]; simp
  refine ⟨h1.del _, ?_, fun p hp => ?_⟩
  · have := size_del (k := placeKey q) h1
    rw [hh, h2] at this
    simpa using this
  · by_cases hpq : p = q
    · subst hpq
      rw [has_del_same, hn]
    · rw [has_del_other (fun e => hpq (placeKey_inj hp hq e)), h3 p hp, Bool.eq_iff_iff, List.contains_iff_mem, List.contains_iff_mem, List.mem_append, List.mem_singleton]
      simp [hpq]
theorem own_tight {w : World} {P : Program} {k : TypeId} {R : Value → Option (DataW Unit × List MemPlace)} {b n : Nat} {D : DataW Unit} (h : w.ownsMap P k R b n D) : w.ownsMap P k R b (size D) D := by
  obtain ⟨es, clock, hb, F, _, rfl⟩ := h
  refine ⟨es, clock, hb, F, ?_, rfl⟩
  show es.size ≤ List.length _
  rw [length_sorted]
  simp

/-- The map of the places that have been. -/
def BeenAt (w : World) (M m : Nat) (ps : List (Int × Int)) : Prop := ∃ D : DataW Unit, w.ownsMap Tryd.prog 54 (unitElem (H := Unit)) M m D ∧ Been D m ps
theorem BeenAt.lt {w : World} {M m : Nat} {ps : List (Int × Int)} (h : BeenAt w M m ps) : M < w.heap.size := by
  obtain ⟨D, h, _⟩ := h
  exact h.lt
theorem BeenAt.kept {w w' : World} {M m : Nat} {ps : List (Int × Int)} (h : BeenAt w M m ps) (hk : w'.heap[M]? = w.heap[M]?) : BeenAt w' M m ps := by
  obtain ⟨D, ⟨es, clock, hb, F, hs, hD⟩, hB⟩ := h
  exact ⟨D, ⟨es, clock, hk.trans hb, F, hs, hD⟩, hB⟩
theorem BeenAt.tight {w : World} {M n m : Nat} {ps : List (Int × Int)} {D : DataW Unit} (h : w.ownsMap Tryd.prog 54 (unitElem (H := Unit)) M n D) (hB : Been D m ps) : BeenAt w M m ps := by
  have := own_tight h
  rw [hB.2.1] at this
  exact ⟨D, this, hB⟩

end Go.Proofs.YtjcagkpolfacpaaDoor
