/-
  Contracts of DeskRun (both). Condition: a desk and deeds as Go's ints and short texts hold them.
-/
import Derived.Test.YtpkenccgjlhnlaaExt
import Derived.Test.YtpkenccgjlhnlaaDeskDoImpl
import Derived.Test.YtpkenccgjlhnlaaDeeds
import Derived.Deep.RegionHeld3
namespace Go.Proofs.Ytpkenccgjlhnlaa
open Go.RowKit

theorem deeds_parts {w : World} {u : Value} {ds : List (Int × Int)} (h : DeedsAt w u ds) : ∃ a c, u = .slice a ds.length c ∧ ds.length ≤ c ∧ ∀ (j : Nat) (d : Int × Int), ds[j]? = some d → ∃ b, a = some b ∧ w.cell? (b.add (j * 2)) = some (.int .i64 d.1) ∧ w.cell? ⟨(b.add (j * 2)).block, (b.add (j * 2)).off + 1, none⟩ = some (.int .i64 d.2) := by
  rcases h with ⟨rfl, rfl⟩ | ⟨a, cap, rfl, hl, hc⟩
  · exact ⟨none, 0, rfl, Nat.le_refl _, fun j d h => by simp at h⟩
  · exact ⟨some a, cap, rfl, hl, fun j d h => ⟨a, rfl, hc j d h⟩⟩
def RunOut (w : World) (r : (ByteArray × List ByteArray) × Nat) (e : Ending) (w' : World) : Prop := ∃ v', e = .returned (.tuple #[.agg #[.string r.1.1, v'], .int .i64 (r.2 : Int)]) ∧ PastAt w' v' r.1.2 ∧ Fresh w.heap.size v' ∧ Below w.heap.size w w'
theorem run_few {s : ByteArray} {zs : List ByteArray} (h : deskOk s zs = true) : ∀ (ds : List (Int × Int)), deskOk (runTo s zs ds).1.1 (runTo s zs ds).1.2 = true ∧ (runTo s zs ds).2 ≤ ds.length := by
  have gen : ∀ (ds : List (Int × Int)) (st : (ByteArray × List ByteArray) × Nat), deskOk st.1.1 st.1.2 = true → deskOk (ds.foldl runStep st).1.1 (ds.foldl runStep st).1.2 = true ∧ (ds.foldl runStep st).2 ≤ st.2 + ds.length := by
    intro ds
    induction ds with
    | nil => intro st hst; exact ⟨hst, Nat.le_refl _⟩
    | cons d ds ih =>
      intro st hst
      have h1 := runStep_ok hst d
      have h2 := ih _ h1.1
      rw [List.foldl_cons]
      refine ⟨h2.1, ?_⟩
      have h3 := h2.2
      have h4 := h1.2
      rw [List.length_cons]
      omega
  intro ds
  have := gen ds ((s, zs), 0) h
  unfold runTo
  simpa using this

theorem BoxB.two {A B C D : Nat} {W0 X : World} {N O : Nat} {x x' : ByteArray} {v v' : Value} {ys ys' : List ByteArray} (_ : BoxB A B X N x v ys) (h : BoxB C D W0 O x' v' ys') (k : Ext W0 X) : BoxB C D X O x' v' ys' := h.ext k
def deskBox2 (w : World) (s : ByteArray) (v : Value) : World := (w.alloc (.cells #[.string s, v] 25)).alloc (.cells #[.string ⟨#[]⟩, .slice none 0 0] 25)
theorem desk2_in (w : World) (s : ByteArray) (v : Value) : Ext w (deskBox2 w s v) ∧ (deskBox2 w s v).heap.size = w.heap.size + 2 ∧ (deskBox2 w s v).heap[w.heap.size]? = some (.cells #[.string s, v] 25 (0, 0)) ∧ (deskBox2 w s v).heap[w.heap.size + 1]? = some (.cells #[.string ⟨#[]⟩, .slice none 0 0] 25 (0, 0)) := by
  unfold deskBox2
  exact ⟨((Ext.refl w).alloc _).alloc _, by simp, heap_alloc2_old _ _ _, heap_alloc2_new _ _ _⟩
/-- A result is stored. -/
theorem run_done {w X : World} {R : Nat} {x : ByteArray} {v : Value} {ys : List ByteArray} {m : Nat} {r : (ByteArray × List ByteArray) × Nat} (e : Ext w X) (hp : PastAt X v ys) (hf : Fresh w.heap.size v) (hne : v.ownBlock ≠ some R) (hR : w.heap.size ≤ R) (hr : r = ((x, ys), m)) :
    RunOut w r (.returned (.tuple #[.agg #[.string x, v], .int .i64 (m : Int)])) ((X.setCell ⟨R, 0, none⟩ (.string x)).setCell ⟨R, 1, none⟩ v) := by
  subst hr
  exact ⟨_, rfl, past_put (past_put hp _ _ hne) _ _ hne, hf, (e.setCell hR _).setCell hR _⟩

theorem Ext.setCell2 {a X : World} (h : Ext a X) {N : Nat} (hN : a.heap.size ≤ N) (u v : Value) : Ext a ((X.setCell ⟨N, 0, none⟩ u).setCell ⟨N, 1, none⟩ v) := (h.setCell hN u).setCell hN v
theorem ext_new {A B : Nat} {a X : World} {N : Nat} {x : ByteArray} {v : Value} {ys : List ByteArray} {o : Obj} (_ : BoxB A B (X.alloc o) N x v ys) (h : Ext a X) : Ext a (X.alloc o) := h.alloc o
theorem ext_set {A B : Nat} {a X : World} {N : Nat} {x : ByteArray} {v : Value} {ys : List ByteArray} {u u' : Value} (_ : BoxB A B ((X.setCell ⟨N, 0, none⟩ u).setCell ⟨N, 1, none⟩ u') N x v ys) (h : Ext a X) (hN : a.heap.size ≤ N) : Ext a ((X.setCell ⟨N, 0, none⟩ u).setCell ⟨N, 1, none⟩ u') := h.setCell2 hN u u'
theorem boxB_size {A B : Nat} {W : World} {N : Nat} {x : ByteArray} {v : Value} {ys : List ByteArray} (h : BoxB A B W N x v ys) : BoxB A W.heap.size W N x v ys := ⟨h.row, h.past, h.ne, h.ge, h.fresh, lt_at h.row, fun _ hb => past_lt h.past hb⟩

theorem deskRun_few (s : ByteArray) (zs : List ByteArray) (ds : List (Int × Int)) : (deskRun s zs ds).1.2.length ≤ 8 := by
  unfold deskRun
  split
  · rename_i h
    exact (deskOk_parts (run_few h.1 ds).1).2.1
  · exact Nat.zero_le _

end Go.Proofs.Ytpkenccgjlhnlaa
