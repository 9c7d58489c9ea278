/-
  The reference's DeskDo: the desk after a deed.
-/
import Derived.Test.YtjcagkpolfacpaaDoorDeskCopy
import Derived.Test.YtjcagkpolfacpaaDoorMade
import Derived.Test.YtjcagkpolfacpaaDoorDeskAt
import Derived.Lib.Builder
namespace Go.Proofs.YtjcagkpolfacpaaDoor
open Go.RowKit

/-- Walks of before in a row that is known whole. -/
def PastAt (w : World) (v : Value) (ys : List ByteArray) : Prop :=
  (v = .slice none 0 0 ∧ ys = []) ∨ ∃ (g off cap : Nat) (cur : Array Value), v = .slice (some ⟨g, off, none⟩) ys.length cap ∧ ys.length ≤ cap ∧ w.heap[g]? = some (.cells cur 9 (0, 0)) ∧ off + cap ≤ cur.size ∧ ∀ (j : Nat) (z : ByteArray), ys[j]? = some z → cur[off + j]? = some (.string z)
theorem lt_at {w : World} {b : Nat} {o : Obj} (h : w.heap[b]? = some o) : b < w.heap.size := (Array.getElem?_eq_some_iff.1 h).1
theorem PastAt.below {w w' : World} {v : Value} {ys : List ByteArray} (h : PastAt w v ys) (hb : Below w.heap.size w w') : PastAt w' v ys := by
  rcases h with h | ⟨g, off, cap, cur, rfl, hl, hg, hc, hz⟩
  · exact .inl h
  · exact .inr ⟨g, off, cap, cur, rfl, hl, (hb.block _ (lt_at hg)).trans hg, hc, hz⟩
theorem PastAt.strs {w : World} {v : Value} {ys : List ByteArray} (h : PastAt w v ys) : StrsAt w v ys := by
  rcases h with h | ⟨g, off, cap, cur, rfl, hl, hg, hc, hz⟩
  · exact .inl h
  · refine .inr ⟨⟨g, off, none⟩, cap, rfl, hl, fun j z hj => ?_⟩
    have e : (⟨g, off, none⟩ : Addr).add j = ⟨g, off + j, none⟩ := by unfold Addr.add; split <;> simp_all
    rw [e]
    exact (cell_of_row _ _ _ _ _ _ hg).trans (hz j z hj)
theorem past_own {w : World} {base : Nat} {v : Value} {ys : List ByteArray} (h : w.ownsRow base 9 1 v ys.length (strVals ys)) : PastAt w v ys := by
  rcases h.2 with ⟨rfl, h0⟩ | ⟨g, cap, cur, rfl, _, hg, hl, _, hs, ht⟩
  · exact .inl ⟨rfl, List.length_eq_zero_iff.1 h0⟩
  · refine .inr ⟨g, 0, cap, cur, rfl, hl, hg, by omega, fun j z hj => ?_⟩
    have hj2 := (List.getElem?_eq_some_iff.1 hj).1
    have e : (cur.toList.take (ys.length * 1))[j]? = (strVals ys)[j]? := by rw [ht]
    rw [List.getElem?_take, if_pos (by omega), Array.getElem?_toList] at e
    rw [Nat.zero_add, e]
    unfold strVals
    rw [List.getElem?_map, hj]
    rfl

theorem past_take {w : World} {g off n cap : Nat} {zs : List ByteArray} (h : PastAt w (.slice (some ⟨g, off, none⟩) n cap) zs) {k : Nat} (hk : k ≤ n) (hn : zs.length = n) : PastAt w (.slice (some ⟨g, off, none⟩) k cap) (zs.take k) := by
  rcases h with ⟨h, _⟩ | ⟨g', off', cap', cur, he, hl, hg, hc, hz⟩
  · cases h
  · cases he
    have e : (zs.take k).length = k := by rw [List.length_take]; omega
    refine .inr ⟨g, off, cap, cur, by rw [e], by omega, hg, hc, fun j z hj => hz j z ?_⟩
    rw [List.getElem?_take] at hj
    split at hj
    · exact hj
    · cases hj
theorem past_drop {w : World} {g n cap : Nat} {zs : List ByteArray} (h : PastAt w (.slice (some ⟨g, 0, none⟩) (n + 1) cap) zs) (hn : zs.length = n + 1) : PastAt w (.slice (some ⟨g, 1, none⟩) n (cap - 1)) (zs.drop 1) := by
  rcases h with ⟨h, _⟩ | ⟨g', off', cap', cur, he, hl, hg, hc, hz⟩
  · cases h
  · simp only [Value.slice.injEq, Option.some.injEq, Addr.mk.injEq, and_true] at he
    obtain ⟨⟨rfl, rfl⟩, _, rfl⟩ := he
    have e : (zs.drop 1).length = n := by rw [List.length_drop]; omega
    refine .inr ⟨g, 1, cap - 1, cur, by rw [e], by omega, hg, by omega, fun j z hj => ?_⟩
    rw [List.getElem?_drop] at hj
    have := hz (1 + j) z hj
    rwa [Nat.zero_add] at this
theorem past_put {w : World} {v : Value} {ys : List ByteArray} (h : PastAt w v ys) (a : Addr) (u : Value) (hne : v.ownBlock ≠ some a.block) : PastAt (w.setCell a u) v ys := by
  rcases h with h | ⟨g, off, cap, cur, rfl, hl, hg, hc, hz⟩
  · exact .inl h
  · exact .inr ⟨g, off, cap, cur, rfl, hl, (heap_setCell_other w a g _ (fun e => hne (by rw [e]; rfl))).trans hg, hc, hz⟩
theorem strs_value {w : World} {v : Value} {zs : List ByteArray} (h : StrsAt w v zs) : ∃ a c, v = .slice a zs.length c := by
  rcases h with ⟨rfl, rfl⟩ | ⟨a, cap, rfl, _⟩
  · exact ⟨_, _, rfl⟩
  · exact ⟨_, _, rfl⟩

/-- A slice of blocks at or behind B alone. -/
def Fresh (B : Nat) (v : Value) : Prop := ∀ b, v.ownBlock = some b → B ≤ b
theorem Fresh.slice {B g off n c : Nat} (h : B ≤ g) : Fresh B (.slice (some ⟨g, off, none⟩) n c) := by
  intro b e
  have h9 : g = b := Option.some.inj e
  omega
theorem Fresh.none (B : Nat) : Fresh B (.slice none 0 0) := by
  intro b e
  cases e
theorem fresh_own {w : World} {base : Nat} {e : TypeId} {size n : Nat} {v : Value} {xs : List Value} (h : w.ownsRow base e size v n xs) {B : Nat} (hB : B ≤ base) : Fresh B v := fun b hb => Nat.le_trans hB (h.lt b hb).1
theorem own_le {w : World} {base g n cap : Nat} {e : TypeId} {xs : List Value} (h : w.ownsRow base e 1 (.slice (some ⟨g, 0, none⟩) n cap) n xs) : n ≤ cap := by
  rcases h.2 with ⟨h1, _⟩ | ⟨g', cap', cur, h1, _, _, hl, _⟩
  · cases h1
  · cases h1
    exact hl


end Go.Proofs.YtjcagkpolfacpaaDoor
