/-
  One text appended to a slice of strings that is nil or lies as told: it grows, or its spare room takes it.
-/
import Derived.Test.YtpkenccgjlhnlaaDoorExt
import Derived.Test.YtpkenccgjlhnlaaDoorDraw
import Derived.ArgAppend
namespace Go.Proofs.YtpkenccgjlhnlaaDoor
open Go.RowKit

theorem past_end {w : World} {g off cap : Nat} {cur : Array Value} {zs : List ByteArray} (hl : zs.length + 1 ≤ cap) (hg : w.heap[g]? = some (.cells cur 9 (0, 0))) (hc : off + cap ≤ cur.size) (hz : ∀ (j : Nat) (z : ByteArray), zs[j]? = some z → cur[off + j]? = some (.string z)) (z : ByteArray) :
    PastAt (w.setCell ⟨g, off + zs.length, none⟩ (.string z)) (.slice (some ⟨g, off, none⟩) (zs.length + 1) cap) (zs ++ [z]) := by
  have e0 : (zs ++ [z]).length = zs.length + 1 := by simp
  refine .inr ⟨g, off, cap, cur.set! (off + zs.length) (.string z), by rw [e0], by rw [e0]; exact hl, ?_, by simpa using hc, fun i y hi => ?_⟩
  · simp [World.setCell, Array.getElem?_modify, hg]
  · rw [Array.set!_eq_setIfInBounds, Array.getElem?_setIfInBounds]
    rcases Nat.lt_trichotomy i zs.length with h | h | h
    · rw [if_neg (by omega)]
      rw [List.getElem?_append_left h] at hi
      exact hz i y hi
    · subst h
      rw [if_pos rfl, if_pos (by omega)]
      simp at hi
      rw [hi]
    · have := (List.getElem?_eq_some_iff.1 hi).1
      omega
theorem wpList_append_past {w : World} {ops : Array Oper} {rest : List Oper} {o : Oper} {a : Act} {Q : Exit → Act → World → Prop} (hgd : o.guard = none) (s x : Operand)
    (ho : o.op = .call { callee := .builtin .append, args := #[s, x], argTypes := #[23, 23] })
    {v : Value} {zs : List ByteArray} (hs : a.eval s = v) (hp : PastAt w v zs) (hl : zs.length ≤ 1000) {b c : Nat} {z : ByteArray} (hx : a.eval x = .slice (some ⟨b, 0, none⟩) 1 c) (hz : w.cell? ⟨b, 0, none⟩ = some (.string z))
    (h : ∀ v' w', PastAt w' v' (zs ++ [z]) → But v w w' → (∀ g, v'.ownBlock = some g → v.ownBlock = some g ∨ w.heap.size ≤ g) → wpList Tryd.prog ops Q rest (a.put o.dst v') w') : wpList Tryd.prog ops Q (o :: rest) a w := by
  obtain ⟨i0, hi0, hz0, hz1, hz2⟩ := info_parts stringInfo
  have hnews : ∀ j u, [Value.string z][j]? = some u → w.cell? ((⟨b, 0, none⟩ : Addr).add j) = some u := by
    intro j u hj
    cases j with
    | zero => rw [add_plain]; rw [← hj]; exact hz
    | succ j => simp at hj
  have hown : ∀ v' w', w'.ownsRow w.heap.size 9 1 v' (zs.length + 1) (strVals zs ++ [.string z]) → w.grownBy w' none → wpList Tryd.prog ops Q rest (a.put o.dst v') w' := by
    intro v' w' hw hg
    have e1 : strVals (zs ++ [z]) = strVals zs ++ [.string z] := by unfold strVals; rw [List.map_append]; rfl
    have e2 : (zs ++ [z]).length = zs.length + 1 := by simp
    refine h v' w' (past_own (by rw [e1, e2]; exact hw)) ⟨hg.os, hg.tape, hg.output, hg.size, fun k hk _ => hg.block k hk (by simp)⟩ (fun g hg' => .inr ?_)
    rcases hw.2 with ⟨rfl, _⟩ | ⟨g', _, _, rfl, hb, _⟩
    · cases hg'
    · cases hg'
      exact hb
  rcases hp with ⟨rfl, rfl⟩ | ⟨g, off, cap, cur, rfl, hlc, hg, hc, hzz⟩
  · exact wpList_append_grows w hgd s x _ ho 9 i0 _ 1 16 Tryd.underlying23 hi0 hz0 hz1 hz2 rfl (by omega) none 0 0 [] hs (fun _ => ⟨rfl, rfl⟩) rfl (fun b h => by cases h) ⟨b, 0, none⟩ 1 c [.string z] hx rfl hnews (by simp [Value.oneCell']) (by omega) (by unfold maxLen; omega) (by omega) (fun v' w' h1 h2 => hown v' w' h1 h2)
  · refine wpList_append_arg w hgd s x _ ho 9 i0 _ 1 16 Tryd.underlying23 hi0 hz0 hz1 hz2 rfl (by omega) g off zs.length cap (strVals zs) hs (by rw [strVals_len]; omega) (fun j u hj => ?_) ⟨b, 0, none⟩ 1 c [.string z] hx rfl hnews (by simp [Value.oneCell']) (fun hr j hj => ?_) (by unfold maxLen; omega) (by omega) (fun hr => ?_) (fun _ v' w' h1 h2 => hown v' w' h1 h2)
    · unfold strVals at hj
      rw [List.getElem?_map] at hj
      cases hzj : zs[j]? with
      | none => rw [hzj] at hj; cases hj
      | some y =>
        rw [hzj] at hj
        rw [cell_of_row _ _ _ _ _ _ hg, hzz j y hzj]
        exact hj
    · refine ⟨?_, frozen_of_row _ _ _ _ _ hg⟩
      simp only [List.length_singleton] at hj
      rw [cell_of_row _ _ _ _ _ _ hg, Array.getElem?_eq_getElem (by omega)]
      rfl
    · have e : w.setCells g (off + zs.length * 1) [.string z] = w.setCell ⟨g, off + zs.length, none⟩ (.string z) := by rw [Nat.mul_one]; rfl
      rw [e]
      exact h _ _ (past_end hr hg hc hzz z) (But.setCell w rfl _) (fun g' hg' => .inl hg')
end Go.Proofs.YtpkenccgjlhnlaaDoor
