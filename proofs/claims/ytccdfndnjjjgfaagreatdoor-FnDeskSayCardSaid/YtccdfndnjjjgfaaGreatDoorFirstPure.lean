/-
  Plain mathematics of the first walk of a shape.
-/
import Derived.Test.YtccdfndnjjjgfaaGreatDoorShapePure
namespace Go.Proofs.YtccdfndnjjjgfaaGreatDoor
namespace Tw

/-- b is the first of the walks in C, in the order of bytes. -/
def Best (b : List UInt8) (C : List (List UInt8)) : Prop := b ∈ C ∧ ∀ c ∈ C, ¬ c < b
def minL (a b : List UInt8) : List UInt8 := if a < b ∨ a = b then a else b
theorem lt_irrefl' (a : List UInt8) : ¬ a < a := List.lt_irrefl a
theorem lt_asymm' {a b : List UInt8} (h : a < b) : ¬ b < a := List.lt_asymm h
theorem lt_trans' {a b c : List UInt8} (h : a < b) (k : b < c) : a < c := List.lt_trans h k
theorem le_antisymm' {a b : List UInt8} (h : ¬ a < b) (k : ¬ b < a) : a = b := List.le_antisymm (List.not_lt.1 k) (List.not_lt.1 h)
theorem best_one (b : List UInt8) : Best b [b] := ⟨by simp, fun c hc => by rw [List.mem_singleton.1 hc]; exact lt_irrefl' b⟩
theorem best_min {b c : List UInt8} {C : List (List UInt8)} (h : Best b C) : Best (minL b c) (C ++ [c]) := by
  unfold minL
  split
  · rename_i hbc
    refine ⟨by simp [h.1], fun d hd => ?_⟩
    rcases List.mem_append.1 hd with hd | hd
    · exact h.2 d hd
    · rw [List.mem_singleton.1 hd]
      rcases hbc with hbc | rfl
      · exact lt_asymm' hbc
      · exact lt_irrefl' _
  · rename_i hbc
    have hcb : c < b := by
      rcases Decidable.em (c < b) with h1 | h1
      · exact h1
      · exact absurd (Or.inr (le_antisymm' (fun h2 => hbc (Or.inl h2)) h1)) hbc
    refine ⟨by simp, fun d hd => ?_⟩
    rcases List.mem_append.1 hd with hd | hd
    · exact fun hdc => h.2 d hd (lt_trans' hdc hcb)
    · rw [List.mem_singleton.1 hd]
      exact lt_irrefl' _
theorem best_lt {b c : List UInt8} {C : List (List UInt8)} (h : Best b C) (hcb : c < b) : Best c (C ++ [c]) := by
  have h1 := best_min (c := c) h
  unfold minL at h1
  rwa [if_neg (fun h2 => by
    rcases h2 with h2 | rfl
    · exact lt_asymm' h2 hcb
    · exact lt_irrefl' _ hcb)] at h1
theorem best_not {b c : List UInt8} {C : List (List UInt8)} (h : Best b C) (hcb : ¬ c < b) : Best b (C ++ [c]) :=
  ⟨by simp [h.1], fun d hd => by
    rcases List.mem_append.1 hd with hd | hd
    · exact h.2 d hd
    · rw [List.mem_singleton.1 hd]
      exact hcb⟩
theorem best_unique {b c : List UInt8} {C D : List (List UInt8)} (h : Best b C) (k : Best c D) (hCD : ∀ x, x ∈ C ↔ x ∈ D) : b = c :=
  le_antisymm' (fun hl => k.2 b ((hCD b).1 h.1) hl) (fun hl => h.2 c ((hCD c).2 k.1) hl)

/-! ### the two orders in which the walks of a shape are gone through -/
def pair1 (l : List UInt8) (w j : Nat) : List (List UInt8) := [wayList w (moved l j), wayList w (moved (backList l) j)]
def pair2 (l : List UInt8) (j w : Nat) : List (List UInt8) := [wayList w (moved l j), backList (wayList w (moved l j))]
def vis1 (l : List UInt8) (way k : Nat) : List (List UInt8) := (List.range way).flatMap (fun w => (List.range l.length).flatMap (pair1 l w)) ++ (List.range k).flatMap (pair1 l way)
def vis2 (l : List UInt8) (k way : Nat) : List (List UInt8) := (List.range k).flatMap (fun j => (List.range 8).flatMap (pair2 l j)) ++ (List.range way).flatMap (pair2 l k)
theorem flatMap_snoc {α : Type} (f : Nat → List α) (k : Nat) : (List.range (k + 1)).flatMap f = (List.range k).flatMap f ++ f k := by
  rw [List.range_succ, List.flatMap_append]
  simp
theorem vis1_succ (l : List UInt8) (way k : Nat) : vis1 l way (k + 1) = vis1 l way k ++ [wayList way (moved l k)] ++ [wayList way (moved (backList l) k)] := by
  unfold vis1
  rw [flatMap_snoc]
  simp [pair1]
theorem vis1_next (l : List UInt8) (way : Nat) : vis1 l way l.length = vis1 l (way + 1) 0 := by
  unfold vis1
  rw [flatMap_snoc]
  simp
theorem vis2_succ (l : List UInt8) (k way : Nat) : vis2 l k (way + 1) = vis2 l k way ++ [wayList way (moved l k)] ++ [backList (wayList way (moved l k))] := by
  unfold vis2
  rw [flatMap_snoc]
  simp [pair2]
theorem vis2_next (l : List UInt8) (k : Nat) : vis2 l k 8 = vis2 l (k + 1) 0 := by
  unfold vis2
  rw [flatMap_snoc (fun j => (List.range 8).flatMap (pair2 l j)) k, List.range_zero, List.flatMap_nil, List.append_nil]
/-- All walks of the shape of a closed walk. -/
def shape (l x : List UInt8) : Prop := ∃ w : Nat, w < 8 ∧ ∃ j : Nat, j < l.length ∧ (x = wayList w (moved l j) ∨ x = wayList w (moved (backList l) j))
theorem mem_vis1 (l x : List UInt8) : x ∈ vis1 l 8 0 ↔ shape l x := by
  unfold vis1 shape
  simp only [List.range_zero, List.flatMap_nil, List.append_nil, List.mem_flatMap, List.mem_range, pair1, List.mem_cons, List.not_mem_nil, or_false]
theorem mem_vis2 (l x : List UInt8) : x ∈ vis2 l l.length 0 ↔ shape l x := by
  unfold vis2 shape
  simp only [List.range_zero, List.flatMap_nil, List.append_nil, List.mem_flatMap, List.mem_range, pair2, List.mem_cons, List.not_mem_nil, or_false]
  constructor
  · rintro ⟨j, hj, w, hw, rfl | rfl⟩
    · exact ⟨w, hw, j, hj, .inl rfl⟩
    · rw [back_wayList, backList_moved]
      by_cases h0 : j = 0
      · subst h0
        refine ⟨w, hw, 0, by omega, .inr ?_⟩
        rw [Nat.sub_zero, show l.length = (backList l).length from (length_back l).symm, moved_all, moved_zero]
      · exact ⟨w, hw, l.length - j, by omega, .inr rfl⟩
  · rintro ⟨w, hw, j, hj, rfl | rfl⟩
    · exact ⟨j, hj, w, hw, .inl rfl⟩
    · by_cases h0 : j = 0
      · subst h0
        refine ⟨0, by omega, w, hw, .inr ?_⟩
        rw [back_wayList, moved_zero, moved_zero]
      · refine ⟨l.length - j, by omega, w, hw, .inr ?_⟩
        rw [back_wayList, backList_moved, show l.length - (l.length - j) = j from by omega]
theorem shape_self {l : List UInt8} (h : closed l = true) : shape l l := by
  have hv := ((walkOk_iff l).1 (closed_ok h)).2
  refine ⟨0, by omega, 0, closed_len h, .inl ?_⟩
  rw [moved_zero]
  unfold wayList
  show l = List.map (wayLetter 0) l
  exact ((List.map_id l).symm.trans (List.map_congr_left fun c hc => (way_zero c (hv c hc)).symm))
/-- The first walk of the shape. -/
def firstOf (l : List UInt8) : List UInt8 := (vis1 l 8 0).foldl minL l
theorem best_fold : ∀ (C D : List (List UInt8)) (b : List UInt8), Best b D → Best (C.foldl minL b) (D ++ C)
  | [], D, b, h => by simpa using h
  | c :: C, D, b, h => by
    have := best_fold C (D ++ [c]) (minL b c) (best_min h)
    simpa using this
theorem first_best (l : List UInt8) : Best (firstOf l) (l :: vis1 l 8 0) := best_fold _ [l] l (best_one l)
theorem first_of_vis1 {l b : List UInt8} (h : Best b (l :: vis1 l 8 0)) : b = firstOf l := best_unique h (first_best l) fun _ => Iff.rfl
theorem first_of_vis2 {l b : List UInt8} (hc : closed l = true) (h : Best b (vis2 l l.length 0)) : b = firstOf l := by
  refine best_unique h (first_best l) fun x => ?_
  rw [mem_vis2, List.mem_cons, mem_vis1]
  constructor
  · exact fun h => .inr h
  · rintro (rfl | h)
    · exact shape_self hc
    · exact h
theorem first_shape {l : List UInt8} (hc : closed l = true) : shape l (firstOf l) := by
  have := (first_best l).1
  rw [List.mem_cons, mem_vis1] at this
  rcases this with h | h
  · rw [h]; exact shape_self hc
  · exact h
theorem first_least {l x : List UInt8} (h : shape l x) : ¬ x < firstOf l := (first_best l).2 x (by rw [List.mem_cons, mem_vis1]; exact .inr h)
theorem closed_shape {l x : List UInt8} (hc : closed l = true) (h : shape l x) : closed x = true := by
  obtain ⟨w, hw, j, _, rfl | rfl⟩ := h
  · exact closed_way w (by omega) (by omega) (closed_moved j hc)
  · exact closed_way w (by omega) (by omega) (closed_moved j (closed_back hc))

end Tw
end Go.Proofs.YtccdfndnjjjgfaaGreatDoor
