/-
  Plain mathematics of lists in the order of bytes: what a sort and a compacting make, and what one by one insertion makes, is the same.
-/
import Derived.Test.YtjcagkpolfacpaaDoorFirstPure
import Derived.Lib.SlicesCompact
namespace Go.Proofs.YtjcagkpolfacpaaDoor
namespace Tw
open Go.Lib

abbrev Tx := List UInt8
def Strict (zs : List Tx) : Prop := zs.Pairwise (· < ·)
theorem lt_of_not_le {a b : Tx} (h : ¬ b < a) (hne : a ≠ b) : a < b := by
  rcases Decidable.em (a < b) with h1 | h1
  · exact h1
  · exact absurd (le_antisymm' h1 h) hne
theorem strict_unique : ∀ {a b : List Tx}, Strict a → Strict b → (∀ x, x ∈ a ↔ x ∈ b) → a = b
  | [], [], _, _, _ => rfl
  | [], y :: b, _, _, h => by have := (h y).2 (by simp); simp at this
  | x :: a, [], _, _, h => by have := (h x).1 (by simp); simp at this
  | x :: a, y :: b, ha, hb, h => by
    have ha' := List.pairwise_cons.1 ha
    have hb' := List.pairwise_cons.1 hb
    have hxy : x = y := by
      rcases List.mem_cons.1 ((h x).1 (by simp)) with h1 | h1
      · exact h1
      · rcases List.mem_cons.1 ((h y).2 (by simp)) with h2 | h2
        · exact h2.symm
        · exact absurd (ha'.1 y h2) (lt_asymm' (hb'.1 x h1))
    subst hxy
    rw [strict_unique ha'.2 hb'.2 (fun z => ?_)]
    have hz := h z
    simp only [List.mem_cons] at hz
    constructor
    · intro hza
      rcases hz.1 (.inr hza) with h1 | h1
      · subst h1
        exact absurd (ha'.1 z hza) (lt_irrefl' z)
      · exact h1
    · intro hzb
      rcases hz.2 (.inr hzb) with h1 | h1
      · subst h1
        exact absurd (hb'.1 z hzb) (lt_irrefl' z)
      · exact h1

/-! ### one by one -/
def insT (x : Tx) : List Tx → List Tx
  | [] => [x]
  | z :: zs => if z < x then z :: insT x zs else if z = x then z :: zs else x :: z :: zs
theorem mem_ins (x : Tx) : ∀ (zs : List Tx) (y : Tx), y ∈ insT x zs ↔ y = x ∨ y ∈ zs
  | [], y => by simp [insT]
  | z :: zs, y => by
    unfold insT
    split
    · have := mem_ins x zs y
      simp only [List.mem_cons, this]
      constructor
      · rintro (h | h | h) <;> simp [h]
      · rintro (h | h | h) <;> simp [h]
    · split
      · rename_i h1 h2
        subst h2
        simp only [List.mem_cons]
        constructor
        · rintro (h | h) <;> simp [h]
        · rintro (h | h | h) <;> simp [h]
      · simp only [List.mem_cons]
theorem strict_ins (x : Tx) : ∀ {zs : List Tx}, Strict zs → Strict (insT x zs)
  | [], _ => by simp [insT, Strict]
  | z :: zs, h => by
    have h' := List.pairwise_cons.1 h
    unfold insT
    split
    · rename_i h1
      refine List.pairwise_cons.2 ⟨fun y hy => ?_, strict_ins x h'.2⟩
      rcases (mem_ins x zs y).1 hy with h2 | h2
      · rw [h2]; exact h1
      · exact h'.1 y h2
    · split
      · exact h
      · rename_i h1 h2
        have hxz : x < z := by
          rcases Decidable.em (x < z) with h3 | h3
          · exact h3
          · exact absurd (le_antisymm' h1 h3) h2
        refine List.pairwise_cons.2 ⟨fun y hy => ?_, h⟩
        rcases List.mem_cons.1 hy with h3 | h3
        · rw [h3]; exact hxz
        · exact lt_trans' hxz (h'.1 y h3)
/-- The place where a text belongs. -/
theorem ins_at (x : Tx) : ∀ (zs : List Tx) (k : Nat), k ≤ zs.length → (∀ j z, j < k → zs[j]? = some z → z < x) → (∀ z, zs[k]? = some z → ¬ z < x) →
    insT x zs = if zs[k]? = some x then zs else zs.take k ++ x :: zs.drop k
  | [], k, hk, _, _ => by
    have : k = 0 := by simpa using hk
    subst this
    simp [insT]
  | z :: zs, 0, _, _, h => by
    have h1 := h z (by simp)
    unfold insT
    rw [if_neg h1]
    by_cases h2 : z = x
    · simp [h2]
    · simp [h2]
  | z :: zs, k + 1, hk, h, h0 => by
    have h1 := h 0 z (by omega) (by simp)
    have ih := ins_at x zs k (by simpa using hk) (fun j y hj hy => h (j + 1) y (by omega) (by simpa using hy)) (fun y hy => h0 y (by simpa using hy))
    unfold insT
    rw [if_pos h1, ih]
    simp only [List.getElem?_cons_succ, List.take_succ_cons, List.drop_succ_cons, List.cons_append]
    split <;> rfl
def insAll (l : List Tx) : List Tx := l.foldl (fun acc x => insT x acc) []
theorem insAll_snoc (l : List Tx) (x : Tx) : insAll (l ++ [x]) = insT x (insAll l) := by simp [insAll]
theorem ins_length (x : Tx) : ∀ zs : List Tx, (insT x zs).length ≤ zs.length + 1
  | [] => by simp [insT]
  | z :: zs => by
    have := ins_length x zs
    unfold insT
    split
    · simpa using this
    · split <;> simp
theorem insFold_facts : ∀ (l acc : List Tx), Strict acc → Strict (l.foldl (fun acc x => insT x acc) acc) ∧ (∀ y, y ∈ l.foldl (fun acc x => insT x acc) acc ↔ y ∈ acc ∨ y ∈ l) ∧ (l.foldl (fun acc x => insT x acc) acc).length ≤ acc.length + l.length
  | [], acc, h => ⟨h, fun y => by simp, by simp⟩
  | x :: l, acc, h => by
    obtain ⟨h1, h2, h3⟩ := insFold_facts l (insT x acc) (strict_ins x h)
    have := ins_length x acc
    refine ⟨h1, fun y => ?_, by simp only [List.foldl_cons, List.length_cons]; omega⟩
    rw [List.foldl_cons, h2 y, mem_ins, List.mem_cons]
    constructor
    · rintro ((h4 | h4) | h4) <;> simp [h4]
    · rintro (h4 | h4 | h4) <;> simp [h4]
theorem insAll_facts (l : List Tx) : Strict (insAll l) ∧ (∀ y, y ∈ insAll l ↔ y ∈ l) ∧ (insAll l).length ≤ l.length := by
  obtain ⟨h1, h2, h3⟩ := insFold_facts l [] List.Pairwise.nil
  unfold insAll
  exact ⟨h1, fun y => by have := h2 y; simpa using this, by simpa using h3⟩

/-! ### sorted and compacted -/
theorem compact_facts {zs : List Tx} (h : zs.Pairwise (fun a b => ¬ b < a)) : ∀ m, m ≤ zs.length → Strict (compactUpTo zs.toArray m) ∧ ∀ y, y ∈ compactUpTo zs.toArray m ↔ y ∈ zs.take m
  | 0, _ => ⟨by simp [compactUpTo, Strict], fun y => by simp [compactUpTo]⟩
  | m + 1, hm => by
    obtain ⟨ih1, ih2⟩ := compact_facts h m (by omega)
    have hget : zs.toArray[m]! = zs[m]'(by omega) := by simp [getElem!_pos, show m < zs.length by omega]
    have htake : zs.take (m + 1) = zs.take m ++ [zs[m]'(by omega)] := by rw [List.take_succ_eq_append_getElem]
    rw [compactUpTo_succ, hget, htake]
    by_cases hk : keeps zs.toArray m = true
    · rw [if_pos hk]
      refine ⟨List.pairwise_append.2 ⟨ih1, by simp, fun y hy z hz => ?_⟩, fun y => by rw [List.mem_append, List.mem_append, ih2 y]⟩
      rw [List.mem_singleton.1 hz]
      obtain ⟨j, hj, hy'⟩ := List.mem_iff_getElem.1 ((ih2 y).1 hy)
      rw [List.length_take] at hj
      rw [List.getElem_take] at hy'
      have h0 : 0 < m := by omega
      have hprev : zs.toArray[m - 1]! = zs[m - 1]'(by omega) := by simp [getElem!_pos, show m - 1 < zs.length by omega]
      have hne : zs[m]'(by omega) ≠ zs[m - 1]'(by omega) := by
        unfold keeps at hk
        rw [hget, hprev] at hk
        rcases of_decide_eq_true hk with h1 | h1
        · omega
        · exact h1
      have hle1 : ¬ zs[m]'(by omega) < zs[m - 1]'(by omega) := List.pairwise_iff_getElem.1 h (m - 1) m (by omega) (by omega) (by omega)
      have hlt := lt_of_not_le hle1 (Ne.symm hne)
      rcases Nat.lt_or_ge j (m - 1) with h2 | h2
      · have hle2 : ¬ zs[m - 1]'(by omega) < zs[j]'(by omega) := List.pairwise_iff_getElem.1 h j (m - 1) (by omega) (by omega) h2
        rw [← hy']
        rcases Decidable.em (zs[j]'(by omega) = zs[m - 1]'(by omega)) with h3 | h3
        · rw [h3]; exact hlt
        · exact lt_trans' (lt_of_not_le hle2 h3) hlt
      · obtain rfl : j = m - 1 := by omega
        rw [← hy']
        exact hlt
    · rw [if_neg hk, List.append_nil]
      refine ⟨ih1, fun y => ?_⟩
      have h0 : m ≠ 0 ∧ zs[m]'(by omega) = zs.toArray[m - 1]! := by
        unfold keeps at hk
        rw [hget] at hk
        simp only [decide_eq_true_eq, not_or] at hk
        exact ⟨hk.1, Decidable.not_not.1 hk.2⟩
      have hprev : zs.toArray[m - 1]! = zs[m - 1]'(by omega) := by simp [getElem!_pos, show m - 1 < zs.length by omega]
      have hin : zs[m]'(by omega) ∈ zs.take m := by
        rw [h0.2, hprev]
        exact List.mem_iff_getElem.2 ⟨m - 1, by rw [List.length_take]; omega, by rw [List.getElem_take]⟩
      rw [ih2 y, List.mem_append, List.mem_singleton]
      constructor
      · exact .inl
      · rintro (h1 | h1)
        · exact h1
        · rw [h1]; exact hin
def sortT (l : List Tx) : List Tx := l.mergeSort fun x y => decide (x ≤ y)
theorem sortT_sorted (l : List Tx) : (sortT l).Pairwise (fun a b => ¬ b < a) := by
  have h := List.pairwise_mergeSort (le := fun x y : Tx => decide (x ≤ y)) (fun a b c hab hbc => by
    simp only [decide_eq_true_eq] at *
    exact List.le_trans hab hbc) (fun a b => by
    simp only [Bool.or_eq_true, decide_eq_true_eq]
    exact List.le_total a b) l
  exact h.imp (fun hab => List.not_lt.2 (of_decide_eq_true hab))
theorem sort_ins (l : List Tx) : compact (sortT l) = insAll l := by
  obtain ⟨h1, h2⟩ := compact_facts (sortT_sorted l) (sortT l).length (Nat.le_refl _)
  obtain ⟨h3, h4, _⟩ := insAll_facts l
  refine strict_unique h1 h3 (fun x => ?_)
  rw [show compact (sortT l) = compactUpTo (sortT l).toArray (sortT l).length from rfl, h2 x, List.take_length, h4 x]
  unfold sortT
  exact List.mem_mergeSort

/-- All ways of a walk, each once, in the order of bytes. -/
def waysUpTo (l : List UInt8) (k : Nat) : List Tx := (List.range k).map fun (w : Nat) => wayList (w : Int) l
theorem waysUpTo_succ (l : List UInt8) (k : Nat) : waysUpTo l (k + 1) = waysUpTo l k ++ [wayList (k : Int) l] := by unfold waysUpTo; rw [List.range_succ, List.map_append]; rfl
theorem waysUpTo_length (l : List UInt8) (k : Nat) : (waysUpTo l k).length = k := by simp [waysUpTo]
def allWays (l : List UInt8) : List Tx := insAll (waysUpTo l 8)
end Tw
end Go.Proofs.YtjcagkpolfacpaaDoor
