/-
  Plain mathematics of all walks of so many steps that avoid themselves: how many there are, and in which order they come.
-/
import Derived.Test.YtjcagkpolfacpaaDoorAvoidPure
namespace Go.Proofs.YtjcagkpolfacpaaDoor
namespace Tw

/-- All walks that go on a walk by so many steps and avoid themselves, in the order of bytes. -/
def onWalks (l : List UInt8) : Nat → List (List UInt8)
  | 0 => [l]
  | n + 1 => order.flatMap fun c => if avoids (l ++ [c]) = true then onWalks (l ++ [c]) n else []
/-- Those that begin with one of the first k letters. -/
def onTo (l : List UInt8) (n k : Nat) : List (List UInt8) := (order.take k).flatMap fun c => if avoids (l ++ [c]) = true then onWalks (l ++ [c]) n else []
theorem onTo_all (l : List UInt8) (n : Nat) : onTo l n 4 = onWalks l (n + 1) := rfl
theorem onTo_prefix (l : List UInt8) (n k : Nat) : onTo l n k <+: onWalks l (n + 1) := by
  rw [← onTo_all]
  unfold onTo
  have h : order.take 4 = order := rfl
  rw [h]
  refine ⟨(order.drop k).flatMap fun c => if avoids (l ++ [c]) = true then onWalks (l ++ [c]) n else [], ?_⟩
  rw [← List.flatMap_append, List.take_append_drop]
theorem onTo_succ {l : List UInt8} {n k : Nat} {c : UInt8} (hc : order[k]? = some c) : onTo l n (k + 1) = onTo l n k ++ if avoids (l ++ [c]) = true then onWalks (l ++ [c]) n else [] := by
  unfold onTo
  rw [List.take_add_one, hc, List.flatMap_append]
  simp
theorem onWalks_avoid : ∀ (n : Nat) {l x : List UInt8}, avoids l = true → x ∈ onWalks l n → avoids x = true ∧ x.length = l.length + n
  | 0, l, x, h, hx => by
    obtain rfl : x = l := by simpa [onWalks] using hx
    exact ⟨h, rfl⟩
  | n + 1, l, x, h, hx => by
    unfold onWalks at hx
    obtain ⟨c, _, hx⟩ := List.mem_flatMap.1 hx
    split at hx
    · rename_i hc
      obtain ⟨h1, h2⟩ := onWalks_avoid n hc hx
      exact ⟨h1, by rw [h2, List.length_append, List.length_singleton]; omega⟩
    · simp at hx

/-! ### on places, which Lean reckons fast -/
/-- How many walks go on from a place, by so many steps, when these places have been. -/
def cnt (been : List (Int × Int)) (at_ : Int × Int) : Nat → Nat
  | 0 => 1
  | n + 1 => (order.map fun c => if (at_ :: been).contains (step at_ c) then 0 else cnt (at_ :: been) (step at_ c) n).sum
/-- The letters that go on. -/
def exts (been : List (Int × Int)) (at_ : Int × Int) : Nat → List (List UInt8)
  | 0 => [[]]
  | n + 1 => order.flatMap fun c => if (at_ :: been).contains (step at_ c) then [] else (exts (at_ :: been) (step at_ c) n).map (c :: ·)
theorem length_flatMap' {α β : Type} (f : α → List β) : ∀ l : List α, (l.flatMap f).length = (l.map fun a => (f a).length).sum
  | [] => rfl
  | a :: l => by simp [length_flatMap' f l]
theorem exts_length : ∀ (n : Nat) (been : List (Int × Int)) (p : Int × Int), (exts been p n).length = cnt been p n
  | 0, _, _ => rfl
  | n + 1, been, p => by
    unfold exts cnt
    rw [length_flatMap']
    congr 1
    refine List.map_congr_left fun c _ => ?_
    split
    · rfl
    · rw [List.length_map, exts_length n]
theorem flatMap_congr' {α β : Type} {f g : α → List β} : ∀ {l : List α}, (∀ a ∈ l, f a = g a) → l.flatMap f = l.flatMap g
  | [], _ => rfl
  | a :: l, h => by
    rw [List.flatMap_cons, List.flatMap_cons, h a (by simp), flatMap_congr' fun b hb => h b (by simp [hb])]
/-- The places of a walk are those that have been, and the last one. -/
theorem onWalks_exts : ∀ (n : Nat) (l : List UInt8) (been : List (Int × Int)) , avoids l = true → l.length + n ≤ 40 → (∀ p, p ∈ places l ↔ p ∈ endOf l :: been) → onWalks l n = (exts been (endOf l) n).map (l ++ ·)
  | 0, l, been, h, hl, hb => by simp [onWalks, exts]
  | n + 1, l, been, h, hl, hb => by
    unfold onWalks exts
    rw [List.map_flatMap]
    refine flatMap_congr' fun c hc => ?_
    have hdc : 0 ≤ dir c := by
      simp only [order, List.mem_cons, List.not_mem_nil, or_false] at hc
      rcases hc with rfl | rfl | rfl | rfl <;> decide
    have ha := avoids_snoc h (by omega) hdc
    have hcon : (places l).contains (step (endOf l) c) = (endOf l :: been).contains (step (endOf l) c) := by
      rw [Bool.eq_iff_iff, List.contains_iff_mem, List.contains_iff_mem]
      exact hb _
    rw [hcon] at ha
    cases hx : (endOf l :: been).contains (step (endOf l) c)
    · have ha : avoids (l ++ [c]) = true := by rw [ha, hx]; rfl
      have he : endOf (l ++ [c]) = step (endOf l) c := by unfold endOf; rw [List.foldl_append]; rfl
      rw [if_pos ha, if_neg (by simp), onWalks_exts n (l ++ [c]) (endOf l :: been) ha (by simp; omega) (fun p => by
        rw [places_snoc, List.mem_append, List.mem_singleton, hb p, he]
        simp only [List.mem_cons]
        constructor
        · rintro ((h9 | h9) | h9) <;> simp [h9]
        · rintro (h9 | h9 | h9) <;> simp [h9]), he, List.map_map]
      refine List.map_congr_left fun x _ => ?_
      simp
    · have ha : avoids (l ++ [c]) = false := by rw [ha, hx]; rfl
      rw [if_neg (by rw [ha]; simp), if_pos rfl]
      rfl
theorem avoids_nil : avoids [] = true := by decide
theorem onWalks_nil {n : Nat} (hn : n ≤ 40) : onWalks [] n = exts [] (0, 0) n := by
  have := onWalks_exts n [] [] avoids_nil (by simpa using hn) (fun p => by simp [places, placesTo, endOf, placeAt])
  rw [this]
  simp [endOf]
theorem onWalks_east {n : Nat} (hn : n + 1 ≤ 40) : (onWalks [101] n).length = cnt [(0, 0)] (1, 0) n := by
  have := onWalks_exts n [101] [(0, 0)] (by decide) (by simp; omega) (fun p => by
    have h1 : places [101] = [(0, 0), (1, 0)] := by decide
    have h2 : endOf [101] = (1, 0) := by decide
    rw [h1, h2]
    simp [or_comm])
  rw [this, List.length_map, exts_length]
  rfl
/-- How many walks of n steps there are. -/
def countOf (n : Nat) : Nat := cnt [] (0, 0) n
theorem countOf_eq {n : Nat} (hn : n ≤ 40) : (onWalks [] n).length = countOf n := by rw [onWalks_nil hn, exts_length]; rfl
theorem counts : (List.range 8).map countOf = [1, 4, 12, 36, 100, 284, 780, 2172] := by decide +kernel
theorem counts_east : (List.range 7).map (fun n => 4 * cnt [(0, 0)] (1, 0) n) = [4, 12, 36, 100, 284, 780, 2172] := by decide +kernel
theorem count_east {n : Nat} (hn : n < 7) : 4 * (onWalks [101] n).length = countOf (n + 1) := by
  rw [onWalks_east (by omega)]
  have h1 := congrArg (fun l : List Nat => l[n]?) counts_east
  have h2 := congrArg (fun l : List Nat => l[n + 1]?) counts
  simp only [List.getElem?_map, List.getElem?_range (show n < 7 by omega), List.getElem?_range (show n + 1 < 8 by omega), Option.map_some] at h1 h2
  have h3 : ([4, 12, 36, 100, 284, 780, 2172] : List Nat)[n]? = ([1, 4, 12, 36, 100, 284, 780, 2172] : List Nat)[n + 1]? := rfl
  rw [← h1, ← h2] at h3
  exact Option.some.inj h3
/-- Strictly ascending in the order of bytes: neighbours alone. -/
def ascends : List (List UInt8) → Bool
  | [] => true
  | [_] => true
  | a :: b :: t => decide (a < b) && ascends (b :: t)
theorem walks_ascend {n : Nat} (hn : n ≤ 5) : ascends (onWalks [] n) = true := by
  rw [onWalks_nil (by omega)]
  have h1 : (List.range 6).all (fun n => ascends (exts [] (0, 0) n)) = true := by decide +kernel
  exact List.all_eq_true.1 h1 n (List.mem_range.2 (by omega))
theorem ascends_at : ∀ (l : List (List UInt8)) (k : Nat) (a b : List UInt8), ascends l = true → l[k]? = some a → l[k + 1]? = some b → a < b
  | [], _, _, _, _, h, _ => by simp at h
  | [_], 0, _, _, _, _, h => by simp at h
  | [_], k + 1, _, _, _, h, _ => by simp at h
  | x :: y :: t, 0, a, b, h, h1, h2 => by
    simp only [ascends, Bool.and_eq_true, decide_eq_true_eq] at h
    obtain rfl := Option.some.inj h1
    obtain rfl := Option.some.inj h2
    exact h.1
  | x :: y :: t, k + 1, a, b, h, h1, h2 => by
    simp only [ascends, Bool.and_eq_true, decide_eq_true_eq] at h
    exact ascends_at (y :: t) k a b h.2 (by simpa using h1) (by simpa using h2)

end Tw
end Go.Proofs.YtjcagkpolfacpaaDoor
