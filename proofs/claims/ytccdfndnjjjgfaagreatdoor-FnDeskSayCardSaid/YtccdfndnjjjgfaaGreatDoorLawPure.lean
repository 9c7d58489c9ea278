/-
  Plain laws on walks that avoid themselves: parts of them, the way back, steps on, unfolded walks.
-/
import Derived.Test.YtccdfndnjjjgfaaGreatDoorShapePure
import Derived.Test.YtccdfndnjjjgfaaGreatDoorAvoidPure
namespace Go.Proofs.YtccdfndnjjjgfaaGreatDoor
namespace Tw

/-- No place of the walk is stood on twice. -/
def apart (l : List UInt8) : Prop := ∀ i j, i < j → j ≤ l.length → placeAt l i ≠ placeAt l j
theorem avoids_iff (l : List UInt8) : avoids l = true ↔ walkOk l = true ∧ apart l := by
  unfold avoids places apart
  rw [Bool.and_eq_true, noTwice_iff]
  constructor
  · rintro ⟨h1, h2⟩
    refine ⟨h1, fun i j hij hj e => h2 i j hij (by rw [placesTo_length]; omega) ?_⟩
    rw [placesTo_get? _ _ _ (by omega), placesTo_get? _ _ _ (by omega), e]
  · rintro ⟨h1, h2⟩
    refine ⟨h1, fun i j hij hj e => ?_⟩
    rw [placesTo_length] at hj
    rw [placesTo_get? _ _ _ (by omega), placesTo_get? _ _ _ (by omega)] at e
    exact h2 i j hij (by omega) (Option.some.inj e)
theorem valid_sub {l m : List UInt8} (h : valid l) (hs : ∀ c ∈ m, c ∈ l) : valid m := fun c hc => h c (hs c hc)
theorem walkOk_take {l : List UInt8} (h : walkOk l = true) (k : Nat) : walkOk (l.take k) = true := by
  rw [walkOk_iff] at *
  exact ⟨by rw [List.length_take]; omega, valid_sub h.2 fun c hc => List.mem_of_mem_take hc⟩
theorem walkOk_drop {l : List UInt8} (h : walkOk l = true) (k : Nat) : walkOk (l.drop k) = true := by
  rw [walkOk_iff] at *
  exact ⟨by rw [List.length_drop]; omega, valid_sub h.2 fun c hc => List.mem_of_mem_drop hc⟩
theorem walkOk_back {l : List UInt8} (h : walkOk l = true) : walkOk (backList l) = true := by
  rw [walkOk_iff] at *
  exact ⟨by rw [length_back]; exact h.1, valid_back l⟩
theorem walkOk_way {l : List UInt8} (h : walkOk l = true) (way : Int) : walkOk (wayList way l) = true := by
  rw [walkOk_iff] at *
  exact ⟨by rw [length_way]; exact h.1, valid_way way⟩
theorem placeAt_take (l : List UInt8) (k i : Nat) (h : i ≤ k) : placeAt (l.take k) i = placeAt l i := by
  unfold placeAt
  rw [List.take_take, Nat.min_eq_left h]
theorem placeAt_drop (l : List UInt8) (k i : Nat) : placeAt l (k + i) = ((placeAt l k).1 + (placeAt (l.drop k) i).1, (placeAt l k).2 + (placeAt (l.drop k) i).2) := by
  unfold placeAt
  rw [List.take_add, end_append]
theorem placeAt_back (l : List UInt8) (hv : valid l) (i : Nat) : placeAt (backList l) i = ((placeAt l (l.length - i)).1 - (endOf l).1, (placeAt l (l.length - i)).2 - (endOf l).2) := by
  have e : (backList l).take i = backList (l.drop (l.length - i)) := by
    unfold backList
    rw [← List.map_take, List.take_reverse]
  have h1 := end_append (l.take (l.length - i)) (l.drop (l.length - i))
  rw [List.take_append_drop] at h1
  unfold placeAt
  rw [e, end_back (valid_sub hv fun c hc => List.mem_of_mem_drop hc), h1]
  ext <;> simp only <;> omega
theorem avoids_take {l : List UInt8} (h : avoids l = true) (k : Nat) : avoids (l.take k) = true := by
  rw [avoids_iff] at *
  refine ⟨walkOk_take h.1 k, fun i j hij hj => ?_⟩
  rw [List.length_take] at hj
  rw [placeAt_take _ _ _ (by omega), placeAt_take _ _ _ (by omega)]
  exact h.2 i j hij (by omega)
theorem avoids_drop {l : List UInt8} (h : avoids l = true) (k : Nat) (hk : k ≤ l.length) : avoids (l.drop k) = true := by
  rw [avoids_iff] at *
  refine ⟨walkOk_drop h.1 k, fun i j hij hj e => ?_⟩
  rw [List.length_drop] at hj
  refine h.2 (k + i) (k + j) (by omega) (by omega) ?_
  rw [placeAt_drop, placeAt_drop, e]
theorem avoids_back {l : List UInt8} (h : avoids l = true) : avoids (backList l) = true := by
  rw [avoids_iff] at *
  have hv := ((walkOk_iff l).1 h.1).2
  refine ⟨walkOk_back h.1, fun i j hij hj e => ?_⟩
  rw [length_back] at hj
  rw [placeAt_back l hv i, placeAt_back l hv j, Prod.mk.injEq] at e
  refine h.2 (l.length - j) (l.length - i) (by omega) (by omega) ?_
  ext <;> omega
theorem avoids_open {l : List UInt8} (h : avoids l = true) : closed l = false := by
  rw [Bool.eq_false_iff]
  intro hc
  have h2 := (avoids_iff l).1 h
  refine h2.2 0 l.length (closed_len hc) (Nat.le_refl _) ?_
  rw [placeAt_zero, placeAt_all, closed_end hc]

/-! ### steps on -/
theorem goesTo_mem {l : List UInt8} {k : Nat} {c : UInt8} (h : c ∈ goesTo l k) : avoids (l ++ [c]) = true := (List.mem_filter.1 h).2
theorem goesOn_mem {l : List UInt8} {c : UInt8} (h : c ∈ goesOn l) : avoids (l ++ [c]) = true := by
  unfold goesOn at h
  split at h
  · exact goesTo_mem h
  · cases h
theorem avoids_turn {l : List UInt8} {c : UInt8} : avoids (l ++ [c] ++ [backLetter c]) = false := by
  rw [Bool.eq_false_iff]
  intro h
  obtain ⟨h1, h2⟩ := (avoids_iff _).1 h
  have hc : 0 ≤ dir c := ((walkOk_iff _).1 h1).2 c (by simp)
  refine h2 l.length (l.length + 1 + 1) (by omega) (by simp) ?_
  have e1 : placeAt (l ++ [c] ++ [backLetter c]) l.length = endOf l := by
    unfold placeAt
    simp
  have e2 : placeAt (l ++ [c] ++ [backLetter c]) (l.length + 1 + 1) = endOf (l ++ [c] ++ [backLetter c]) := by
    unfold placeAt
    rw [List.take_of_length_le (by simp)]
  rw [e1, e2, end_append, end_append, end_backLetter c hc]
  ext <;> simp only <;> omega
theorem back_in (c : UInt8) : backLetter c ∈ order := by
  have h : 0 ≤ (dir c + 2) % 4 ∧ (dir c + 2) % 4 ≤ 3 := by omega
  unfold backLetter
  obtain hd | hd | hd | hd : (dir c + 2) % 4 = 0 ∨ (dir c + 2) % 4 = 1 ∨ (dir c + 2) % 4 = 2 ∨ (dir c + 2) % 4 = 3 := by omega
  all_goals
    rw [hd]
    decide
theorem filter_short {α : Type} (p : α → Bool) : ∀ (l : List α) (a : α), a ∈ l → p a = false → (l.filter p).length + 1 ≤ l.length
  | [], _, h, _ => by cases h
  | b :: l, a, h, hp => by
    rcases List.mem_cons.1 h with rfl | h
    · rw [List.filter_cons_of_neg (by rw [hp]; simp)]
      have := List.length_filter_le p l
      simp only [List.length_cons]
      omega
    · have ih := filter_short p l a h hp
      rw [List.filter_cons]
      split <;> simp only [List.length_cons] <;> omega
theorem goesOn_three {l : List UInt8} (h : l ≠ []) : (goesOn l).length ≤ 3 := by
  unfold goesOn
  split
  · obtain ⟨m, c, rfl⟩ : ∃ m c, l = m ++ [c] := ⟨l.dropLast, l.getLast h, (List.dropLast_concat_getLast h).symm⟩
    have h1 := filter_short (fun d => avoids (m ++ [c] ++ [d])) order (backLetter c) (back_in c) avoids_turn
    unfold goesTo
    rw [List.take_of_length_le (by simp [order])]
    have h2 : order.length = 4 := rfl
    omega
  · simp
theorem goesOn_nil : goesOn [] = order := by decide

/-! ### unfolded walks fold again -/
def wayBack (way : Int) : Int := if 4 ≤ way then way else (4 - way) % 4
theorem wayBack_range {way : Int} (h0 : 0 ≤ way) (h7 : way ≤ 7) : 0 ≤ wayBack way ∧ wayBack way ≤ 7 := by
  unfold wayBack
  split <;> omega
theorem wayDir_back {way k : Int} (hk : 0 ≤ k) (hk3 : k ≤ 3) : wayDir (wayBack way) (wayDir way k) = k := by
  by_cases h4 : 4 ≤ way
  · have e : wayBack way = way := by unfold wayBack; rw [if_pos h4]
    rw [e]
    unfold wayDir
    rw [if_pos h4, if_pos h4]
    omega
  · have e : wayBack way = (4 - way) % 4 := by unfold wayBack; rw [if_neg h4]
    rw [e]
    unfold wayDir
    rw [if_neg h4, if_neg (by omega)]
    omega
theorem wayLetter_back {way : Int} {c : UInt8} (hc : 0 ≤ dir c) : wayLetter (wayBack way) (wayLetter way c) = c := by
  have hr := dir_range c
  have h1 := dir_wayLetter way c
  unfold wayLetter at *
  rw [h1, wayDir_back hc hr.2, letter_dir c hc]
theorem wayList_back {way : Int} {l : List UInt8} (hv : valid l) : wayList (wayBack way) (wayList way l) = l := by
  unfold wayList
  rw [List.map_map]
  exact (List.map_congr_left fun c hc => wayLetter_back (hv c hc)).trans (List.map_id l)
theorem unfoldAt_len {l : List UInt8} {p : Nat} {way : Int} (h : walkOk l = true) (hp : p ≤ l.length) (h0 : 0 ≤ way) (h7 : way ≤ 7) : (unfoldAt l p way).length = l.length := by
  unfold unfoldAt
  rw [inWay_eq (walkOk_drop h p) h0 h7, List.length_append, length_way, List.length_take, List.length_drop]
  omega
theorem unfoldAt_back {l : List UInt8} {p : Nat} {way : Int} (h : walkOk l = true) (hx : walkOk (unfoldAt l p way) = true) (hp : p ≤ l.length) (h0 : 0 ≤ way) (h7 : way ≤ 7) : unfoldAt (unfoldAt l p way) p (wayBack way) = l := by
  have hb := wayBack_range h0 h7
  have e : unfoldAt l p way = l.take p ++ wayList way (l.drop p) := by
    unfold unfoldAt
    rw [inWay_eq (walkOk_drop h p) h0 h7]
  have hd := walkOk_drop hx p
  have hl : (l.take p).length = p := by rw [List.length_take]; omega
  have e1 : (unfoldAt l p way).drop p = wayList way (l.drop p) := by
    rw [e, List.drop_append_of_le_length (by omega), List.drop_of_length_le (by omega), List.nil_append]
  have e2 : (unfoldAt l p way).take p = l.take p := by
    rw [e, List.take_append_of_le_length (by omega), List.take_of_length_le (by omega)]
  rw [e1] at hd
  show (unfoldAt l p way).take p ++ inWay ((unfoldAt l p way).drop p) (wayBack way) = l
  rw [e1, e2, inWay_eq hd hb.1 hb.2, wayList_back ((walkOk_iff _).1 (walkOk_drop h p)).2, List.take_append_drop]

end Tw
end Go.Proofs.YtccdfndnjjjgfaaGreatDoor
