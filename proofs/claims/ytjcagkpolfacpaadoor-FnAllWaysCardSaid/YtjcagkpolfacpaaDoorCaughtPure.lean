/-
  Plain law: no walk of six steps or fewer is caught.
-/
import Derived.Test.YtjcagkpolfacpaaDoorLawPure
namespace Go.Proofs.YtjcagkpolfacpaaDoor
namespace Tw

def stuck (vis : List (Int × Int)) (p : Int × Int) : Bool := order.all fun c => vis.contains (step p c)
/-- From a place, with places that have been stood on, no walk of at most n further steps is caught. -/
def free : Nat → List (Int × Int) → Int × Int → Bool
  | 0, vis, p => !(stuck vis p)
  | n + 1, vis, p => !(stuck vis p) && order.all fun c => vis.contains (step p c) || free n (step p c :: vis) (step p c)
theorem free_six : free 6 [(0, 0)] (0, 0) = true := by decide +kernel
theorem free_stuck {n : Nat} {vis : List (Int × Int)} {p : Int × Int} (h : free n vis p = true) : stuck vis p = false := by
  cases n with
  | zero => simpa [free] using h
  | succ n =>
    unfold free at h
    rw [Bool.and_eq_true] at h
    simpa using h.1
theorem in_order {c : UInt8} (h : 0 ≤ dir c) : c ∈ order := by
  have hr := dir_range c
  rw [← letter_dir c h]
  obtain hd | hd | hd | hd : dir c = 0 ∨ dir c = 1 ∨ dir c = 2 ∨ dir c = 3 := by omega
  all_goals
    rw [hd]
    decide
theorem dir_order {c : UInt8} (h : c ∈ order) : 0 ≤ dir c := by
  have : order.all (fun c => decide (0 ≤ dir c)) = true := by decide
  simpa using List.all_eq_true.1 this c h
theorem not_caught : ∀ (n : Nat) (m l : List UInt8) (vis : List (Int × Int)), (∀ q, q ∈ vis ↔ q ∈ places l) → free n vis (endOf l) = true → avoids (l ++ m) = true → m.length ≤ n → caught (l ++ m) = false
  | n, [], l, vis, hv, hf, ha, _ => by
    rw [List.append_nil] at ha ⊢
    have hs := free_stuck hf
    rw [Bool.eq_false_iff]
    intro hc
    unfold caught at hc
    simp only [Bool.and_eq_true, decide_eq_true_eq] at hc
    have h40 := hc.1.2
    have he : goesOn l = [] := by simpa using hc.2
    unfold stuck at hs
    rw [Bool.eq_false_iff] at hs
    apply hs
    rw [List.all_eq_true]
    intro c hco
    rw [List.contains_iff_mem, hv]
    have hx := avoids_snoc (c := c) ha h40 (dir_order hco)
    have hg : c ∉ goesOn l := by rw [he]; simp
    have hn : avoids (l ++ [c]) = false := by
      rw [Bool.eq_false_iff]
      intro h
      apply hg
      unfold goesOn
      rw [if_pos (by simp [ha, h40])]
      unfold goesTo
      rw [List.take_of_length_le (by simp [order])]
      exact List.mem_filter.2 ⟨hco, h⟩
    rw [hn] at hx
    have : (places l).contains (step (endOf l) c) = true := by
      cases hb : (places l).contains (step (endOf l) c)
      · rw [hb] at hx
        cases hx
      · rfl
    rwa [List.contains_iff_mem] at this
  | 0, _ :: _, _, _, _, _, _, hl => by simp at hl
  | n + 1, c :: m, l, vis, hv, hf, ha, hl => by
    have e : l ++ c :: m = (l ++ [c]) ++ m := by simp
    rw [e] at ha ⊢
    have h1 := avoids_take ha (l.length + 1)
    rw [List.take_append_of_le_length (by simp), List.take_of_length_le (by simp)] at h1
    have hlen := walkOk_len (avoids_ok h1)
    have h0 := avoids_take h1 l.length
    rw [List.take_append_of_le_length (Nat.le_refl _), List.take_of_length_le (Nat.le_refl _)] at h0
    have hdc : 0 ≤ dir c := ((walkOk_iff _).1 (avoids_ok h1)).2 c (by simp)
    have hx := avoids_snoc (c := c) h0 (by simp at hlen; omega) hdc
    rw [h1] at hx
    have hnot : vis.contains (step (endOf l) c) = false := by
      cases hb : vis.contains (step (endOf l) c)
      · rfl
      · rw [List.contains_iff_mem, hv, ← List.contains_iff_mem] at hb
        rw [hb] at hx
        cases hx
    unfold free at hf
    rw [Bool.and_eq_true, List.all_eq_true] at hf
    have hf2 := hf.2 c (in_order hdc)
    rw [hnot, Bool.false_or] at hf2
    refine not_caught n m (l ++ [c]) (step (endOf l) c :: vis) (fun q => ?_) ?_ ha (by simpa using hl)
    · rw [places_snoc, List.mem_cons, List.mem_append, List.mem_singleton, hv]
      exact Or.comm
    · have e2 : endOf (l ++ [c]) = step (endOf l) c := by
        unfold endOf
        rw [List.foldl_append]
        rfl
      rw [e2]
      exact hf2
theorem caught_seven {l : List UInt8} (h : caught l = true) : 7 ≤ l.length := by
  rcases Nat.lt_or_ge l.length 7 with hl | hl
  · have ha : avoids l = true := by
      unfold caught at h
      rw [Bool.and_eq_true, Bool.and_eq_true] at h
      exact h.1.1
    have hn := not_caught 6 l [] [(0, 0)] (fun q => by simp [places, placesTo, placeAt_zero]) free_six (by simpa using ha) (by omega)
    rw [List.nil_append, h] at hn
    cases hn
  · exact hl
theorem caught_none {l : List UInt8} (h : caught l = true) : goesOn l = [] := by
  unfold caught at h
  rw [Bool.and_eq_true] at h
  simpa using h.2
theorem caught_one : caught [101, 115, 115, 119, 119, 110, 101] = true := by decide +kernel
theorem caught_nil : caught [] = false := by decide

end Tw
end Go.Proofs.YtjcagkpolfacpaaDoor
