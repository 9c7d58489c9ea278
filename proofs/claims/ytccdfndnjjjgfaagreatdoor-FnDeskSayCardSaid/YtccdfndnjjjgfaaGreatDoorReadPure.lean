/-
  Plain: a text cut at a byte; numbers of a few digits; which deed a text is that of. No condition.
-/
import Derived.Test.YtccdfndnjjjgfaaGreatDoorDeed
import Derived.Lib.CutLaws
namespace Go.Proofs.YtccdfndnjjjgfaaGreatDoor
open Go.RowKit

def cutStep (sep : UInt8) (st : List (List UInt8) × List UInt8) (c : UInt8) : List (List UInt8) × List UInt8 := if c = sep then (st.1 ++ [st.2], []) else (st.1, st.2 ++ [c])
def cutState (sep : UInt8) (l : List UInt8) : List (List UInt8) × List UInt8 := l.foldl (cutStep sep) ([], [])
/-- What stands between the bytes sep of a text. -/
def cutAll (sep : UInt8) (l : List UInt8) : List (List UInt8) := (cutState sep l).1 ++ [(cutState sep l).2]
theorem cut_clean (sep : UInt8) : ∀ (l : List UInt8) (ps : List (List UInt8)) (cur : List UInt8), sep ∉ l → l.foldl (cutStep sep) (ps, cur) = (ps, cur ++ l)
  | [], ps, cur, _ => by simp
  | c :: l, ps, cur, h => by
    rw [List.foldl_cons]
    have hc : c ≠ sep := fun e => h (by rw [e]; exact List.mem_cons_self)
    unfold cutStep
    rw [if_neg hc]
    exact (cut_clean sep l ps (cur ++ [c]) (fun e => h (List.mem_cons_of_mem _ e))).trans (by simp)
theorem cutAll_one {sep : UInt8} {l : List UInt8} (h : sep ∉ l) : cutAll sep l = [l] := by
  unfold cutAll cutState
  rw [cut_clean sep l [] [] h]
  rfl
theorem cutAll_two {sep : UInt8} {a b : List UInt8} (ha : sep ∉ a) (hb : sep ∉ b) : cutAll sep (a ++ sep :: b) = [a, b] := by
  unfold cutAll cutState
  rw [List.foldl_append, cut_clean sep a [] [] ha, List.foldl_cons]
  have e : cutStep sep ([], [] ++ a) sep = ([a], []) := by unfold cutStep; rw [if_pos rfl]; rfl
  rw [e, cut_clean sep b [a] [] hb]
  rfl
theorem cutState_sep {sep : UInt8} {l : List UInt8} {k : Nat} (hk : k < l.length) (h : l[k] = sep) : cutState sep (l.take (k + 1)) = ((cutState sep (l.take k)).1 ++ [(cutState sep (l.take k)).2], []) := by
  unfold cutState
  rw [List.take_succ_eq_append_getElem hk, List.foldl_append, List.foldl_cons, List.foldl_nil]
  unfold cutStep
  rw [if_pos h]
theorem cutState_not {sep : UInt8} {l : List UInt8} {k : Nat} (hk : k < l.length) (h : l[k] ≠ sep) : cutState sep (l.take (k + 1)) = ((cutState sep (l.take k)).1, (cutState sep (l.take k)).2 ++ [l[k]]) := by
  unfold cutState
  rw [List.take_succ_eq_append_getElem hk, List.foldl_append, List.foldl_cons, List.foldl_nil]
  unfold cutStep
  rw [if_neg h]

theorem nil_of_sizeR {s : ByteArray} (h : s.size = 0) : s = ⟨#[]⟩ := by
  apply ByteArray.ext
  exact Array.eq_empty_of_size_eq_zero h
theorem notEmptyR {s : ByteArray} (h : 0 < s.size) : s.toList.isEmpty = false := by
  rw [Lib.toList_data]
  cases hl : s.data.toList with
  | nil => have := size_data s; rw [hl] at this; simp at this; omega
  | cons _ _ => rfl
/-- A text of digits: its number. -/
def numVal (l : List UInt8) : Nat := l.foldl (fun n c => 10 * n + (c.toNat - 48)) 0
def numOk (l : List UInt8) (d : Nat) : Bool := decide (1 ≤ l.length) && decide (l.length ≤ d) && !(decide (1 < l.length) && l.head? == some 48) && l.all fun c => decide (48 ≤ c.toNat) && decide (c.toNat ≤ 57)
theorem num_dec {n : Nat} (h : n < 100) : numOk (Lib.decDigits n) 2 = true ∧ numVal (Lib.decDigits n) = n ∧ (32 : UInt8) ∉ Lib.decDigits n ∧ Lib.decDigits n ≠ [] := by
  have h2 : (List.range 100).all (fun i => numOk (Lib.decDigits i) 2 && decide (numVal (Lib.decDigits i) = i) && !(Lib.decDigits i).contains 32 && !(Lib.decDigits i).isEmpty) = true := by decide +kernel
  have := List.all_eq_true.1 h2 n (List.mem_range.2 h)
  simp at this
  exact ⟨this.1.1.1, this.1.1.2, this.1.2, this.2⟩
theorem num_mono {l : List UInt8} {d e : Nat} (h : numOk l d = true) (hde : d ≤ e) : numOk l e = true := by
  unfold numOk at *
  simp at *
  exact ⟨⟨⟨h.1.1.1, by omega⟩, h.1.2⟩, h.2⟩
theorem dec_num {l : List UInt8} (h : numOk l 2 = true) : Lib.decDigits (numVal l) = l ∧ numVal l < 100 := by
  unfold numOk at h
  simp only [Bool.and_eq_true, decide_eq_true_eq] at h
  obtain ⟨⟨⟨h1, h2⟩, h3⟩, h4⟩ := h
  match l, h1, h2, h3, h4 with
  | [c], _, _, _, h4 =>
    simp at h4
    have e : numVal [c] = c.toNat - 48 := by simp [numVal]
    rw [e]
    refine ⟨?_, by omega⟩
    rw [dec_two (by omega), if_pos (by omega)]
    have : 48 + (c.toNat - 48) = c.toNat := by omega
    rw [this, UInt8.ofNat_toNat]
  | [a, b], _, _, h3, h4 =>
    simp at h4 h3
    have ha : a.toNat ≠ 48 := fun e => h3 (by rw [← UInt8.ofNat_toNat (x := a), e]; rfl)
    have e : numVal [a, b] = 10 * (a.toNat - 48) + (b.toNat - 48) := by simp [numVal]
    rw [e]
    refine ⟨?_, by omega⟩
    rw [dec_two (by omega), if_neg (by omega)]
    have e1 : 48 + (10 * (a.toNat - 48) + (b.toNat - 48)) / 10 = a.toNat := by omega
    have e2 : 48 + (10 * (a.toNat - 48) + (b.toNat - 48)) % 10 = b.toNat := by omega
    rw [e1, e2, UInt8.ofNat_toNat, UInt8.ofNat_toNat]

/-- The deeds that have a text. -/
def told (k n : Int) : Prop := ((k = 0 ∨ k = 2 ∨ k = 3) ∧ 0 ≤ n ∧ n ≤ 99) ∨ ((k = 1 ∨ k = 4 ∨ k = 5) ∧ n = 0)
theorem told_of {k n : Int} (h : deedText k n ≠ []) : told k n := by
  unfold deedText at h
  unfold told
  split at h
  · rename_i hk
    split at h
    · rename_i hn
      exact .inl ⟨hk, hn⟩
    · exact absurd rfl h
  · split at h
    · rename_i hk
      split at h
      · rename_i hn
        exact .inr ⟨hk, hn⟩
      · exact absurd rfl h
    · exact absurd rfl h
theorem text_told {k n : Int} (h : told k n) : deedText k n = if k = 0 ∨ k = 2 ∨ k = 3 then deedWord k.toNat ++ 32 :: Lib.decDigits n.toNat else deedWord k.toNat := by
  unfold deedText
  rcases h with ⟨h1, h2⟩ | ⟨h1, h2⟩
  · rw [if_pos h1, if_pos h1, if_pos h2]
  · have h3 : ¬ (k = 0 ∨ k = 2 ∨ k = 3) := by omega
    rw [if_neg h3, if_neg h3, if_pos h1, if_pos h2]
def headOf (k : Int) : UInt8 := [115, 100, 119, 111, 102, 98].getD k.toNat 0
theorem head_text {k n : Int} (h : told k n) : (deedText k n).head? = some (headOf k) := by
  rw [text_told h]
  have hk : k = 0 ∨ k = 1 ∨ k = 2 ∨ k = 3 ∨ k = 4 ∨ k = 5 := by unfold told at h; omega
  rcases hk with rfl | rfl | rfl | rfl | rfl | rfl <;> simp [deedWord, headOf]
theorem text_inj {k n k' n' : Int} (h : deedText k n = deedText k' n') (h0 : deedText k n ≠ []) : k = k' ∧ n = n' := by
  have t := told_of h0
  have t' := told_of (h ▸ h0)
  have e := head_text t
  rw [h, head_text t'] at e
  have hk : k = 0 ∨ k = 1 ∨ k = 2 ∨ k = 3 ∨ k = 4 ∨ k = 5 := by unfold told at t; omega
  have hk' : k' = 0 ∨ k' = 1 ∨ k' = 2 ∨ k' = 3 ∨ k' = 4 ∨ k' = 5 := by unfold told at t'; omega
  have ek : k = k' := by
    rcases hk with rfl | rfl | rfl | rfl | rfl | rfl <;> rcases hk' with rfl | rfl | rfl | rfl | rfl | rfl <;> first | rfl | (exfalso; revert e; decide)
  subst ek
  refine ⟨rfl, ?_⟩
  rcases t with ⟨h1, h2⟩ | ⟨h1, h2⟩
  · rcases t' with ⟨_, h3⟩ | ⟨h3, _⟩
    · rw [text_told (.inl ⟨h1, h2⟩), text_told (.inl ⟨h1, h3⟩), if_pos h1, if_pos h1] at h
      have h5 := List.append_cancel_left h
      simp only [List.cons.injEq, true_and] at h5
      have h6 := congrArg numVal h5
      rw [(num_dec (by omega)).2.1, (num_dec (by omega)).2.1] at h6
      omega
    · omega
  · rcases t' with ⟨h3, _⟩ | ⟨_, h3⟩
    · omega
    · omega
/-- The deed whose text a text is, and whether there is one. -/
noncomputable def readOf (s : List UInt8) : (Int × Int) × Bool :=
  open Classical in if h : ∃ d : Int × Int, s ≠ [] ∧ deedText d.1 d.2 = s then (h.choose, true) else ((0, 0), false)
theorem readOf_of {s : List UInt8} {k n : Int} (h0 : s ≠ []) (h : deedText k n = s) : readOf s = ((k, n), true) := by
  have hx : ∃ d : Int × Int, s ≠ [] ∧ deedText d.1 d.2 = s := ⟨(k, n), h0, h⟩
  unfold readOf
  rw [dif_pos hx]
  have h2 := hx.choose_spec.2
  have h3 := text_inj (h2.trans h.symm) (by rw [h2]; exact h0)
  exact Prod.ext (Prod.ext h3.1 h3.2) rfl
theorem readOf_none {s : List UInt8} (h : ∀ k n, s ≠ [] → deedText k n ≠ s) : readOf s = ((0, 0), false) := by
  unfold readOf
  rw [dif_neg]
  rintro ⟨d, h0, h1⟩
  exact h _ _ h0 h1
theorem readOf_text {s : List UInt8} (h : (readOf s).2 = true) : s ≠ [] ∧ deedText (readOf s).1.1 (readOf s).1.2 = s := by
  unfold readOf at *
  split at h
  · rename_i hx
    rw [dif_pos hx]
    exact hx.choose_spec
  · cases h
theorem readOf_not {s : List UInt8} (h : (readOf s).2 = false) : readOf s = ((0, 0), false) ∧ ∀ k n, s ≠ [] → deedText k n ≠ s := by
  have hn : ∀ k n, s ≠ [] → deedText k n ≠ s := fun k n h0 h1 => by
    rw [readOf_of h0 h1] at h
    cases h
  exact ⟨readOf_none hn, hn⟩

end Go.Proofs.YtccdfndnjjjgfaaGreatDoor
