/-
  Plain mathematics for the walks of letters: directions, valid walks, the eight ways. No program in sight.
-/
import Derived.WalkKit
namespace Go.Proofs.YtccdfndnjjjgfaaGreatDoor
namespace Tw

/-- The direction of a letter (e, n, w, s: 0 to 3), else -1. -/
def dir (c : UInt8) : Int := if c = 101 then 0 else if c = 110 then 1 else if c = 119 then 2 else if c = 115 then 3 else -1
/-- The letter of a direction. -/
def letter (k : Int) : UInt8 := if k = 0 then 101 else if k = 1 then 110 else if k = 2 then 119 else 115

theorem dir_range (c : UInt8) : -1 ≤ dir c ∧ dir c ≤ 3 := by unfold dir; repeat' split <;> omega
theorem dir_letter (k : Int) (h0 : 0 ≤ k) (h1 : k ≤ 3) : dir (letter k) = k := by
  obtain rfl | rfl | rfl | rfl : k = 0 ∨ k = 1 ∨ k = 2 ∨ k = 3 := by omega
  all_goals decide
theorem letter_dir (c : UInt8) (h : 0 ≤ dir c) : letter (dir c) = c := by
  unfold dir at *
  split
  · simp [letter, *]
  · split
    · simp [letter, *]
    · split
      · simp [letter, *]
      · split
        · simp [letter, *]
        · simp_all

def letters (l : List UInt8) : Bool := l.all fun c => decide (0 ≤ dir c)
/-- A walk: at most 40 letters, each of a direction. -/
def walkOk (l : List UInt8) : Bool := decide (l.length ≤ 40) && letters l

/-- A direction in one of eight ways. -/
def wayDir (way k : Int) : Int := ((if 4 ≤ way then (4 - k) % 4 else k) + way) % 4
def wayLetter (way : Int) (c : UInt8) : UInt8 := letter (wayDir way (dir c))
def inWay (l : List UInt8) (way : Int) : List UInt8 := if walkOk l && decide (0 ≤ way) && decide (way ≤ 7) then l.map (wayLetter way) else []

theorem letters_take {l : List UInt8} (h : letters l = true) (k : Nat) : letters (l.take k) = true := by
  unfold letters at *
  rw [List.all_eq_true] at *
  exact fun x hx => h x (List.mem_of_mem_take hx)
theorem take_snoc (l : List UInt8) (k : Nat) (h : k < l.length) : l.take (k + 1) = l.take k ++ [l[k]] := by
  rw [List.take_succ_eq_append_getElem h]

/-- A text of so many bytes. -/
def str (l : List UInt8) : ByteArray := ⟨l.toArray⟩
theorem str_data (l : List UInt8) : (str l).data.toList = l := rfl
theorem str_size (l : List UInt8) : (str l).size = l.length := by simp [str, ByteArray.size]
theorem str_append (l m : List UInt8) : str l ++ str m = str (l ++ m) := by
  apply ByteArray.ext
  simp [str]
theorem str_of (s : ByteArray) : str s.data.toList = s := by
  apply ByteArray.ext
  simp [str]
theorem walkOk_len {l : List UInt8} (h : walkOk l = true) : l.length ≤ 40 := by
  unfold walkOk at h
  simp at h
  exact h.1
theorem walkOk_dir {l : List UInt8} (h : walkOk l = true) {k : Nat} (hk : k < l.length) : 0 ≤ dir l[k] := by
  unfold walkOk letters at h
  simp at h
  exact h.2 _ (List.getElem_mem hk)

end Tw
end Go.Proofs.YtccdfndnjjjgfaaGreatDoor
