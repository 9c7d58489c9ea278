/-
  Plain mathematics of closed walks: begun later, walked back, in eight ways; the first of a shape.
-/
import Derived.Test.YtccdfndnjjjgfaaGreatDoorPlacePure
namespace Go.Proofs.YtccdfndnjjjgfaaGreatDoor
namespace Tw

def closed (l : List UInt8) : Bool := walkOk l && !l.isEmpty && decide (endOf l = (0, 0))
def backLetter (c : UInt8) : UInt8 := letter ((dir c + 2) % 4)
def backWalk (l : List UInt8) : List UInt8 := if walkOk l then l.reverse.map backLetter else []
def moved (l : List UInt8) (k : Nat) : List UInt8 := l.drop k ++ l.take k
def movedOn (l : List UInt8) (k : Int) : List UInt8 := if closed l && decide (0 ≤ k) && decide (k < l.length) then moved l k.toNat else []

theorem closed_ok {l : List UInt8} (h : closed l = true) : walkOk l = true := by simp [closed] at h; exact h.1.1
theorem closed_len {l : List UInt8} (h : closed l = true) : 0 < l.length := by
  simp [closed] at h
  exact List.length_pos_iff.2 h.1.2
theorem closed_end {l : List UInt8} (h : closed l = true) : endOf l = (0, 0) := by simp [closed] at h; exact h.2
theorem closed_mk {l : List UInt8} (h1 : walkOk l = true) (h2 : 0 < l.length) (h3 : endOf l = (0, 0)) : closed l = true := by
  simp [closed, h1, h3]
  exact List.length_pos_iff.1 h2

/-! ### letters in a way, back -/
def valid (l : List UInt8) : Prop := ∀ c ∈ l, 0 ≤ dir c
theorem walkOk_iff (l : List UInt8) : walkOk l = true ↔ l.length ≤ 40 ∧ valid l := by
  unfold walkOk letters valid
  simp

theorem wayDir_range (way k : Int) : 0 ≤ wayDir way k ∧ wayDir way k ≤ 3 := by unfold wayDir; omega
theorem dir_wayLetter (way : Int) (c : UInt8) : dir (wayLetter way c) = wayDir way (dir c) := by
  have := wayDir_range way (dir c)
  unfold wayLetter
  exact dir_letter _ this.1 this.2
theorem dir_backLetter (c : UInt8) : dir (backLetter c) = (dir c + 2) % 4 := by
  unfold backLetter
  exact dir_letter _ (by omega) (by omega)
theorem back_way (way : Int) (c : UInt8) : backLetter (wayLetter way c) = wayLetter way (backLetter c) := by
  have hr := dir_range c
  unfold backLetter
  rw [dir_wayLetter]
  unfold wayLetter
  rw [dir_letter _ (by omega) (by omega)]
  congr 1
  unfold wayDir
  split <;> omega
theorem back_back (c : UInt8) (hc : 0 ≤ dir c) : backLetter (backLetter c) = c := by
  have hr := dir_range c
  unfold backLetter
  rw [dir_letter _ (by omega) (by omega), show (((dir c + 2) % 4) + 2) % 4 = dir c from by omega, letter_dir c hc]
theorem way_zero (c : UInt8) (hc : 0 ≤ dir c) : wayLetter 0 c = c := by
  have hr := dir_range c
  unfold wayLetter wayDir
  rw [if_neg (by omega), show (dir c + 0) % 4 = dir c from by omega, letter_dir c hc]

def wayList (way : Int) (l : List UInt8) : List UInt8 := l.map (wayLetter way)
def backList (l : List UInt8) : List UInt8 := l.reverse.map backLetter
theorem inWay_eq {l : List UInt8} {way : Int} (h : walkOk l = true) (h0 : 0 ≤ way) (h7 : way ≤ 7) : inWay l way = wayList way l := by simp [inWay, h, h0, h7, wayList]
theorem backWalk_eq {l : List UInt8} (h : walkOk l = true) : backWalk l = backList l := by simp [backWalk, h, backList]

theorem valid_way {l : List UInt8} (way : Int) : valid (wayList way l) := by
  intro c hc
  obtain ⟨d, _, rfl⟩ := List.mem_map.1 hc
  rw [dir_wayLetter]
  exact (wayDir_range _ _).1
theorem valid_back (l : List UInt8) : valid (backList l) := by
  intro c hc
  obtain ⟨d, _, rfl⟩ := List.mem_map.1 hc
  rw [dir_backLetter]
  omega
theorem valid_moved {l : List UInt8} (h : valid l) (k : Nat) : valid (moved l k) := by
  intro c hc
  rcases List.mem_append.1 hc with hc | hc
  · exact h c (List.mem_of_mem_drop hc)
  · exact h c (List.mem_of_mem_take hc)
theorem length_way (l : List UInt8) (way : Int) : (wayList way l).length = l.length := by simp [wayList]
theorem length_back (l : List UInt8) : (backList l).length = l.length := by simp [backList]
theorem length_moved (l : List UInt8) (k : Nat) : (moved l k).length = l.length := by simp [moved]; omega
theorem moved_way (l : List UInt8) (way : Int) (k : Nat) : moved (wayList way l) k = wayList way (moved l k) := by simp [moved, wayList, List.map_drop, List.map_take]
theorem back_wayList (l : List UInt8) (way : Int) : backList (wayList way l) = wayList way (backList l) := by
  unfold backList wayList
  rw [← List.map_reverse, List.map_map, List.map_map]
  exact List.map_congr_left fun c _ => back_way way c
theorem backList_moved (l : List UInt8) (k : Nat) : backList (moved l k) = moved (backList l) (l.length - k) := by
  unfold backList moved
  rw [List.reverse_append, List.map_append, ← List.map_drop, ← List.map_take]
  congr 2
  · rw [List.reverse_take]
  · rw [List.reverse_drop]
theorem moved_zero (l : List UInt8) : moved l 0 = l := by simp [moved]
theorem moved_all (l : List UInt8) : moved l l.length = l := by simp [moved]

/-! ### where a walk ends -/
theorem end_append (l m : List UInt8) : endOf (l ++ m) = ((endOf l).1 + (endOf m).1, (endOf l).2 + (endOf m).2) := by
  have key : ∀ (m : List UInt8) (p : Int × Int), m.foldl step p = (p.1 + (endOf m).1, p.2 + (endOf m).2) := by
    intro m
    induction m with
    | nil => intro p; simp [endOf]
    | cons c m ih =>
      intro p
      have h1 := ih (step p c)
      have h2 := ih (step (0, 0) c)
      unfold endOf at *
      simp only [List.foldl_cons]
      rw [h1, h2]
      unfold step
      simp only
      ext <;> simp only <;> omega
  unfold endOf
  rw [List.foldl_append, key m]
  rfl
theorem end_moved (l : List UInt8) (k : Nat) : endOf (moved l k) = endOf l := by
  have h := end_append (l.take k) (l.drop k)
  rw [List.take_append_drop] at h
  unfold moved
  rw [end_append, h]
  ext <;> simp only <;> omega
/-- A place in a way. -/
def wayPlace (way : Int) (p : Int × Int) : Int × Int :=
  let q := if 4 ≤ way then (p.1, -p.2) else p
  if way % 4 = 0 then q else if way % 4 = 1 then (-q.2, q.1) else if way % 4 = 2 then (-q.1, -q.2) else (q.2, -q.1)
theorem step_way (way : Int) (h0 : 0 ≤ way) (h7 : way ≤ 7) (p : Int × Int) (c : UInt8) (hc : 0 ≤ dir c) : step (wayPlace way p) (wayLetter way c) = wayPlace way (step p c) := by
  have hr := dir_range c
  unfold step
  rw [dir_wayLetter]
  obtain ⟨x, y⟩ := p
  obtain hd | hd | hd | hd : dir c = 0 ∨ dir c = 1 ∨ dir c = 2 ∨ dir c = 3 := by omega
  all_goals
    rw [hd]
    obtain rfl | rfl | rfl | rfl | rfl | rfl | rfl | rfl : way = 0 ∨ way = 1 ∨ way = 2 ∨ way = 3 ∨ way = 4 ∨ way = 5 ∨ way = 6 ∨ way = 7 := by omega
    all_goals
      simp [wayPlace, wayDir, east, north]
      try omega
theorem foldl_way (way : Int) (h0 : 0 ≤ way) (h7 : way ≤ 7) : ∀ (l : List UInt8) (p : Int × Int), valid l → (wayList way l).foldl step (wayPlace way p) = wayPlace way (l.foldl step p)
  | [], _, _ => rfl
  | c :: l, p, h => by
    show ((wayList way l).foldl step (step (wayPlace way p) (wayLetter way c))) = _
    rw [step_way way h0 h7 p c (h c (by simp))]
    exact foldl_way way h0 h7 l _ (fun d hd => h d (by simp [hd]))
theorem wayPlace_zero (way : Int) : wayPlace way (0, 0) = (0, 0) := by unfold wayPlace; simp
theorem end_way {l : List UInt8} (way : Int) (h0 : 0 ≤ way) (h7 : way ≤ 7) (h : valid l) : endOf (wayList way l) = wayPlace way (endOf l) := by
  unfold endOf
  rw [← foldl_way way h0 h7 l _ h, wayPlace_zero]
theorem wayPlace_inj (way : Int) {p q : Int × Int} (h : wayPlace way p = wayPlace way q) : p = q := by
  obtain ⟨a, b⟩ := p
  obtain ⟨c, d⟩ := q
  have e : a = c ∧ b = d := by
    by_cases h4 : 4 ≤ way <;> by_cases r0 : way % 4 = 0 <;> by_cases r1 : way % 4 = 1 <;> by_cases r2 : way % 4 = 2
    all_goals
      simp [wayPlace, h4, r0, r1, r2] at h
      omega
  rw [e.1, e.2]
theorem end_one (c : UInt8) : endOf [c] = (east (dir c), north (dir c)) := by simp [endOf, step]
theorem end_backLetter (c : UInt8) (hc : 0 ≤ dir c) : endOf [backLetter c] = (-(endOf [c]).1, -(endOf [c]).2) := by
  have hr := dir_range c
  rw [end_one, end_one, dir_backLetter]
  obtain hd | hd | hd | hd : dir c = 0 ∨ dir c = 1 ∨ dir c = 2 ∨ dir c = 3 := by omega
  all_goals
    rw [hd]
    decide
theorem end_back : ∀ {l : List UInt8}, valid l → endOf (backList l) = (-(endOf l).1, -(endOf l).2)
  | [], _ => by simp [backList, endOf]
  | c :: l, h => by
    have e : backList (c :: l) = backList l ++ [backLetter c] := by simp [backList]
    rw [e, end_append, end_back (fun d hd => h d (by simp [hd])), end_backLetter c (h c (by simp)), show c :: l = [c] ++ l from rfl, end_append]
    ext <;> simp only <;> omega

theorem closed_way {l : List UInt8} (way : Int) (h0 : 0 ≤ way) (h7 : way ≤ 7) (h : closed l = true) : closed (wayList way l) = true := by
  have hv := ((walkOk_iff l).1 (closed_ok h)).2
  have hl := walkOk_len (closed_ok h)
  exact closed_mk ((walkOk_iff _).2 ⟨by rw [length_way]; exact hl, valid_way way⟩) (by rw [length_way]; exact closed_len h) (by rw [end_way way h0 h7 hv, closed_end h, wayPlace_zero])
theorem closed_moved {l : List UInt8} (k : Nat) (h : closed l = true) : closed (moved l k) = true := by
  have hv := ((walkOk_iff l).1 (closed_ok h)).2
  have hl := walkOk_len (closed_ok h)
  exact closed_mk ((walkOk_iff _).2 ⟨by rw [length_moved]; exact hl, valid_moved hv k⟩) (by rw [length_moved]; exact closed_len h) (by rw [end_moved, closed_end h])
theorem closed_back {l : List UInt8} (h : closed l = true) : closed (backList l) = true := by
  have hv := ((walkOk_iff l).1 (closed_ok h)).2
  have hl := walkOk_len (closed_ok h)
  exact closed_mk ((walkOk_iff _).2 ⟨by rw [length_back]; exact hl, valid_back l⟩) (by rw [length_back]; exact closed_len h) (by rw [end_back hv, closed_end h]; rfl)
theorem movedOn_eq {l : List UInt8} {k : Nat} (h : closed l = true) (hk : k < l.length) : movedOn l k = moved l k := by
  simp [movedOn, h, hk]

end Tw
end Go.Proofs.YtccdfndnjjjgfaaGreatDoor
