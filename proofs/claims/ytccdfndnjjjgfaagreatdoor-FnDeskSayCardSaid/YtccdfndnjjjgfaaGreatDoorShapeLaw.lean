/-
  Plain laws on shapes: the ways, the beginnings and the ways back of a closed walk make one class; simple walks and areas in it.
-/
import Derived.Test.YtccdfndnjjjgfaaGreatDoorFirstPure
import Derived.Test.YtccdfndnjjjgfaaGreatDoorLawPure
namespace Go.Proofs.YtccdfndnjjjgfaaGreatDoor
namespace Tw

/-! ### ways behind ways -/
def wayThen (v w : Int) : Int := if 4 ≤ v then (if 4 ≤ w then (w - v) % 4 else 4 + (v + w) % 4) else (if 4 ≤ w then 4 + (w - v) % 4 else (v + w) % 4)
theorem wayThen_range {v w : Int} : 0 ≤ wayThen v w ∧ wayThen v w ≤ 7 := by
  unfold wayThen
  repeat' split
  all_goals omega
theorem wayDir_then {v w k : Int} : wayDir w (wayDir v k) = wayDir (wayThen v w) k := by
  unfold wayDir wayThen
  repeat' split
  all_goals omega
theorem wayList_then {v w : Int} (l : List UInt8) : wayList w (wayList v l) = wayList (wayThen v w) l := by
  unfold wayList
  rw [List.map_map]
  refine List.map_congr_left fun c _ => ?_
  show wayLetter w (wayLetter v c) = _
  unfold wayLetter
  have h1 := dir_wayLetter v c
  unfold wayLetter at h1
  rw [h1, wayDir_then]
theorem moved_moved {l : List UInt8} {j k : Nat} (hj : j < l.length) (hk : k < l.length) : ∃ i, i < l.length ∧ moved (moved l j) k = moved l i := by
  by_cases h : j + k < l.length
  · refine ⟨j + k, h, ?_⟩
    unfold moved
    have e1 : (l.drop j ++ l.take j).drop k = l.drop (j + k) ++ l.take j := by
      rw [List.drop_append_of_le_length (by rw [List.length_drop]; omega), List.drop_drop]
    have e2 : (l.drop j ++ l.take j).take k = (l.drop j).take k := by
      rw [List.take_append_of_le_length (by rw [List.length_drop]; omega)]
    rw [e1, e2, List.append_assoc, ← List.take_add]
  · refine ⟨j + k - l.length, by omega, ?_⟩
    unfold moved
    have hl : (l.drop j).length = l.length - j := List.length_drop
    have e0 : k = (l.drop j).length + (j + k - l.length) := by rw [hl]; omega
    have e1 : (l.drop j ++ l.take j).drop k = (l.take j).drop (j + k - l.length) := by
      conv => lhs; rw [e0]
      rw [← List.drop_drop, List.drop_left]
    have e2 : (l.drop j ++ l.take j).take k = l.drop j ++ (l.take j).take (j + k - l.length) := by
      conv => lhs; rw [e0]
      rw [List.take_length_add_append]
    rw [e1, e2, List.take_take, Nat.min_eq_left (by omega), ← List.append_assoc]
    congr 1
    have e3 : l.drop (j + k - l.length) = (l.take j ++ l.drop j).drop (j + k - l.length) := by rw [List.take_append_drop]
    rw [e3, List.drop_append_of_le_length (by rw [List.length_take]; omega)]
theorem backList_back {l : List UInt8} (h : valid l) : backList (backList l) = l := by
  unfold backList
  rw [← List.map_reverse, List.reverse_reverse, List.map_map]
  exact (List.map_congr_left fun c hc => back_back c (h c hc)).trans (List.map_id l)

/-! ### the class -/
theorem shape_len {l x : List UInt8} (h : shape l x) : x.length = l.length := by
  obtain ⟨w, _, j, _, rfl | rfl⟩ := h
  · rw [length_way, length_moved]
  · rw [length_way, length_moved, length_back]
theorem shape_way {l x : List UInt8} (h : shape l x) {v : Int} : shape l (wayList v x) := by
  obtain ⟨w, hw, j, hj, rfl | rfl⟩ := h
  all_goals
    have hr := @wayThen_range (w : Int) v
    refine ⟨(wayThen w v).toNat, by omega, j, hj, ?_⟩
    rw [wayList_then, show ((wayThen w v).toNat : Int) = wayThen w v from by omega]
  · exact .inl rfl
  · exact .inr rfl
theorem shape_moved {l x : List UInt8} (h : shape l x) {k : Nat} (hk : k < l.length) : shape l (moved x k) := by
  obtain ⟨w, hw, j, hj, rfl | rfl⟩ := h
  all_goals rw [moved_way]
  · obtain ⟨i, hi, e⟩ := moved_moved hj hk
    rw [e]
    exact ⟨w, hw, i, hi, .inl rfl⟩
  · obtain ⟨i, hi, e⟩ := moved_moved (l := backList l) (by rw [length_back]; exact hj) (by rw [length_back]; exact hk)
    rw [length_back] at hi
    rw [e]
    exact ⟨w, hw, i, hi, .inr rfl⟩
theorem shape_moved' {l x : List UInt8} (h : shape l x) {k : Nat} (hk : k ≤ l.length) : shape l (moved x k) := by
  rcases Nat.lt_or_ge k l.length with hlt | hge
  · exact shape_moved h hlt
  · have : k = x.length := by rw [shape_len h]; omega
    rw [this, moved_all]
    exact h
theorem shape_back {l x : List UInt8} (hv : valid l) (h : shape l x) : shape l (backList x) := by
  have h2 := h
  obtain ⟨w, hw, j, hj, rfl | rfl⟩ := h
  · rw [back_wayList, backList_moved]
    rcases Nat.eq_zero_or_pos j with rfl | hj0
    · rw [Nat.sub_zero, show l.length = (backList l).length from (length_back l).symm, moved_all]
      exact ⟨w, hw, 0, by omega, .inr (by rw [moved_zero])⟩
    · exact ⟨w, hw, l.length - j, by omega, .inr rfl⟩
  · rw [back_wayList, backList_moved, backList_back hv, length_back]
    rcases Nat.eq_zero_or_pos j with rfl | hj0
    · rw [Nat.sub_zero, moved_all]
      exact ⟨w, hw, 0, by omega, .inl (by rw [moved_zero])⟩
    · exact ⟨w, hw, l.length - j, by omega, .inl rfl⟩
theorem shape_trans {l x y : List UInt8} (hv : valid l) (h : shape l x) (k : shape x y) : shape l y := by
  have hl := shape_len h
  obtain ⟨w, hw, j, hj, rfl | rfl⟩ := k
  · exact shape_way (shape_moved h (by omega))
  · exact shape_way (shape_moved (shape_back hv h) (by omega))
theorem moved_undo {l : List UInt8} {j : Nat} : moved (moved l j) (l.length - j) = l := by
  unfold moved
  have hl : (l.drop j).length = l.length - j := List.length_drop
  rw [← hl, List.drop_left, List.take_left, List.take_append_drop]
theorem wayList_undo {w : Int} {l : List UInt8} (hv : valid l) : wayList (wayBack w) (wayList w l) = l := wayList_back hv
theorem shape_symm {l x : List UInt8} (hc : closed l = true) (h : shape l x) : shape x l := by
  have hv := ((walkOk_iff l).1 (closed_ok hc)).2
  have hx := closed_shape hc h
  have hvx := ((walkOk_iff x).1 (closed_ok hx)).2
  have hxl := shape_len h
  have hs := shape_self hx
  obtain ⟨w, hw, j, hj, e | e⟩ := h
  · have h1 := shape_moved' (shape_way hs (v := wayBack (w : Int))) (k := l.length - j) (by omega)
    rw [e, wayList_undo (valid_moved hv j), moved_undo, ← e] at h1
    exact h1
  · have h1 := shape_moved' (shape_way hs (v := wayBack (w : Int))) (k := (backList l).length - j) (by rw [length_back]; omega)
    rw [e, wayList_undo (valid_moved (valid_back l) j), moved_undo, ← e] at h1
    have h2 := shape_back hvx h1
    rwa [backList_back hv] at h2
theorem first_same {l x : List UInt8} (hc : closed l = true) (h : shape l x) : firstOf x = firstOf l := by
  have hx := closed_shape hc h
  have hv := ((walkOk_iff l).1 (closed_ok hc)).2
  have hvx := ((walkOk_iff x).1 (closed_ok hx)).2
  have hb := shape_symm hc h
  refine le_antisymm' ?_ ?_
  · exact first_least (shape_trans hv h (first_shape hx))
  · exact first_least (shape_trans hvx hb (first_shape hc))

/-! ### simple walks -/
def ring (l : List UInt8) : Prop := ∀ i j, i < j → j < l.length → placeAt l i ≠ placeAt l j
def simple (l : List UInt8) : Bool := closed l && noTwice (placesTo l (l.length - 1))
theorem simple_iff {l : List UInt8} (hc : closed l = true) : simple l = true ↔ ring l := by
  have hl := closed_len hc
  unfold simple ring
  rw [hc, Bool.true_and, noTwice_iff]
  constructor
  · intro h i j hij hj e
    refine h i j hij (by rw [placesTo_length]; omega) ?_
    rw [placesTo_get? _ _ _ (by omega), placesTo_get? _ _ _ (by omega), e]
  · intro h i j hij hj e
    rw [placesTo_length] at hj
    rw [placesTo_get? _ _ _ (by omega), placesTo_get? _ _ _ (by omega)] at e
    exact h i j hij (by omega) (Option.some.inj e)
theorem simple_open {l : List UInt8} (hc : closed l = false) : simple l = false := by unfold simple; rw [hc, Bool.false_and]
theorem simple_closed {l : List UInt8} (h : simple l = true) : closed l = true := by
  unfold simple at h
  rw [Bool.and_eq_true] at h
  exact h.1
/-- The end of a closed walk is where it began: the same for the places from the first step on. -/
theorem ring_late {l : List UInt8} (hc : closed l = true) : ring l ↔ ∀ i j, 1 ≤ i → i < j → j ≤ l.length → placeAt l i ≠ placeAt l j := by
  have he : placeAt l l.length = placeAt l 0 := by rw [placeAt_all, closed_end hc, placeAt_zero]
  have hl := closed_len hc
  constructor
  · intro h i j hi hij hj
    rcases Nat.lt_or_ge j l.length with hlt | hge
    · exact h i j hij hlt
    · have : j = l.length := by omega
      subst this
      rw [he]
      exact fun e => h 0 i (by omega) hij e.symm
  · intro h i j hij hj
    rcases Nat.eq_zero_or_pos i with rfl | hi
    · rw [← he]
      exact fun e => h j l.length (by omega) hj (Nat.le_refl _) e.symm
    · exact h i j hi hij (by omega)
theorem placeAt_way {l : List UInt8} (way : Int) (h0 : 0 ≤ way) (h7 : way ≤ 7) (hv : valid l) (i : Nat) : placeAt (wayList way l) i = wayPlace way (placeAt l i) := by
  unfold placeAt
  have e : (wayList way l).take i = wayList way (l.take i) := by unfold wayList; rw [← List.map_take]
  rw [e, end_way way h0 h7 (valid_sub hv fun c hc => List.mem_of_mem_take hc)]
theorem ring_way {l : List UInt8} (way : Int) (h0 : 0 ≤ way) (h7 : way ≤ 7) (hv : valid l) (h : ring l) : ring (wayList way l) := by
  intro i j hij hj e
  rw [length_way] at hj
  rw [placeAt_way way h0 h7 hv, placeAt_way way h0 h7 hv] at e
  exact h i j hij hj (wayPlace_inj way e)
theorem ring_back {l : List UInt8} (hc : closed l = true) (h : ring l) : ring (backList l) := by
  have hv := ((walkOk_iff l).1 (closed_ok hc)).2
  rw [ring_late hc] at h
  intro i j hij hj e
  rw [length_back] at hj
  rw [placeAt_back l hv i, placeAt_back l hv j, Prod.mk.injEq] at e
  refine h (l.length - j) (l.length - i) (by omega) (by omega) (by omega) ?_
  ext <;> omega
/-- Where the moved walk is. -/
theorem placeAt_moved {l : List UInt8} (hc : closed l = true) {k i : Nat} (hk : k ≤ l.length) (hi : i ≤ l.length) :
    ∃ m, m ≤ l.length ∧ (m = k + i ∨ m + l.length = k + i) ∧ placeAt (moved l k) i = ((placeAt l m).1 - (placeAt l k).1, (placeAt l m).2 - (placeAt l k).2) := by
  have hl : (l.drop k).length = l.length - k := List.length_drop
  have hend := end_append (l.take k) (l.drop k)
  rw [List.take_append_drop, closed_end hc] at hend
  have hend1 := congrArg Prod.fst hend
  have hend2 := congrArg Prod.snd hend
  simp only at hend1 hend2
  by_cases h : k + i ≤ l.length
  · refine ⟨k + i, h, .inl rfl, ?_⟩
    rw [placeAt_drop]
    have e : placeAt (moved l k) i = placeAt (l.drop k) i := by
      unfold placeAt moved
      rw [List.take_append_of_le_length (by omega)]
    rw [e]
    ext <;> simp only <;> omega
  · refine ⟨k + i - l.length, by omega, .inr (by omega), ?_⟩
    have e : (moved l k).take i = l.drop k ++ l.take (k + i - l.length) := by
      unfold moved
      have e0 : i = (l.drop k).length + (k + i - l.length) := by omega
      conv => lhs; rw [e0]
      rw [List.take_length_add_append, List.take_take, Nat.min_eq_left (by omega)]
    unfold placeAt
    rw [e, end_append]
    ext <;> simp only <;> omega
theorem ring_moved {l : List UInt8} (hc : closed l = true) {k : Nat} (hk : k < l.length) (h : ring l) : ring (moved l k) := by
  have h2 := (ring_late hc).1 h
  intro i j hij hj e
  rw [length_moved] at hj
  obtain ⟨m, hm, hmk, em⟩ := placeAt_moved hc (k := k) (i := i) (by omega) (by omega)
  obtain ⟨q, hq, hqk, eq⟩ := placeAt_moved hc (k := k) (i := j) (by omega) (by omega)
  rw [em, eq, Prod.mk.injEq] at e
  have e' : placeAt l m = placeAt l q := by ext <;> omega
  rcases Nat.lt_or_ge m q with hmq | hmq
  · rcases Nat.eq_zero_or_pos m with hm0 | hm0
    · exact h m q hmq (by omega) e'
    · exact h2 m q hm0 hmq hq e'
  · rcases Nat.eq_zero_or_pos q with hq0 | hq0
    · exact h q m (by omega) (by omega) e'.symm
    · exact h2 q m hq0 (by omega) hm e'.symm
theorem simple_shape_of {l x : List UInt8} (hc : closed l = true) (h : shape l x) (hs : simple l = true) : simple x = true := by
  have hv := ((walkOk_iff l).1 (closed_ok hc)).2
  have hx := closed_shape hc h
  rw [simple_iff hc] at hs
  rw [simple_iff hx]
  obtain ⟨w, hw, j, hj, rfl | rfl⟩ := h
  · exact ring_way w (by omega) (by omega) (valid_moved hv j) (ring_moved hc hj hs)
  · exact ring_way w (by omega) (by omega) (valid_moved (valid_back l) j) (ring_moved (closed_back hc) (by rw [length_back]; exact hj) (ring_back hc hs))
theorem simple_shape {l x : List UInt8} (hc : closed l = true) (h : shape l x) : simple x = simple l := by
  rw [Bool.eq_iff_iff]
  exact ⟨simple_shape_of (closed_shape hc h) (shape_symm hc h), simple_shape_of hc h⟩
theorem closed_way_iff {l : List UInt8} (h : walkOk l = true) {way : Int} (h0 : 0 ≤ way) (h7 : way ≤ 7) : closed (wayList way l) = closed l := by
  have hv := ((walkOk_iff l).1 h).2
  have hb := wayBack_range h0 h7
  rw [Bool.eq_iff_iff]
  constructor
  · intro hc
    have := closed_way _ hb.1 hb.2 hc
    rwa [wayList_undo hv] at this
  · exact closed_way way h0 h7
theorem simple_way_iff {l : List UInt8} (h : walkOk l = true) {way : Int} (h0 : 0 ≤ way) (h7 : way ≤ 7) : simple (wayList way l) = simple l := by
  cases hc : closed l
  · rw [simple_open hc, simple_open (by rw [closed_way_iff h h0 h7, hc])]
  · exact simple_shape hc (shape_way (shape_self hc))

/-! ### areas -/
def areaFrom : Int × Int → List UInt8 → Int
  | _, [] => 0
  | p, c :: l => p.1 * north (dir c) + areaFrom (step p c) l
def areaOf (l : List UInt8) : Int := areaFrom (0, 0) l
/-- The other sum, of which the area is what is left to the corner. -/
def acrossFrom : Int × Int → List UInt8 → Int
  | _, [] => 0
  | p, c :: l => p.2 * east (dir c) + acrossFrom (step p c) l
theorem north_east (d : Int) : east d = 0 ∨ north d = 0 := by
  unfold east north
  repeat' split
  all_goals omega
theorem green : ∀ (l : List UInt8) (p : Int × Int), areaFrom p l + acrossFrom p l = (l.foldl step p).1 * (l.foldl step p).2 - p.1 * p.2
  | [], p => by simp [areaFrom, acrossFrom]
  | c :: l, p => by
    have ih := green l (step p c)
    have e : (step p c).1 * (step p c).2 = p.1 * p.2 + p.1 * north (dir c) + p.2 * east (dir c) := by
      show (p.1 + east (dir c)) * (p.2 + north (dir c)) = _
      rcases north_east (dir c) with h | h
      · rw [h, Int.add_zero, Int.mul_zero, Int.mul_add]
        omega
      · rw [h, Int.add_zero, Int.mul_zero, Int.add_mul, Int.mul_comm (east (dir c))]
        omega
    show p.1 * north (dir c) + areaFrom (step p c) l + (p.2 * east (dir c) + acrossFrom (step p c) l) = (l.foldl step (step p c)).1 * (l.foldl step (step p c)).2 - p.1 * p.2
    omega
theorem area_append : ∀ (l m : List UInt8) (p : Int × Int), areaFrom p (l ++ m) = areaFrom p l + areaFrom (l.foldl step p) m
  | [], m, p => by simp [areaFrom]
  | c :: l, m, p => by
    have ih := area_append l m (step p c)
    show p.1 * north (dir c) + areaFrom (step p c) (l ++ m) = p.1 * north (dir c) + areaFrom (step p c) l + areaFrom (l.foldl step (step p c)) m
    omega
/-- Begun farther to the east by d the area is more by d times how far to the north the walk leads. -/
theorem area_shift : ∀ (l : List UInt8) (p q : Int × Int), areaFrom (p.1 + q.1, p.2 + q.2) l = areaFrom p l + q.1 * ((l.foldl step p).2 - p.2)
  | [], p, q => by simp [areaFrom]
  | c :: l, p, q => by
    have ih := area_shift l (step p c) q
    have e : step (p.1 + q.1, p.2 + q.2) c = ((step p c).1 + q.1, (step p c).2 + q.2) := by
      unfold step
      ext <;> simp only <;> omega
    have e2 : (step p c).2 = p.2 + north (dir c) := rfl
    show (p.1 + q.1) * north (dir c) + areaFrom (step (p.1 + q.1, p.2 + q.2) c) l = p.1 * north (dir c) + areaFrom (step p c) l + q.1 * ((l.foldl step (step p c)).2 - p.2)
    rw [e, ih, Int.add_mul, e2]
    have e3 : q.1 * ((l.foldl step (step p c)).2 - (p.2 + north (dir c))) = q.1 * ((l.foldl step (step p c)).2 - p.2) - q.1 * north (dir c) := by
      rw [← Int.mul_sub]
      congr 1
      omega
    rw [e3]
    omega
theorem area_moved {l : List UInt8} (hc : closed l = true) (k : Nat) : areaOf (moved l k) = areaOf l := by
  have h1 := area_append (l.drop k) (l.take k) (0, 0)
  have h2 := area_append (l.take k) (l.drop k) (0, 0)
  rw [List.take_append_drop] at h2
  have hend := end_append (l.take k) (l.drop k)
  rw [List.take_append_drop, closed_end hc] at hend
  have hend1 := congrArg Prod.fst hend
  have hend2 := congrArg Prod.snd hend
  simp only at hend1 hend2
  have s1 := area_shift (l.take k) (0, 0) (endOf (l.drop k))
  have s2 := area_shift (l.drop k) (0, 0) (endOf (l.take k))
  simp only [Int.zero_add, Int.sub_zero] at s1 s2
  unfold areaOf moved
  rw [h1]
  have e1 : areaFrom (List.foldl step (0, 0) (l.drop k)) (l.take k) = areaFrom (endOf (l.drop k)) (l.take k) := rfl
  have e2 : areaFrom (List.foldl step (0, 0) (l.take k)) (l.drop k) = areaFrom (endOf (l.take k)) (l.drop k) := rfl
  have f1 : (List.foldl step (0, 0) (l.take k)).2 = (endOf (l.take k)).2 := rfl
  have f2 : (List.foldl step (0, 0) (l.drop k)).2 = (endOf (l.drop k)).2 := rfl
  rw [e2] at h2
  rw [e1]
  have p1 : areaFrom (endOf (l.drop k)) (l.take k) = areaFrom (0, 0) (l.take k) + (endOf (l.drop k)).1 * (endOf (l.take k)).2 := s1
  have p2 : areaFrom (endOf (l.take k)) (l.drop k) = areaFrom (0, 0) (l.drop k) + (endOf (l.take k)).1 * (endOf (l.drop k)).2 := s2
  have q : (endOf (l.drop k)).1 * (endOf (l.take k)).2 = (endOf (l.take k)).1 * (endOf (l.drop k)).2 := by
    have a1 : (endOf (l.drop k)).1 = -(endOf (l.take k)).1 := by omega
    have a2 : (endOf (l.drop k)).2 = -(endOf (l.take k)).2 := by omega
    rw [a1, a2, Int.neg_mul, Int.mul_neg]
  omega
theorem area_back : ∀ (l : List UInt8), valid l → areaFrom (endOf l) (backList l) = -areaOf l := by
  intro l
  suffices h : ∀ (l : List UInt8) (p : Int × Int), valid l → areaFrom (l.foldl step p) (backList l) = -areaFrom p l from fun hv => h l (0, 0) hv
  intro l
  induction l with
  | nil => intro p _; rfl
  | cons c l ih =>
    intro p hv
    have e : backList (c :: l) = backList l ++ [backLetter c] := by simp [backList]
    have hvl : valid l := fun d hd => hv d (by simp [hd])
    rw [e, area_append]
    have i := ih (step p c) hvl
    have hb : (backList l).foldl step (l.foldl step (step p c)) = step p c := by
      have h1 := end_back hvl
      suffices hh : ∀ (l : List UInt8) (p : Int × Int), valid l → (backList l).foldl step (l.foldl step p) = p from hh l _ hvl
      intro l
      induction l with
      | nil => intro p _; rfl
      | cons d l ih2 =>
        intro p hv2
        have e2 : backList (d :: l) = backList l ++ [backLetter d] := by simp [backList]
        rw [e2, List.foldl_append]
        show step ((backList l).foldl step (l.foldl step (step p d))) (backLetter d) = p
        rw [ih2 (step p d) (fun x hx => hv2 x (by simp [hx]))]
        have h3 := end_backLetter d (hv2 d (by simp))
        rw [end_one, end_one, Prod.mk.injEq] at h3
        unfold step
        ext <;> simp only <;> omega
    show areaFrom (l.foldl step (step p c)) (backList l) + areaFrom ((backList l).foldl step (l.foldl step (step p c))) [backLetter c] = -(p.1 * north (dir c) + areaFrom (step p c) l)
    rw [i, hb]
    have h3 := end_backLetter c (hv c (by simp))
    rw [end_one, end_one, Prod.mk.injEq] at h3
    show -areaFrom (step p c) l + ((step p c).1 * north (dir (backLetter c)) + 0) = -(p.1 * north (dir c) + areaFrom (step p c) l)
    have h4 : north (dir (backLetter c)) = -north (dir c) := h3.2
    have h5 : (step p c).1 = p.1 + east (dir c) := rfl
    rw [h4, h5, Int.mul_neg, Int.add_mul]
    rcases north_east (dir c) with h | h
    · rw [h, Int.zero_mul]
      omega
    · rw [h, Int.mul_zero, Int.mul_zero]
      omega
theorem area_way {l : List UInt8} {way : Int} (h0 : 0 ≤ way) (h7 : way ≤ 7) (hv : valid l) : ∀ p : Int × Int, areaFrom (wayPlace way p) (wayList way l) = areaFrom p l ∨ areaFrom (wayPlace way p) (wayList way l) = -areaFrom p l ∨ areaFrom (wayPlace way p) (wayList way l) = acrossFrom p l ∨ areaFrom (wayPlace way p) (wayList way l) = -acrossFrom p l := by
  suffices h : ∀ (l : List UInt8), valid l → ((way = 0 ∨ way = 2 → ∀ p : Int × Int, areaFrom (wayPlace way p) (wayList way l) = areaFrom p l) ∧ (way = 4 ∨ way = 6 → ∀ p : Int × Int, areaFrom (wayPlace way p) (wayList way l) = -areaFrom p l) ∧ (way = 5 ∨ way = 7 → ∀ p : Int × Int, areaFrom (wayPlace way p) (wayList way l) = acrossFrom p l) ∧ (way = 1 ∨ way = 3 → ∀ p : Int × Int, areaFrom (wayPlace way p) (wayList way l) = -acrossFrom p l)) by
    intro p
    obtain ⟨a, b, c, d⟩ := h l hv
    rcases (by omega : (way = 0 ∨ way = 2) ∨ (way = 4 ∨ way = 6) ∨ (way = 5 ∨ way = 7) ∨ (way = 1 ∨ way = 3)) with h | h | h | h
    · exact .inl (a h p)
    · exact .inr (.inl (b h p))
    · exact .inr (.inr (.inl (c h p)))
    · exact .inr (.inr (.inr (d h p)))
  intro l
  induction l with
  | nil =>
    intro _
    refine ⟨?_, ?_, ?_, ?_⟩
    all_goals
      intro _ p
      rfl
  | cons c l ih =>
    intro hv
    obtain ⟨i1, i2, i3, i4⟩ := ih (fun d hd => hv d (by simp [hd]))
    have hc := hv c (by simp)
    have hr := dir_range c
    have hs := fun p => step_way way h0 h7 p c hc
    have e : ∀ p : Int × Int, areaFrom (wayPlace way p) (wayList way (c :: l)) = (wayPlace way p).1 * north (wayDir way (dir c)) + areaFrom (wayPlace way (step p c)) (wayList way l) := by
      intro p
      show (wayPlace way p).1 * north (dir (wayLetter way c)) + areaFrom (step (wayPlace way p) (wayLetter way c)) (wayList way l) = _
      rw [hs p, dir_wayLetter]
    have ea : ∀ p : Int × Int, areaFrom p (c :: l) = p.1 * north (dir c) + areaFrom (step p c) l := fun p => rfl
    have ec : ∀ p : Int × Int, acrossFrom p (c :: l) = p.2 * east (dir c) + acrossFrom (step p c) l := fun p => rfl
    refine ⟨?_, ?_, ?_, ?_⟩
    · intro h p
      rw [e, i1 h, ea]
      congr 1
      rcases h with rfl | rfl <;> obtain hd | hd | hd | hd : dir c = 0 ∨ dir c = 1 ∨ dir c = 2 ∨ dir c = 3 := by omega
      all_goals
        rw [hd]
        simp [wayPlace, wayDir, north]
    · intro h p
      rw [e, i2 h, ea, Int.neg_add]
      congr 1
      rcases h with rfl | rfl <;> obtain hd | hd | hd | hd : dir c = 0 ∨ dir c = 1 ∨ dir c = 2 ∨ dir c = 3 := by omega
      all_goals
        rw [hd]
        simp [wayPlace, wayDir, north]
    · intro h p
      rw [e, i3 h, ec]
      congr 1
      rcases h with rfl | rfl <;> obtain hd | hd | hd | hd : dir c = 0 ∨ dir c = 1 ∨ dir c = 2 ∨ dir c = 3 := by omega
      all_goals
        rw [hd]
        simp [wayPlace, wayDir, north, east]
    · intro h p
      rw [e, i4 h, ec, Int.neg_add]
      congr 1
      rcases h with rfl | rfl <;> obtain hd | hd | hd | hd : dir c = 0 ∨ dir c = 1 ∨ dir c = 2 ∨ dir c = 3 := by omega
      all_goals
        rw [hd]
        simp [wayPlace, wayDir, north, east]
def size (x : Int) : Int := if x ≤ -x then -x else x
theorem size_neg (x : Int) : size (-x) = size x := by unfold size; repeat' split <;> omega
theorem area_wayList {l : List UInt8} {way : Int} (h0 : 0 ≤ way) (h7 : way ≤ 7) (hc : closed l = true) : size (areaOf (wayList way l)) = size (areaOf l) := by
  have hv := ((walkOk_iff l).1 (closed_ok hc)).2
  have hg := green l (0, 0)
  have he : l.foldl step (0, 0) = (0, 0) := closed_end hc
  rw [he] at hg
  have hg' : areaFrom (0, 0) l + acrossFrom (0, 0) l = 0 := hg
  have h := area_way h0 h7 hv (0, 0)
  rw [wayPlace_zero] at h
  unfold areaOf
  rcases h with h | h | h | h
  · rw [h]
  · rw [h, size_neg]
  · rw [h, show acrossFrom (0, 0) l = -areaFrom (0, 0) l from by omega, size_neg]
  · rw [h, show acrossFrom (0, 0) l = -areaFrom (0, 0) l from by omega, Int.neg_neg]
theorem area_backList {l : List UInt8} (hc : closed l = true) : areaOf (backList l) = -areaOf l := by
  have hv := ((walkOk_iff l).1 (closed_ok hc)).2
  have := area_back l hv
  rwa [closed_end hc] at this
theorem area_shape {l x : List UInt8} (hc : closed l = true) (h : shape l x) : size (areaOf x) = size (areaOf l) := by
  obtain ⟨w, hw, j, hj, rfl | rfl⟩ := h
  · rw [area_wayList (by omega) (by omega) (closed_moved j hc), area_moved hc]
  · rw [area_wayList (by omega) (by omega) (closed_moved j (closed_back hc)), area_moved (closed_back hc), area_backList hc, size_neg]

/-! ### ways that leave a walk as it is -/
end Tw
end Go.Proofs.YtccdfndnjjjgfaaGreatDoor
