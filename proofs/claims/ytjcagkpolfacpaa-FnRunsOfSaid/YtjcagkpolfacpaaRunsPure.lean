/-
  Plain mathematics of the runs of a row of numbers, and of woven bits of numbers below 16.
-/
namespace Go.Proofs.Ytjcagkpolfacpaa
namespace Rn

/-- How many runs an ascending row has. -/
def runsL : List Nat → Nat
  | [] => 0
  | [_] => 1
  | a :: b :: t => (if b = a + 1 then 0 else 1) + runsL (b :: t)
theorem runsL_yes (b : Nat) : ∀ (l : List Nat), l.getLast? = some b → runsL (l ++ [b + 1]) = runsL l
  | [], h => by simp at h
  | [c], h => by
    obtain rfl : c = b := by simpa using h
    simp [runsL]
  | c :: d :: t, h => by
    have ih := runsL_yes b (d :: t) (by rw [List.getLast?_cons_cons] at h; exact h)
    simp only [List.cons_append, runsL] at ih ⊢
    omega
theorem runsL_no (a : Nat) : ∀ (l : List Nat), (∀ b, l.getLast? = some b → a ≠ b + 1) → runsL (l ++ [a]) = runsL l + 1
  | [], _ => rfl
  | [c], h => by
    have := h c (by simp)
    simp [runsL, this]
  | c :: d :: t, h => by
    have ih := runsL_no a (d :: t) (fun b hb => h b (by rw [List.getLast?_cons_cons]; exact hb))
    simp only [List.cons_append, runsL] at ih ⊢
    omega
/-- How many numbers below n begin a run of those with p. -/
def starts (p : Nat → Bool) : Nat → Nat
  | 0 => 0
  | n + 1 => starts p n + if p n = true ∧ ¬ (0 < n ∧ p (n - 1) = true) then 1 else 0
theorem last_filter (p : Nat → Bool) (n : Nat) : 0 < n → (p (n - 1) = true ↔ ((List.range n).filter p).getLast? = some (n - 1)) := by
  intro hn
  obtain ⟨m, rfl⟩ : ∃ m, n = m + 1 := ⟨n - 1, by omega⟩
  rw [List.range_succ, List.filter_append]
  simp only [Nat.add_sub_cancel]
  cases h : p m
  · simp only [Bool.false_eq_true, false_iff]
    rw [show List.filter p [m] = [] by simp [h], List.append_nil]
    intro h9
    have h1 := List.mem_of_getLast? h9
    have := List.mem_range.1 (List.mem_filter.1 h1).1
    omega
  · rw [show List.filter p [m] = [m] by simp [h]]
    simp
theorem runs_starts (p : Nat → Bool) : ∀ n, runsL ((List.range n).filter p) = starts p n
  | 0 => rfl
  | n + 1 => by
    rw [List.range_succ, List.filter_append]
    unfold starts
    rw [← runs_starts p n]
    cases h : p n
    · rw [show List.filter p [n] = [] by simp [h]]; simp
    · rw [show List.filter p [n] = [n] by simp [h]]
      by_cases h0 : 0 < n
      · have h2 := last_filter p n h0
        by_cases h1 : p (n - 1) = true
        · have h3 := runsL_yes (n - 1) _ (h2.1 h1)
          rw [show n - 1 + 1 = n by omega] at h3
          rw [h3, if_neg (by simp [h1, h0])]; rfl
        · rw [runsL_no _ _ (fun b hb h9 => h1 (h2.2 (by rw [hb]; congr 1; omega))), if_pos ⟨rfl, fun h9 => h1 h9.2⟩]
      · obtain rfl : n = 0 := by omega
        rfl
theorem runsL_le : ∀ l : List Nat, runsL l ≤ l.length
  | [] => Nat.le_refl _
  | [_] => Nat.le_refl _
  | a :: b :: t => by
    have := runsL_le (b :: t)
    simp only [runsL, List.length_cons] at this ⊢
    split <;> omega
theorem runsL_pos : ∀ l : List Nat, l ≠ [] → 1 ≤ runsL l
  | [], h => absurd rfl h
  | [_], _ => Nat.le_refl _
  | a :: b :: t, _ => by
    have := runsL_pos (b :: t) (by simp)
    simp only [runsL]
    omega
/-- The ends of runs among the first k places. -/
def ends (l : List Nat) : Nat → Nat
  | 0 => 0
  | k + 1 => ends l k + if k + 1 < l.length ∧ l[k + 1]?.getD 0 = l[k]?.getD 0 + 1 then 0 else 1
theorem ends_cons (a b : Nat) (t : List Nat) : ∀ k, ends (a :: b :: t) (k + 1) = (if b = a + 1 then 0 else 1) + ends (b :: t) k
  | 0 => by simp [ends]
  | k + 1 => by
    rw [ends, ends_cons a b t k, ends]
    simp only [List.length_cons, List.getElem?_cons_succ, Nat.add_lt_add_iff_right]
    omega
theorem ends_all : ∀ l : List Nat, ends l l.length = runsL l
  | [] => rfl
  | [_] => rfl
  | a :: b :: t => by
    have ih := ends_all (b :: t)
    simp only [List.length_cons] at ih ⊢
    rw [ends_cons, ih, runsL]

/-! ### woven bits -/
def bit (x k : Nat) : Nat := x / 2 ^ k % 2
def woven (x y : Nat) : Nat := bit x 0 + 2 * bit y 0 + 4 * bit x 1 + 8 * bit y 1 + 16 * bit x 2 + 32 * bit y 2 + 64 * bit x 3 + 128 * bit y 3
def east (n : Nat) : Nat := bit n 0 + 2 * bit n 2 + 4 * bit n 4 + 8 * bit n 6
def north (n : Nat) : Nat := bit n 1 + 2 * bit n 3 + 4 * bit n 5 + 8 * bit n 7
theorem unwoven {n : Nat} (h : n < 256) : woven (east n) (north n) = n ∧ east n < 16 ∧ north n < 16 := by
  have h1 : (List.range 256).all (fun n => woven (east n) (north n) == n && decide (east n < 16) && decide (north n < 16)) = true := by decide +kernel
  have := List.all_eq_true.1 h1 n (List.mem_range.2 h)
  simpa [and_assoc] using this
theorem woven_back {x y : Nat} (hx : x < 16) (hy : y < 16) : east (woven x y) = x ∧ north (woven x y) = y ∧ woven x y < 256 := by
  have h1 : (List.range 16).all (fun x => (List.range 16).all fun y => east (woven x y) == x && north (woven x y) == y && decide (woven x y < 256)) = true := by decide +kernel
  have := List.all_eq_true.1 (List.all_eq_true.1 h1 x (List.mem_range.2 hx)) y (List.mem_range.2 hy)
  simpa [and_assoc] using this
theorem woven_lt {h x y : Nat} (hh : h ≤ 4) (hx : x < 2 ^ h) (hy : y < 2 ^ h) : woven x y < 4 ^ h := by
  have h1 : (List.range 5).all (fun h => (List.range (2 ^ h)).all (fun x => (List.range (2 ^ h)).all fun y => decide (woven x y < 4 ^ h))) = true := by decide +kernel
  have := List.all_eq_true.1 (List.all_eq_true.1 (List.all_eq_true.1 h1 h (List.mem_range.2 (by omega))) x (List.mem_range.2 hx)) y (List.mem_range.2 hy)
  simpa using this
theorem pow_le {h : Nat} (hh : h ≤ 4) : 2 ^ h ≤ 16 ∧ 4 ^ h ≤ 256 := by
  obtain rfl | rfl | rfl | rfl | rfl : h = 0 ∨ h = 1 ∨ h = 2 ∨ h = 3 ∨ h = 4 := by omega
  all_goals decide

/-- The cells of one column, and of columns. -/
def column (x low : Nat) (n : Nat) : List Nat := (List.range n).map fun j => woven x (low + j)
def columns (left low m n : Nat) : List Nat := (List.range m).flatMap fun i => column (left + i) low n
def inBlock (left low right high n : Nat) : Bool := decide (left ≤ east n) && decide (east n ≤ right) && decide (low ≤ north n) && decide (north n ≤ high)
theorem columns_succ (left low m n : Nat) : columns left low (m + 1) n = columns left low m n ++ column (left + m) low n := by
  unfold columns
  rw [List.range_succ, List.flatMap_append]
  simp
theorem column_succ (x low n : Nat) : column x low (n + 1) = column x low n ++ [woven x (low + n)] := by
  unfold column
  rw [List.range_succ, List.map_append]
  rfl
theorem column_length (x low n : Nat) : (column x low n).length = n := by simp [column]
theorem columns_length (left low n : Nat) : ∀ m, (columns left low m n).length = m * n
  | 0 => by simp [columns]
  | m + 1 => by rw [columns_succ, List.length_append, columns_length left low n m, column_length, Nat.add_mul]; omega
theorem mem_columns {left low m n v : Nat} : v ∈ columns left low m n ↔ ∃ i j, i < m ∧ j < n ∧ v = woven (left + i) (low + j) := by
  unfold columns column
  simp only [List.mem_flatMap, List.mem_map, List.mem_range]
  constructor
  · rintro ⟨i, hi, j, hj, rfl⟩; exact ⟨i, j, hi, hj, rfl⟩
  · rintro ⟨i, j, hi, hj, rfl⟩; exact ⟨i, hi, j, hj, rfl⟩
theorem columns_nodup {left low m n : Nat} (hm : left + m ≤ 16) (hn : low + n ≤ 16) : (columns left low m n).Nodup := by
  unfold columns
  rw [List.nodup_iff_pairwise_ne, List.pairwise_flatMap]
  constructor
  · intro i hi
    rw [List.mem_range] at hi
    unfold column
    rw [List.pairwise_map]
    refine List.Pairwise.imp_of_mem ?_ (List.nodup_range (n := n))
    intro a b ha hb hab h9
    rw [List.mem_range] at ha hb
    have h1 := (woven_back (x := left + i) (y := low + a) (by omega) (by omega)).2.1
    have h2 := (woven_back (x := left + i) (y := low + b) (by omega) (by omega)).2.1
    rw [h9, h2] at h1
    omega
  · refine List.Pairwise.imp_of_mem ?_ (List.nodup_range (n := m))
    intro a b ha hb hab x hx y hy h9
    rw [List.mem_range] at ha hb
    unfold column at hx hy
    simp only [List.mem_map, List.mem_range] at hx hy
    obtain ⟨i, hi, rfl⟩ := hx
    obtain ⟨j, hj, rfl⟩ := hy
    have h1 := (woven_back (x := left + a) (y := low + i) (by omega) (by omega)).1
    have h2 := (woven_back (x := left + b) (y := low + j) (by omega) (by omega)).1
    rw [h9, h2] at h1
    omega
theorem asc_unique : ∀ {a b : List Nat}, a.Pairwise (· < ·) → b.Pairwise (· < ·) → (∀ x, x ∈ a ↔ x ∈ b) → a = b
  | [], [], _, _, _ => rfl
  | [], y :: b, _, _, h => by have := (h y).2 (by simp); simp at this
  | x :: a, [], _, _, h => by have := (h x).1 (by simp); simp at this
  | x :: a, y :: b, ha, hb, h => by
    have ha' := List.pairwise_cons.1 ha
    have hb' := List.pairwise_cons.1 hb
    have hxy : x = y := by
      rcases List.mem_cons.1 ((h x).1 (by simp)) with h1 | h1
      · exact h1
      · rcases List.mem_cons.1 ((h y).2 (by simp)) with h2 | h2
        · exact h2.symm
        · have h3 := ha'.1 y h2
          have h4 := hb'.1 x h1
          omega
    subst hxy
    rw [asc_unique ha'.2 hb'.2 (fun z => ?_)]
    have hz := h z
    simp only [List.mem_cons] at hz
    constructor
    · intro hza
      have h5 := ha'.1 z hza
      rcases hz.1 (.inr hza) with h1 | h1
      · omega
      · exact h1
    · intro hzb
      have h5 := hb'.1 z hzb
      rcases hz.2 (.inr hzb) with h1 | h1
      · omega
      · exact h1
theorem range_asc (n : Nat) : (List.range n).Pairwise (· < ·) := List.pairwise_lt_range
/-- The sorted numbers of a block are those of the square that lie in it. -/
theorem sorted_columns {h left low right high : Nat} (hh : h ≤ 4) (h1 : left ≤ right) (h2 : low ≤ high) (h3 : right < 2 ^ h) (h4 : high < 2 ^ h) (s : List Nat)
    (hp : s.Perm (columns left low (right + 1 - left) (high + 1 - low))) (hs : s.Pairwise (· ≤ ·)) : s = (List.range (4 ^ h)).filter (inBlock left low right high) := by
  have hb := pow_le hh
  have hnd : s.Nodup := hp.symm.nodup (columns_nodup (by omega) (by omega))
  refine asc_unique ?_ ((range_asc _).filter _) (fun x => ?_)
  · have := hs.and hnd
    exact this.imp fun h9 => Nat.lt_of_le_of_ne h9.1 h9.2
  · rw [hp.mem_iff, mem_columns, List.mem_filter, List.mem_range]
    constructor
    · rintro ⟨i, j, hi, hj, rfl⟩
      have hw := woven_back (x := left + i) (y := low + j) (by omega) (by omega)
      refine ⟨woven_lt hh (by omega) (by omega), ?_⟩
      unfold inBlock
      rw [hw.1, hw.2.1]
      simp
      omega
    · rintro ⟨hx, hin⟩
      have hu := unwoven (n := x) (by omega)
      unfold inBlock at hin
      simp only [Bool.and_eq_true, decide_eq_true_eq] at hin
      refine ⟨east x - left, north x - low, by omega, by omega, ?_⟩
      rw [show left + (east x - left) = east x by omega, show low + (north x - low) = north x by omega, hu.1]
/-- How many runs a block has. -/
def blockRuns (h left low right high : Nat) : Nat := starts (inBlock left low right high) (4 ^ h)

/-! ### what the law asks -/
theorem columns_ne {left low m n : Nat} (hm : 0 < m) (hn : 0 < n) : columns left low m n ≠ [] := by
  intro h
  have h1 := columns_length left low n m
  rw [h] at h1
  have := Nat.mul_pos hm hn
  simp at h1
  omega
theorem sorted_of (l : List Nat) : (l.mergeSort fun x y => decide (x ≤ y)).Perm l ∧ (l.mergeSort fun x y => decide (x ≤ y)).Pairwise (· ≤ ·) := by
  refine ⟨List.mergeSort_perm l _, ?_⟩
  have := List.pairwise_mergeSort (le := fun (x y : Nat) => decide (x ≤ y)) (by simp; omega) (by simp; omega) l
  exact this.imp (by simp)
theorem block_runs {h left low right high : Nat} (hh : h ≤ 4) (h1 : left ≤ right) (h2 : low ≤ high) (h3 : right < 2 ^ h) (h4 : high < 2 ^ h) (s : List Nat)
    (hp : s.Perm (columns left low (right + 1 - left) (high + 1 - low))) (hs : s.Pairwise (· ≤ ·)) : runsL s = blockRuns h left low right high := by
  rw [sorted_columns hh h1 h2 h3 h4 s hp hs]
  exact runs_starts _ _
theorem block_bounds {h left low right high : Nat} (hh : h ≤ 4) (h1 : left ≤ right) (h2 : low ≤ high) (h3 : right < 2 ^ h) (h4 : high < 2 ^ h) :
    1 ≤ blockRuns h left low right high ∧ blockRuns h left low right high ≤ (right + 1 - left) * (high + 1 - low) := by
  obtain ⟨hp, hs⟩ := sorted_of (columns left low (right + 1 - left) (high + 1 - low))
  rw [← block_runs hh h1 h2 h3 h4 _ hp hs]
  refine ⟨runsL_pos _ ?_, ?_⟩
  · intro h9
    rw [h9] at hp
    exact columns_ne (left := left) (low := low) (m := right + 1 - left) (n := high + 1 - low) (by omega) (by omega) hp.symm.eq_nil
  · have := runsL_le ((columns left low (right + 1 - left) (high + 1 - low)).mergeSort fun x y => decide (x ≤ y))
    rw [hp.length_eq, columns_length] at this
    exact this
theorem whole_square {h : Nat} (hh : h ≤ 4) : blockRuns h 0 0 (2 ^ h - 1) (2 ^ h - 1) = 1 := by
  have h1 : (List.range 5).all (fun h => blockRuns h 0 0 (2 ^ h - 1) (2 ^ h - 1) == 1) = true := by decide +kernel
  exact beq_iff_eq.1 (List.all_eq_true.1 h1 h (List.mem_range.2 (by omega)))
/-- One and how many even numbers come in the next k. -/
def rowRuns (left : Nat) : Nat → Nat
  | 0 => 1
  | k + 1 => rowRuns left k + if (left + k + 1) % 2 = 0 then 1 else 0
theorem woven_next {x y : Nat} (hx : x + 1 < 16) (hy : y < 16) : woven x y < woven (x + 1) y ∧ (woven (x + 1) y = woven x y + 1 ↔ (x + 1) % 2 ≠ 0) := by
  have h1 : (List.range 15).all (fun x => (List.range 16).all fun y => decide (woven x y < woven (x + 1) y) && (decide (woven (x + 1) y = woven x y + 1) == decide ((x + 1) % 2 ≠ 0))) = true := by decide +kernel
  have := List.all_eq_true.1 (List.all_eq_true.1 h1 x (List.mem_range.2 (by omega))) y (List.mem_range.2 hy)
  simp only [Bool.and_eq_true, decide_eq_true_eq, beq_iff_eq, decide_eq_decide] at this
  exact this
theorem columns_one (left low m : Nat) : columns left low (m + 1) 1 = columns left low m 1 ++ [woven (left + m) low] := by
  rw [columns_succ]; rfl
theorem columns_last (left low : Nat) : ∀ m, (columns left low (m + 1) 1).getLast? = some (woven (left + m) low) := fun m => by
  rw [columns_one]; simp
theorem columns_asc {left low : Nat} (hy : low < 16) : ∀ m, left + m ≤ 16 → (columns left low m 1).Pairwise (· ≤ ·) ∧ ∀ v ∈ columns left low m 1, ∀ k, m ≤ k → left + k < 16 → v < woven (left + k) low
  | 0, _ => ⟨by simp [columns], by simp [columns]⟩
  | m + 1, hm => by
    obtain ⟨ih1, ih2⟩ := columns_asc (left := left) hy m (by omega)
    rw [columns_one]
    have hmono : ∀ k, m + 1 ≤ k → left + k < 16 → woven (left + m) low < woven (left + k) low := by
      intro k
      induction k with
      | zero => intro h; omega
      | succ k ih =>
        intro h9 h8
        have h7 := (woven_next (x := left + k) (y := low) (by omega) hy).1
        rcases Nat.lt_or_ge m k with h6 | h6
        · have := ih (by omega) (by omega)
          show _ < woven (left + k + 1) low
          omega
        · obtain rfl : k = m := by omega
          exact h7
    refine ⟨List.pairwise_append.2 ⟨ih1, by simp, fun a ha b hb => ?_⟩, fun v hv k hk hk2 => ?_⟩
    · rw [List.mem_singleton] at hb
      rw [hb]
      exact Nat.le_of_lt (ih2 a ha m (Nat.le_refl _) (by omega))
    · rcases List.mem_append.1 hv with h9 | h9
      · exact ih2 v h9 k (by omega) hk2
      · rw [List.mem_singleton] at h9
        rw [h9]
        exact hmono k hk hk2
theorem columns_runs {left low : Nat} (hy : low < 16) : ∀ m, left + m < 16 → runsL (columns left low (m + 1) 1) = rowRuns left m
  | 0, _ => rfl
  | m + 1, hm => by
    have ih := columns_runs (left := left) hy m (by omega)
    have hn := (woven_next (x := left + m) (y := low) (by omega) hy).2
    rw [columns_one, rowRuns]
    by_cases h : (left + m + 1) % 2 = 0
    · rw [if_pos h, runsL_no, ih]
      intro b hb h9
      rw [columns_last] at hb
      rw [← Option.some.inj hb] at h9
      exact absurd h (hn.1 h9)
    · have h1 := runsL_yes _ _ (columns_last left low m)
      rw [if_neg h, Nat.add_zero, ← ih, ← h1, ← hn.2 h]
      rfl
theorem row_runs {h left low right : Nat} (hh : h ≤ 4) (h1 : left ≤ right) (h3 : right < 2 ^ h) (h4 : low < 2 ^ h) : blockRuns h left low right low = rowRuns left (right - left) := by
  have hb := pow_le hh
  have h5 : low + 1 - low = 1 := by omega
  rw [← block_runs hh h1 (Nat.le_refl low) h3 h4 (columns left low (right + 1 - left) 1) (by rw [h5]) (columns_asc (by omega) _ (by omega)).1, show right + 1 - left = (right - left) + 1 by omega, columns_runs (by omega) _ (by omega)]
end Rn
end Go.Proofs.Ytjcagkpolfacpaa
