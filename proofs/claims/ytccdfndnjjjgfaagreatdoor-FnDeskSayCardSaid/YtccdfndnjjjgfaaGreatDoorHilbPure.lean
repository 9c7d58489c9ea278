/-
  Plain law of the Hilbert curve: the cell for a number by quarters from the outermost one (program) and by recursion (reference) is the same; the number of a cell likewise. No program in sight.
-/
import Derived.WalkKit
namespace Go.Proofs.YtccdfndnjjjgfaaGreatDoor
namespace Hb

/-- Where a quarter lies: to the east, to the north. -/
def qe (q : Nat) : Nat := if 2 ≤ q then 1 else 0
def qn (q : Nat) : Nat := if q = 1 ∨ q = 2 then 1 else 0
def putE (t e n : Nat) : Nat := if 2 ≤ t then 1 - (if t % 2 = 1 then n else e) else (if t % 2 = 1 then n else e)
def putN (t e n : Nat) : Nat := if 2 ≤ t then 1 - (if t % 2 = 1 then e else n) else (if t % 2 = 1 then e else n)
/-- The turn within a quarter. -/
def into (t q : Nat) : Nat := if q = 0 then (if t % 2 = 1 then t - 1 else t + 1) else if q = 3 then 3 - t else t
/-- The quarter that lies somewhere. -/
def quart (e n : Nat) : Nat := if e = 0 then n else 3 - n
theorem into_lt {t q : Nat} (h : t < 4) : into t q < 4 := by
  unfold into
  repeat' split
  all_goals omega
theorem putE_le {t e n : Nat} (he : e ≤ 1) (hn : n ≤ 1) : putE t e n ≤ 1 := by
  unfold putE
  repeat' split
  all_goals omega
theorem putN_le {t e n : Nat} (he : e ≤ 1) (hn : n ≤ 1) : putN t e n ≤ 1 := by
  unfold putN
  repeat' split
  all_goals omega
theorem qe_le (q : Nat) : qe q ≤ 1 := by unfold qe; split <;> omega
theorem qn_le (q : Nat) : qn q ≤ 1 := by unfold qn; split <;> omega
theorem quart_lt {e n : Nat} (hn : n ≤ 1) : quart e n < 4 := by unfold quart; split <;> omega

/-- The reference's cell. -/
def cell : Nat → Nat → Nat × Nat
  | 0, _ => (0, 0)
  | h + 1, n =>
    let c := cell h (n % 4 ^ h)
    let q := n / 4 ^ h
    if q = 0 then (c.2, c.1) else if q = 1 then (c.1, c.2 + 2 ^ h) else if q = 2 then (c.1 + 2 ^ h, c.2 + 2 ^ h) else (2 * 2 ^ h - 1 - c.2, 2 ^ h - 1 - c.1)
theorem cell_step (h n q r x y s : Nat) (hq : n / 4 ^ h = q) (hr : n % 4 ^ h = r) (hc : cell h r = (x, y)) (hs : 2 ^ h = s) : cell (h + 1) n = if q = 0 then (y, x) else if q = 1 then (x, y + s) else if q = 2 then (x + s, y + s) else (2 * s - 1 - y, s - 1 - x) := by
  subst hq hr hs
  show (let c := cell h (n % 4 ^ h); let q := n / 4 ^ h; if q = 0 then (c.2, c.1) else if q = 1 then (c.1, c.2 + 2 ^ h) else if q = 2 then (c.1 + 2 ^ h, c.2 + 2 ^ h) else (2 * 2 ^ h - 1 - c.2, 2 ^ h - 1 - c.1)) = _
  rw [hc]
/-- A cell in a square of a side, turned. -/
def turned (t s : Nat) (c : Nat × Nat) : Nat × Nat := (if 2 ≤ t then s - 1 - (if t % 2 = 1 then c.2 else c.1) else (if t % 2 = 1 then c.2 else c.1), if 2 ≤ t then s - 1 - (if t % 2 = 1 then c.1 else c.2) else (if t % 2 = 1 then c.1 else c.2))
/-- The program's cell, from a level on. -/
def from_ : Nat → Nat → Nat → Nat × Nat
  | 0, _, _ => (0, 0)
  | l + 1, t, n =>
    let q := n / 4 ^ l % 4
    let c := from_ l (into t q) n
    (putE t (qe q) (qn q) * 2 ^ l + c.1, putN t (qe q) (qn q) * 2 ^ l + c.2)

theorem four_pos (h : Nat) : 0 < 4 ^ h := Nat.pow_pos (by decide)
theorem two_pos (h : Nat) : 0 < 2 ^ h := Nat.pow_pos (by decide)
theorem cell_lt : ∀ (h n : Nat), (cell h n).1 < 2 ^ h ∧ (cell h n).2 < 2 ^ h
  | 0, _ => ⟨by simp [cell], by simp [cell]⟩
  | h + 1, n => by
    have ih := cell_lt h (n % 4 ^ h)
    have h2 := two_pos h
    obtain ⟨s, hs⟩ : ∃ s, 2 ^ h = s := ⟨_, rfl⟩
    have e : 2 ^ (h + 1) = 2 * s := by rw [Nat.pow_succ, hs]; omega
    rw [hs] at ih h2
    rw [e]
    simp only [cell, hs]
    split
    · exact ⟨by show _ < _; omega, by show _ < _; omega⟩
    · split
      · exact ⟨by show _ < _; omega, by show _ < _; omega⟩
      · split
        · exact ⟨by show _ < _; omega, by show _ < _; omega⟩
        · exact ⟨by show _ < _; omega, by show _ < _; omega⟩
theorem from_cell : ∀ (h t n : Nat), t < 4 → from_ h t n = turned t (2 ^ h) (cell h (n % 4 ^ h))
  | 0, t, n, _ => by
    simp [from_, turned, cell]
  | h + 1, t, n, ht => by
    have hq : n % 4 ^ (h + 1) / 4 ^ h = n / 4 ^ h % 4 := by
      rw [Nat.pow_succ, Nat.mod_mul_right_div_self]
    have hm : n % 4 ^ (h + 1) % 4 ^ h = n % 4 ^ h := by
      rw [Nat.pow_succ, Nat.mod_mul_right_mod]
    have hlt := Nat.mod_lt (n / 4 ^ h) (show 4 > 0 by decide)
    have ih := fun t' ht' => from_cell h t' n ht'
    have hc := cell_lt h (n % 4 ^ h)
    have h2 := two_pos h
    obtain ⟨s, hs⟩ : ∃ s, 2 ^ h = s := ⟨_, rfl⟩
    have e : 2 ^ (h + 1) = 2 * s := by rw [Nat.pow_succ, hs]; omega
    rw [e]
    simp only [from_, cell, hq, hm, hs]
    obtain ⟨q, hqq⟩ : ∃ q, n / 4 ^ h % 4 = q := ⟨_, rfl⟩
    rw [hqq] at hlt ⊢
    rw [ih (into t q) (into_lt ht), hs]
    obtain ⟨⟨x, y⟩, hxy⟩ : ∃ c, cell h (n % 4 ^ h) = c := ⟨_, rfl⟩
    rw [hxy] at hc ⊢
    rw [hs] at hc h2
    have hc1 : x < s := hc.1
    have hc2 : y < s := hc.2
    clear ih hc hxy hqq hq hm
    obtain rfl | rfl | rfl | rfl : t = 0 ∨ t = 1 ∨ t = 2 ∨ t = 3 := by omega
    all_goals
      obtain rfl | rfl | rfl | rfl : q = 0 ∨ q = 1 ∨ q = 2 ∨ q = 3 := by omega
      all_goals
        simp [turned, into, putE, putN, qe, qn]
        try omega

/-- The reference's number. -/
def num : Nat → Nat → Nat → Nat
  | 0, _, _ => 0
  | h + 1, x, y =>
    if x < 2 ^ h then (if y < 2 ^ h then num h y x else 4 ^ h + num h x (y - 2 ^ h))
    else if 2 ^ h ≤ y then 2 * 4 ^ h + num h (x - 2 ^ h) (y - 2 ^ h) else 3 * 4 ^ h + num h (2 ^ h - 1 - y) (2 * 2 ^ h - 1 - x)
/-- The program's number, from a level on. -/
def numFrom : Nat → Nat → Nat → Nat → Nat
  | 0, _, _, _ => 0
  | l + 1, t, x, y =>
    let q := quart (putE t (x / 2 ^ l % 2) (y / 2 ^ l % 2)) (putN t (x / 2 ^ l % 2) (y / 2 ^ l % 2))
    q * 4 ^ l + numFrom l (into t q) x y
theorem num_lt : ∀ (h x y : Nat), num h x y < 4 ^ h
  | 0, _, _ => by simp [num]
  | h + 1, x, y => by
    have h1 := num_lt h y x
    have h2 := num_lt h x (y - 2 ^ h)
    have h3 := num_lt h (x - 2 ^ h) (y - 2 ^ h)
    have h4 := num_lt h (2 ^ h - 1 - y) (2 * 2 ^ h - 1 - x)
    rw [Nat.pow_succ]
    simp only [num]
    split
    · split <;> omega
    · split <;> omega
theorem half_bit {x s : Nat} (hs : 0 < s) (hx : x < 2 * s) : (x / s % 2 = 0 ∧ x < s ∧ x % s = x) ∨ (x / s % 2 = 1 ∧ s ≤ x ∧ x % s = x - s) := by
  rcases Nat.lt_or_ge x s with h | h
  · exact .inl ⟨by rw [Nat.div_eq_of_lt h], h, Nat.mod_eq_of_lt h⟩
  · refine .inr ⟨?_, h, ?_⟩
    · rw [show x = (x - s) + s from by omega, Nat.add_div_right _ hs, Nat.div_eq_of_lt (by omega)]
    · rw [show x = (x - s) + s from by omega, Nat.add_mod_right, Nat.mod_eq_of_lt (by omega)]
      omega
theorem numFrom_num : ∀ (h t x y : Nat), t < 4 → numFrom h t x y = num h (turned t (2 ^ h) (x % 2 ^ h, y % 2 ^ h)).1 (turned t (2 ^ h) (x % 2 ^ h, y % 2 ^ h)).2
  | 0, t, x, y, _ => by simp [numFrom, num]
  | h + 1, t, x, y, ht => by
    have ih := fun t' ht' => numFrom_num h t' x y ht'
    have h2 := two_pos h
    have bx : x / 2 ^ h % 2 = x % 2 ^ (h + 1) / 2 ^ h := by rw [Nat.pow_succ, Nat.mod_mul_right_div_self]
    have by_ : y / 2 ^ h % 2 = y % 2 ^ (h + 1) / 2 ^ h := by rw [Nat.pow_succ, Nat.mod_mul_right_div_self]
    have mx : x % 2 ^ h = x % 2 ^ (h + 1) % 2 ^ h := by rw [Nat.pow_succ, Nat.mod_mul_right_mod]
    have my : y % 2 ^ h = y % 2 ^ (h + 1) % 2 ^ h := by rw [Nat.pow_succ, Nat.mod_mul_right_mod]
    have lx : x % 2 ^ (h + 1) < 2 ^ (h + 1) := Nat.mod_lt _ (two_pos _)
    have ly : y % 2 ^ (h + 1) < 2 ^ (h + 1) := Nat.mod_lt _ (two_pos _)
    simp only [numFrom]
    rw [ih _ (into_lt ht), bx, by_, mx, my]
    obtain ⟨X, hX⟩ : ∃ X, x % 2 ^ (h + 1) = X := ⟨_, rfl⟩
    obtain ⟨Y, hY⟩ : ∃ Y, y % 2 ^ (h + 1) = Y := ⟨_, rfl⟩
    rw [hX] at lx ⊢
    rw [hY] at ly ⊢
    clear ih bx by_ mx my hX hY
    simp only [num]
    obtain ⟨s, hs⟩ : ∃ s, 2 ^ h = s := ⟨_, rfl⟩
    have e : 2 ^ (h + 1) = 2 * s := by rw [Nat.pow_succ, hs]; omega
    rw [e] at lx ly ⊢
    simp only [hs]
    rw [hs] at h2
    have dX : X / s % 2 = X / s := Nat.mod_eq_of_lt (Nat.div_lt_of_lt_mul (by omega))
    have dY : Y / s % 2 = Y / s := Nat.mod_eq_of_lt (Nat.div_lt_of_lt_mul (by omega))
    have cx := half_bit h2 lx
    have cy := half_bit h2 ly
    rw [dX] at cx
    rw [dY] at cy
    clear dX dY
    rcases cx with ⟨a1, a2, a3⟩ | ⟨a1, a2, a3⟩ <;> rcases cy with ⟨b1, b2, b3⟩ | ⟨b1, b2, b3⟩
    all_goals
      rw [a1, a3, b1, b3]
      obtain rfl | rfl | rfl | rfl : t = 0 ∨ t = 1 ∨ t = 2 ∨ t = 3 := by omega
      all_goals
        simp [turned, into, putE, putN, quart]
        try
          repeat' split
          all_goals
            first
              | (exfalso; omega)
              | rfl
              | (congr 1 <;> omega)
              | (congr 2 <;> omega)
end Hb

end Go.Proofs.YtccdfndnjjjgfaaGreatDoor
