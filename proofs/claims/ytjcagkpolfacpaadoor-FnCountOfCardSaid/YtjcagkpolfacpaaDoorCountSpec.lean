/-
  Contracts of the reference's CountOf.
-/
import Derived.Test.YtjcagkpolfacpaaDoorCountPure
import Derived.Test.YtjcagkpolfacpaaDoorAvoids
import Derived.Test.YtjcagkpolfacpaaDoorCountImpl
namespace Go.Proofs.YtjcagkpolfacpaaDoor
open Go.RowKit

namespace Tw
/-- In which order the reference counts. -/
def turn4 : List UInt8 := [101, 110, 119, 115]
def cntS (l : List UInt8) : Nat → Nat
  | 0 => 1
  | n + 1 => (turn4.map fun c => if avoids (l ++ [c]) = true then cntS (l ++ [c]) n else 0).sum
def cntTo (l : List UInt8) (n k : Nat) : Nat := ((turn4.take k).map fun c => if avoids (l ++ [c]) = true then cntS (l ++ [c]) n else 0).sum
theorem cntTo_all (l : List UInt8) (n : Nat) : cntTo l n 4 = cntS l (n + 1) := rfl
theorem cntTo_succ {l : List UInt8} {n k : Nat} {c : UInt8} (hc : turn4[k]? = some c) : cntTo l n (k + 1) = cntTo l n k + if avoids (l ++ [c]) = true then cntS (l ++ [c]) n else 0 := by
  unfold cntTo
  rw [List.take_add_one, hc, List.map_append, List.sum_append]
  simp
theorem cntS_le : ∀ (n : Nat) (l : List UInt8), cntS l n ≤ 4 ^ n
  | 0, _ => Nat.le_refl _
  | n + 1, l => by
    have h : ∀ c : UInt8, (if avoids (l ++ [c]) = true then cntS (l ++ [c]) n else 0) ≤ 4 ^ n := fun c => by
      split
      · exact cntS_le n _
      · exact Nat.zero_le _
    have h1 := h 101
    have h2 := h 110
    have h3 := h 119
    have h4 := h 115
    unfold cntS turn4
    simp only [List.map_cons, List.map_nil, List.sum_cons, List.sum_nil]
    rw [Nat.pow_succ]
    omega
theorem cntTo_le (n : Nat) (l : List UInt8) (k : Nat) (hk : k ≤ 4) : cntTo l n k ≤ 4 * 4 ^ n := by
  have h : ∀ c : UInt8, (if avoids (l ++ [c]) = true then cntS (l ++ [c]) n else 0) ≤ 4 ^ n := fun c => by
    split
    · exact cntS_le n _
    · exact Nat.zero_le _
  have h1 := h 101
  have h2 := h 110
  have h3 := h 119
  have h4 := h 115
  obtain rfl | rfl | rfl | rfl | rfl : k = 0 ∨ k = 1 ∨ k = 2 ∨ k = 3 ∨ k = 4 := by omega
  all_goals
    simp only [cntTo, turn4, List.take_zero, List.take_succ_cons, List.map_cons, List.map_nil, List.sum_cons, List.sum_nil]
    omega
theorem cntS_walks : ∀ (n : Nat) (l : List UInt8), cntS l n = (onWalks l n).length
  | 0, _ => rfl
  | n + 1, l => by
    have ih := fun c : UInt8 => cntS_walks n (l ++ [c])
    unfold cntS onWalks turn4 order
    rw [length_flatMap']
    simp only [List.map_cons, List.map_nil, List.sum_cons, List.sum_nil, ih]
    have h : ∀ c : UInt8, (if avoids (l ++ [c]) = true then onWalks (l ++ [c]) n else []).length = if avoids (l ++ [c]) = true then (onWalks (l ++ [c]) n).length else 0 := fun c => by split <;> rfl
    simp only [h]
    omega
end Tw

set_option maxRecDepth 100000 in
set_option maxHeartbeats 3200000 in
theorem l11Count_any : ∀ (n : Nat) (s : ByteArray) (w : World), n ≤ 7 → s.size + n ≤ 100 →
    Calls Tryd.prog 26 #[.string s, .int .i64 (n : Int)] w fun e w' => e = .returned (.int .i64 (Tw.cntS s.data.toList n : Int)) ∧ Below w.heap.size w w'
  | 0, s, w, _, _ => by
    go_enter Tryd.func26, Tryd.ntmps26
    go_wp2_with fail
    go_ret
    exact ⟨rfl, Below.refl _ _⟩
  | n + 1, s, w, hn, hs => by
    have ih := fun (c : UInt8) (W : World) => l11Count_any n (s ++ (⟨#[c]⟩ : ByteArray)) W (by omega) (by rw [ByteArray.size_append]; show s.size + 1 + n ≤ _; omega)
    have hav := fun (c : UInt8) (W : World) => specAvoidsOk (s ++ (⟨#[c]⟩ : ByteArray)) W (by rw [ByteArray.size_append]; show s.size + 1 ≤ _; omega)
    rw [show ((n : Nat) : Int) = ((n + 1 : Nat) : Int) - 1 by omega] at ih
    have hpow : 4 ^ n ≤ 4 ^ 6 := Nat.pow_le_pow_right (by omega) (by omega)
    have hcl : ∀ c : UInt8, Tw.cntS (s ++ (⟨#[c]⟩ : ByteArray)).data.toList n ≤ 4096 := fun c => Nat.le_trans (Tw.cntS_le n _) hpow
    have hct : ∀ k, k ≤ 4 → Tw.cntTo s.data.toList n k ≤ 16384 := fun k hk => by
      have := Tw.cntTo_le n s.data.toList k hk
      omega
    have HAV := Lib.hid hav
    have HCL := Lib.hid hcl
    have HCT := Lib.hid hct
    obtain ⟨z, hz⟩ : ∃ z : Int, ((n + 1 : Nat) : Int) = z := ⟨_, rfl⟩
    have hz0 : (z == 0) = false := by simp; omega
    have hz1 : 1 ≤ z ∧ z ≤ 7 := by omega
    rw [hz] at ih ⊢
    have HIH := Lib.hid ih
    clear ih hav hcl hct hpow hz
    go_enter Tryd.func26, Tryd.ntmps26
    go_wp2_with fail
    go_loopw [5, 6] (fun a i wr => ∃ k : Nat, k ≤ 4 ∧ a = .int .i64 (Tw.cntTo s.data.toList n k : Int) ∧ i = .int .i64 k ∧ Below w.heap.size w wr) (fun _ i _ => 4 - (intOf i).toNat)
    case atStart => exact ⟨0, Nat.zero_le _, rfl, rfl, Below.refl _ _⟩
    case round =>
      obtain ⟨k, hk, rfl, rfl, hb⟩ := hrel
      have hle := HCT.out k hk
      by_cases hlt : k < 4
      · obtain ⟨c, hc, hk4⟩ : ∃ c, Tw.turn4[k]? = some c ∧ ((k = 0 ∧ c = 101) ∨ (k = 1 ∧ c = 110) ∨ (k = 2 ∧ c = 119) ∨ (k = 3 ∧ c = 115)) := by
          obtain rfl | rfl | rfl | rfl : k = 0 ∨ k = 1 ∨ k = 2 ∨ k = 3 := by omega
          · exact ⟨101, rfl, by simp⟩
          · exact ⟨110, rfl, by simp⟩
          · exact ⟨119, rfl, by simp⟩
          · exact ⟨115, rfl, by simp⟩
        have hnext := Tw.cntTo_succ (l := s.data.toList) (n := n) hc
        obtain ⟨a, ha⟩ : ∃ a, Tw.cntTo s.data.toList n k = a := ⟨_, rfl⟩
        rw [ha] at hnext hle ⊢
        have e : (s ++ (⟨#[c]⟩ : ByteArray)).data.toList = s.data.toList ++ [c] := by simp
        have hcl := HCL.out c
        have hih := HIH.out c
        have hav := HAV.out c
        rw [e] at hcl hih hav
        obtain ⟨u, hu⟩ : ∃ u, Tw.cntS (s.data.toList ++ [c]) n = u := ⟨_, rfl⟩
        obtain ⟨b, hb9⟩ : ∃ b, Tw.avoids (s.data.toList ++ [c]) = b := ⟨_, rfl⟩
        rw [hu] at hcl hih hnext
        rw [hb9] at hav hnext
        have HN := Lib.hid hnext
        have HI := Lib.hid hih
        have HV := Lib.hid hav
        clear hnext hih hav hu hb9 ha e hc
        have hbs := hb.size
        cases b
        all_goals
          rcases hk4 with ⟨rfl, rfl⟩ | ⟨rfl, rfl⟩ | ⟨rfl, rfl⟩ | ⟨rfl, rfl⟩
        all_goals
          go_wp2_with (first
            | (go_at_call 42; refine (HV.out _).mono ?_; rintro e w2 ⟨rfl, hb2⟩; have hb2' := hb.trans (hb2.mono hbs); have hbs2 := hb2'.size)
            | (go_at_call 26; refine (HI.out _).mono ?_; rintro e w3 ⟨rfl, hb3⟩; have hb3' := hb2'.trans (hb3.mono hbs2)))
          go_roundw
          case rel => exact ⟨_, hlt, by rw [HN.out]; first | rfl | (simp; done), rfl, by assumption⟩
          case measure => simp [intOf]
      · obtain rfl : k = 4 := by omega
        go_wp2_with fail
        go_ret
        exact ⟨ret_int (by rw [Tw.cntTo_all]), hb⟩

set_option maxHeartbeats 800000 in
theorem specCount (s : Int) (w : World) :
    Calls Tryd.prog 8 #[.int .i64 s] w fun e w' => e = .returned (.int .i64 (Tw.countI s)) ∧ Below w.heap.size w w' := by
  by_cases h : 0 ≤ s ∧ s ≤ 7
  · have HIN := Lib.hid (in_yes s 0 7 · h.1 h.2)
    by_cases h0 : s = 0
    · subst h0
      go_enter Tryd.func8, Tryd.ntmps8
      go_wp2_with (go_at_call 25; refine (HIN.out _).mono ?_; rintro e w' ⟨rfl, rfl⟩)
      go_ret
      exact ⟨rfl, Below.refl _ _⟩
    · obtain ⟨n, hn⟩ := Int.eq_ofNat_of_zero_le (show 0 ≤ s - 1 by omega)
      have hn6 : n < 7 := by omega
      have hc := Tw.count_east hn6
      rw [← Tw.cntS_walks] at hc
      have hle := Tw.count_le (n := n + 1) (by omega)
      have hs : s.toNat = n + 1 := by omega
      have hcall := fun W => l11Count_any n ⟨#[101]⟩ W (by omega) (by show 1 + n ≤ 100; omega)
      rw [← hn] at hcall
      obtain ⟨u, hu⟩ : ∃ u, Tw.cntS [101] n = u := ⟨_, rfl⟩
      rw [hu] at hc
      have hcall' : ∀ W, Calls Tryd.prog 26 #[.string ⟨#[101]⟩, .int .i64 (s - 1)] W fun e w' => e = .returned (.int .i64 (u : Int)) ∧ Below W.heap.size W w' := fun W => hu ▸ hcall W
      have HC := Lib.hid hcall'
      have hub : u ≤ 543 := by omega
      have HFIN : Hid (((4 : Int) * (u : Int)) = Tw.countI s) := by
        show _ = _
        unfold Tw.countI
        rw [if_pos h, hs, ← hc]
        omega
      have hz0 : (s == 0) = false := by simp; omega
      have hs1 : 1 ≤ s := by omega
      have hs7 : s ≤ 7 := h.2
      clear hc hcall hcall' hu hn hs h0 h
      go_enter Tryd.func8, Tryd.ntmps8
      go_wp2_with (first
        | (go_at_call 25; refine (HIN.out _).mono ?_; rintro e w' ⟨rfl, rfl⟩)
        | (go_at_call 26; refine (HC.out _).mono ?_; rintro e w1 ⟨rfl, hb1⟩))
      go_ret
      exact ⟨ret_int HFIN.out, hb1⟩
  · have HIN := Lib.hid (in_no s 0 7 · h)
    have HFIN : Hid (Tw.countI s = -1) := by show _ = _; unfold Tw.countI; rw [if_neg h]
    clear h
    go_enter Tryd.func8, Tryd.ntmps8
    go_wp2_with (go_at_call 25; refine (HIN.out _).mono ?_; rintro e w' ⟨rfl, rfl⟩)
    go_ret
    exact ⟨ret_int HFIN.out.symm, Below.refl _ _⟩
end Go.Proofs.YtjcagkpolfacpaaDoor
