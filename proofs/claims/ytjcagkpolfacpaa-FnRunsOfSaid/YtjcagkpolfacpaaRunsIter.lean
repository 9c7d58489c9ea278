/-
  The program's iterator over the runs of a row of ascending numbers.
-/
import Derived.Test.YtjcagkpolfacpaaRangeOwn
import Derived.Test.YtjcagkpolfacpaaRunsPure
import Derived.Test.YtjcagkpolfacpaaBase
import Derived.RangeFuncBox
import Derived.Shelf.Abstract
import Derived.Shelf.RegionOpen
import Derived.WalkKit
import Derived.OwnWalkIn
import Derived.TacticsInMore
import Derived.LoopNIn
import Derived.LoopIn
namespace Go.Proofs.Ytjcagkpolfacpaa
open Go Go.RowKit Go.Shelf

attribute [local go_sem] Oper.semAt_some

namespace Rn
/-- Whether the number at a place is followed by the next one. -/
def onAt (s : List Nat) (k : Nat) : Bool := decide (k + 1 < s.length) && decide (s[k + 1]?.getD 0 = s[k]?.getD 0 + 1)
def firstAt (s : List Nat) : Nat → Nat
  | 0 => 0
  | k + 1 => if onAt s k = true then firstAt s k else k + 1
theorem firstAt_le (s : List Nat) : ∀ k, firstAt s k ≤ k
  | 0 => Nat.le_refl _
  | k + 1 => by
    have := firstAt_le s k
    rw [firstAt]
    split <;> omega
/-- What has come when k places are over. -/
def pairsTo (s : List Nat) : Nat → List (Nat × Nat)
  | 0 => []
  | k + 1 => if onAt s k = true then pairsTo s k else pairsTo s k ++ [(s[firstAt s k]?.getD 0, s[k]?.getD 0)]
theorem pairs_length (s : List Nat) : ∀ k, (pairsTo s k).length = ends s k
  | 0 => rfl
  | k + 1 => by
    have ih := pairs_length s k
    rw [pairsTo, ends]
    unfold onAt
    split
    · rename_i h
      simp only [Bool.and_eq_true, decide_eq_true_eq] at h
      rw [if_pos h, ih, Nat.add_zero]
    · rename_i h
      simp only [Bool.and_eq_true, decide_eq_true_eq] at h
      rw [if_neg h, List.length_append, ih]
      rfl
theorem pairs_next (s : List Nat) (k : Nat) : pairsTo s k <+: pairsTo s (k + 1) := by
  rw [pairsTo]
  split
  · exact List.prefix_rfl
  · exact List.prefix_append _ _
theorem pairs_prefix (s : List Nat) (k : Nat) : ∀ d, pairsTo s k <+: pairsTo s (k + d)
  | 0 => List.prefix_rfl
  | d + 1 => (pairs_prefix s k d).trans (pairs_next s (k + d))
end Rn

/-- A box holds a row of numbers. -/
def RowIn (Bs g cap : Nat) (s : List Nat) (W : World) : Prop := W.cell? ⟨Bs, 0, none⟩ = some (.slice (some ⟨g, 0, none⟩) s.length cap) ∧ ∀ j : Nat, j < s.length → W.cell? ⟨g, j, none⟩ = some (.int .i64 ((s[j]?.getD 0 : Nat) : Int))

set_option maxRecDepth 100000 in
set_option maxHeartbeats 2000000 in
theorem runs1_in (F : Fence) (n : Nat) (hf : F.fn 23) (hro : F.round = none) (hn : 1 ≤ n) (l Bs B g cap : Nat) (s : List Nat) (hlen : s.length ≤ 256) (hs : ∀ j : Nat, s[j]?.getD 0 ≤ 256) (J : List (Nat × Nat) → Option Nat → World → Prop)
    (hC : ∀ pre r W, J pre r W → RowIn Bs g cap s W)
    (hY : RoundsOwn F (n - 1) Try.prog l B (fun x : Nat × Nat => #[.int .i64 (x.1 : Int), .int .i64 (x.2 : Int)]) (Rn.pairsTo s s.length) J) (W : World) (h0 : J [] none W) :
    CallsIn F n Try.prog 23 #[.func (.yield l) #[] #[], .pointer (some ⟨Bs, 0, none⟩)] W fun e W' => (∃ v, e = .returned v) ∧ ∃ r, J (Rn.pairsTo s s.length) r W' := by
  have hB := (hC _ _ _ h0).1
  refine callsIn_of_wp Try.func23 rfl hf ?_ hro
  simp only [Try.ntmps23, List.size_toArray, List.length_cons, List.length_nil, Nat.reduceAdd, Nat.reduceSub, Array.replicate_succ, Array.replicate_zero, List.push_toArray, List.append_toArray, List.nil_append, List.cons_append]
  gi_wp2
  gi_loopw [3, 8] (fun a i wr => ∃ (k : Nat) (r : Option Nat), k ≤ s.length ∧ a = .int .i64 (Rn.firstAt s k) ∧ i = .int .i64 k ∧ J (Rn.pairsTo s k) r wr)
    (fun _ i _ => s.length - (intOf i).toNat)
  case atStart => exact ⟨0, none, Nat.zero_le _, rfl, rfl, h0⟩
  case round =>
    obtain ⟨k, r, hk, rfl, rfl, hJ⟩ := hrel
    obtain ⟨hbox, hcell⟩ := hC _ _ _ hJ
    by_cases hlt : k < s.length
    · have c0 := hcell k hlt
      have hfl := Rn.firstAt_le s k
      have c1 := hcell (Rn.firstAt s k) (by omega)
      have b0 := hs k
      have b1 := hs (k + 1)
      have c2 : k + 1 < s.length → wr.cell? ⟨g, k + 1, none⟩ = some (.int .i64 ((s[k + 1]?.getD 0 : Nat) : Int)) := fun h => hcell (k + 1) h
      obtain ⟨f, hf0⟩ : ∃ f, Rn.firstAt s k = f := ⟨_, rfl⟩
      obtain ⟨u, hu⟩ : ∃ u, s[k]?.getD 0 = u := ⟨_, rfl⟩
      obtain ⟨v, hv⟩ : ∃ v, s[k + 1]?.getD 0 = v := ⟨_, rfl⟩
      obtain ⟨z, hz⟩ : ∃ z, s[f]?.getD 0 = z := ⟨_, rfl⟩
      rw [hf0] at c1 hfl ⊢
      rw [hu] at c0 b0
      rw [hv] at c2 b1
      rw [hz] at c1
      have HF : Hid (Rn.firstAt s k = f) := hf0
      have HU : Hid (s[k]?.getD 0 = u) := hu
      have HV : Hid (s[k + 1]?.getD 0 = v) := hv
      have HZ : Hid (s[f]?.getD 0 = z) := hz
      have HJ : Hid (J (Rn.pairsTo s k) r wr) := hJ
      clear hcell hf0 hu hv hz hJ
      have hgo : (Rn.onAt s k = false ∧ s.length ≤ k + 1) ∨ (Rn.onAt s k = false ∧ k + 1 < s.length ∧ ¬ (v = u + 1)) ∨ (Rn.onAt s k = true ∧ k + 1 < s.length ∧ v = u + 1) := by
        unfold Rn.onAt
        rw [HU.out, HV.out]
        by_cases h1 : k + 1 < s.length
        · by_cases h2 : v = u + 1 <;> simp [h1, h2]
        · exact .inl ⟨by simp [h1], by omega⟩
      rcases hgo with ⟨h9, h1⟩ | ⟨h9, h1, h2⟩ | ⟨h9, h1, h2⟩
      · have H9 := Lib.hid h9
        clear h9 c2 b1
        have hnext : Rn.pairsTo s (k + 1) = Rn.pairsTo s k ++ [(z, u)] := by rw [Rn.pairsTo, if_neg (by rw [H9.out]; simp), HF.out, HU.out, HZ.out]
        obtain ⟨fn, tmps, assign, body, hy, hR⟩ := hY _ (z, u) r wr HJ.out (by rw [← hnext]; have := Rn.pairs_prefix s (k + 1) (s.length - (k + 1)); rwa [show k + 1 + (s.length - (k + 1)) = s.length by omega] at this)
        dsimp only at hy
        have HN := Lib.hid hnext
        clear hnext
        gi_wp2
        refine hR.mono ?_
        rintro e W3 ⟨rfl, r3, hJ3, hO3, hN3⟩
        gi_wp2
        go_roundw
        case rel => exact ⟨k + 1, r3, by omega, by rw [Rn.firstAt, if_neg (by rw [H9.out]; simp)]; go_num, by go_num, by rw [HN.out]; exact hJ3⟩
        case measure => simp [intOf]; omega
      · have H9 := Lib.hid h9
        clear h9
        have c3 := c2 h1
        have hq : ((v : Int) == (u : Int) + 1) = false := by simp; omega
        clear c2 h2
        have hnext : Rn.pairsTo s (k + 1) = Rn.pairsTo s k ++ [(z, u)] := by rw [Rn.pairsTo, if_neg (by rw [H9.out]; simp), HF.out, HU.out, HZ.out]
        obtain ⟨fn, tmps, assign, body, hy, hR⟩ := hY _ (z, u) r wr HJ.out (by rw [← hnext]; have := Rn.pairs_prefix s (k + 1) (s.length - (k + 1)); rwa [show k + 1 + (s.length - (k + 1)) = s.length by omega] at this)
        dsimp only at hy
        have HN := Lib.hid hnext
        clear hnext
        gi_wp2
        refine hR.mono ?_
        rintro e W3 ⟨rfl, r3, hJ3, hO3, hN3⟩
        gi_wp2
        go_roundw
        case rel => exact ⟨k + 1, r3, by omega, by rw [Rn.firstAt, if_neg (by rw [H9.out]; simp)]; go_num, by go_num, by rw [HN.out]; exact hJ3⟩
        case measure => simp [intOf]; omega
      · have H9 := Lib.hid h9
        clear h9
        have c3 := c2 h1
        have hq : ((v : Int) == (u : Int) + 1) = true := by simp; omega
        clear c2 h2
        gi_wp2
        go_roundw
        case rel => exact ⟨k + 1, r, by omega, by rw [Rn.firstAt, if_pos H9.out, HF.out], by go_num, by rw [Rn.pairsTo, if_pos H9.out]; exact HJ.out⟩
        case measure => simp [intOf]; omega
    · obtain rfl : k = s.length := by omega
      clear hcell
      gi_wp2
      go_end0
      exact ⟨⟨_, rfl⟩, r, hJ⟩
end Go.Proofs.Ytjcagkpolfacpaa
