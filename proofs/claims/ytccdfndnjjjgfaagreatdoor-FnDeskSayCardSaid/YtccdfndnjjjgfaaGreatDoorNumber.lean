/-
  The reference's l1Number for numbers of two digits at most.
-/
import Derived.Test.YtccdfndnjjjgfaaGreatDoorDeed
namespace Go.Proofs.YtccdfndnjjjgfaaGreatDoor
open Go.RowKit

set_option maxRecDepth 100000 in
set_option maxHeartbeats 25600000 in
theorem number_two (i : Nat) (hi : 10 ≤ i) (hi2 : i < 100) (w : World) :
    Calls Tryz.prog 51 #[.int .i64 i] w fun e w' => e = .returned (.string (Tw.str (Lib.decDigits i))) ∧ Below w.heap.size w w' := by
  have hd : i / 10 < 10 := by omega
  have hm : i % 10 < 10 := by omega
  obtain ⟨p, hp⟩ : ∃ p, i / 10 = p := ⟨_, rfl⟩
  obtain ⟨q, hq⟩ : ∃ q, i % 10 = q := ⟨_, rfl⟩
  have hdec : Lib.decDigits i = [UInt8.ofNat (48 + p)] ++ [UInt8.ofNat (48 + q)] := by rw [dec_two hi2, if_neg (by omega), hp, hq]; rfl
  rw [hp] at hd
  rw [hq] at hm
  have eq1 : (i : Int).tdiv 10 = (p : Int) := by rw [Int.tdiv_eq_ediv_of_nonneg (by omega)]; omega
  have eq2 : (i : Int).tmod 10 = (q : Int) := by rw [Int.tmod_eq_emod_of_nonneg (by omega)]; omega
  have eq3 : IntKind.i64.wrap (48 + (q : Int)) = 48 + (q : Int) := IntWalk.i64_in _ (by omega)
  have eq4 : IntKind.u8.wrap (48 + (q : Int)) = 48 + (q : Int) := by
    simp [IntKind.wrap, IntKind.bits, IntKind.signed]
    omega
  have eq5 : (i : Int) / 10 = (p : Int) := by omega
  have eq6 : (i : Int) % 10 = (q : Int) := by omega
  obtain ⟨xp, hxp⟩ : ∃ x, Tw.str [UInt8.ofNat (48 + p)] = x := ⟨_, rfl⟩
  obtain ⟨xq, hxq⟩ : ∃ x, Tw.str [UInt8.ofNat (48 + q)] = x := ⟨_, rfl⟩
  have hsp : xp.size = 1 := by rw [← hxp]; rfl
  have hsq : xq.size = 1 := by rw [← hxq]; rfl
  have hcv : ∀ W : World, (convert 36 9 (.slice (some ⟨W.heap.size, 0, none⟩) 1 1)).run Tryz.prog (W.alloc (.cells #[.int .u8 (48 + (q : Int))] 5)) = .ok (.string xq) (W.alloc (.cells #[.int .u8 (48 + (q : Int))] 5)) := fun W => hxq ▸ conv_digit hm W
  have hcv1 : (convert 36 9 (.slice (some ⟨w.heap.size, 0, none⟩) 1 1)).run Tryz.prog (w.alloc (.cells #[.int .u8 (48 + (q : Int))] 5)).drew = .ok (.string xq) (w.alloc (.cells #[.int .u8 (48 + (q : Int))] 5)).drew := hcv w.drew
  have hlater : Hid (∀ w1 : World, Below (w.alloc (.cells #[.int .u8 (48 + (q : Int))] 5)).drew.heap.size (w.alloc (.cells #[.int .u8 (48 + (q : Int))] 5)).drew w1 → (convert 36 9 (.slice (some ⟨w.heap.size, 0, none⟩) 1 1)).run Tryz.prog w1 = .ok (.string xq) w1) := fun w1 hb => hxq ▸ conv_later (W := w.drew) hm hb
  have hdig : Hid (∀ W : World, Calls Tryz.prog 51 #[.int .i64 p] W fun e w' => e = .returned (.string xp) ∧ Below W.heap.size W w') := fun W => hxp ▸ number_digit p hd W
  have hsum : Hid (Tw.str (Lib.decDigits i) = xp ++ xq) := by
    show _ = _
    rw [hdec, ← hxp, ← hxq]
    exact (Tw.str_append _ _).symm
  have eq7 : IntKind.i64.wrap (p : Int) = p := IntWalk.i64_in _ (by omega)
  have eq8 : IntKind.i64.wrap (q : Int) = q := IntWalk.i64_in _ (by omega)
  have h0 : ¬ (i : Int) < 0 := by omega
  have h10 : ¬ (i : Int) < 10 := by omega
  clear hdec hp hq hxp hxq
  go_enter Tryz.func51, Tryz.ntmps51
  go_wp2_with fail
  go_region_law (first
    | (go_simp; go_at_call 51; first
        | (refine (hdig.out w.drew).mono ?_; rintro e w1 ⟨rfl, hb1⟩; have hb2 : Below w.heap.size w w1 := (Below.refl w.heap.size w).drew.trans hb1)
        | (refine (hdig.out (w.alloc (.cells #[.int .u8 (48 + (q : Int))] 5)).drew).mono ?_; rintro e w1 ⟨rfl, hb1⟩; have hcv2 := hlater.out w1 hb1; have hb2 : Below w.heap.size w w1 := (((Below.refl w.heap.size w).alloc (Nat.le_refl _) _).drew).trans (hb1.mono (by simp)))))
  all_goals
    go_wp2
    go_ret
    refine ⟨ret_str hsum.out.symm, ?_⟩
    first
      | exact hb2
      | exact hb2.alloc hb2.size _
theorem number_small (i : Nat) (hi : i < 100) (w : World) :
    Calls Tryz.prog 51 #[.int .i64 i] w fun e w' => e = .returned (.string (Tw.str (Lib.decDigits i))) ∧ Below w.heap.size w w' := by
  rcases Nat.lt_or_ge i 10 with h | h
  · have := number_digit i h w
    rwa [show Lib.decDigits i = [UInt8.ofNat (48 + i)] from by rw [dec_two hi, if_pos h]]
  · exact number_two i h hi w

end Go.Proofs.YtccdfndnjjjgfaaGreatDoor
