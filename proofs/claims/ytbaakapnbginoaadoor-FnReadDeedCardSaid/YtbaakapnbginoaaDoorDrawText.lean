/-
  The draws of texts of deeds.
-/
import Derived.Test.YtbaakapnbginoaaDoorDrawDeeds
import Derived.Test.YtbaakapnbginoaaDoorDeedSpec
namespace Go.Proofs.YtbaakapnbginoaaDoor
open Go.RowKit

theorem spoil_at {z : Int} (h0 : 0 ≤ z) (h1 : z < 6) : ∃ t : ByteArray, (#[.string ⟨#[]⟩, .string ⟨#[48]⟩, .string ⟨#[32]⟩, .string ⟨#[10]⟩, .string ⟨#[45]⟩, .string ⟨#[98, 97, 99, 107]⟩] : Array Value)[z.toNat]? = some (.string t) ∧ (∀ h, ([.string ⟨#[]⟩, .string ⟨#[48]⟩, .string ⟨#[32]⟩, .string ⟨#[10]⟩, .string ⟨#[45]⟩, .string ⟨#[98, 97, 99, 107]⟩] : List Value)[z.toNat]'h = .string t) ∧ t.size ≤ 4 := by
  obtain rfl | rfl | rfl | rfl | rfl | rfl : z = 0 ∨ z = 1 ∨ z = 2 ∨ z = 3 ∨ z = 4 ∨ z = 5 := by omega
  all_goals exact ⟨_, rfl, fun _ => rfl, by simp [lit_size]⟩
set_option maxRecDepth 100000 in
set_option maxHeartbeats 3200000 in
theorem spoil_d (s : ByteArray) (w W : World) (R n p k : Nat) (v : Value) (h : Drawn w W R v n p k) (hp : p + k ≤ 90000) (hs : s.size ≤ 10000) :
    Calls Tryd.prog 91 #[.pointer (some ⟨R, 0, none⟩), .string s] W fun e w' => ∃ x : ByteArray, e = .returned (.string x) ∧ x.size ≤ 20010 ∧ Drawn w w' R v n p (k + 2) := by
  by_cases h0 : s.size = 0
  · have h00 : ((s.size : Int) == 0) = true := by rw [h0]; rfl
    go_enter Tryd.func91, Tryd.ntmps91
    go_wp2
    go_ret
    exact ⟨_, rfl, by simp [lit_size], h.mono (by omega)⟩
  · have h00 : ((s.size : Int) == 0) = false := beq_false_of_ne (by omega)
    go_enter Tryd.func91, Tryd.ntmps91
    go_upto_region 4 with (first
      | (go_at_call 90; refine (pick_d h (by omega) (by omega) (by omega)).mono ?_; rintro e w1 ⟨y, rfl, hy0, hy1, hd1, hg1⟩))
    have hz1 := IntWalk.i64_in (y + 1) ⟨by omega, by omega⟩
    have hz2 : 0 ≤ y + 1 := by omega
    have hz3 : y + 1 ≤ (s.size : Int) := by omega
    have hz4 : y ≤ (s.size : Int) := by omega
    have hl1 := hd1.lt
    have e1 : (s.extract 0 y.toNat).size ≤ s.size := by rw [ByteArray.size_extract]; omega
    have e2 : (s.extract (y + 1).toNat s.size).size ≤ s.size := by rw [ByteArray.size_extract]; omega
    obtain ⟨a, ha⟩ : ∃ a, s.extract 0 y.toNat = a := ⟨_, rfl⟩
    obtain ⟨b, hb⟩ : ∃ b, s.extract (y + 1).toNat s.size = b := ⟨_, rfl⟩
    rw [ha] at e1
    rw [hb] at e2
    go_region_law (first
      | (go_simp; go_at_call 90; refine (pick_d (by first | exact hd1.drew | exact (hd1.alloc _).drew | exact hd1.drew.alloc _) (by omega) (by omega) (by omega)).mono ?_; rintro e w2 ⟨z, rfl, hzz0, hzz1, hd2, hg2⟩; obtain ⟨t, hty, htl, htz⟩ := spoil_at hzz0 hzz1; have uL := fun Y : World => lit_new (t := 9) Y hty; have hq1 : ¬ 9223372036854775807 < a.size + t.size := (by omega); have hq3 : (a ++ t).size = a.size + t.size := ByteArray.size_append; have hq2 : ¬ 9223372036854775807 < a.size + t.size + b.size := (by omega); (first | (have HL := g_a (cs := #[.string ⟨#[]⟩, .string ⟨#[48]⟩, .string ⟨#[32]⟩, .string ⟨#[10]⟩, .string ⟨#[45]⟩, .string ⟨#[98, 97, 99, 107]⟩]) (t := 9) hg2 (by omega)) | (have HL := g_ad (cs := #[.string ⟨#[]⟩, .string ⟨#[48]⟩, .string ⟨#[32]⟩, .string ⟨#[10]⟩, .string ⟨#[45]⟩, .string ⟨#[98, 97, 99, 107]⟩]) (t := 9) hg2 (by omega)) | skip); (first | (have cL := lit_at HL hty; have cLa := lit_at_alloc HL hty) | skip)))
    all_goals
      go_wp2
      go_ret
      refine ⟨_, rfl, by rw [ByteArray.size_append, ByteArray.size_append]; omega, ?_⟩
      first
        | exact hd2.mono (by omega)
        | exact (hd2.alloc _).mono (by omega)

theorem deed_size (k n : Int) : (Tw.str (deedText k n)).size ≤ 10000 := by
  rw [Tw.str_size]
  unfold deedText
  split
  · rename_i hk
    split
    · rename_i hn
      have h2 := dec_few (i := n.toNat) (by omega)
      rw [Tw.str_size] at h2
      rw [List.length_append, List.length_cons]
      rcases hk with h | h | h
      all_goals
        rw [h]
        simp [deedWord]
        omega
    · simp
  · split
    · rename_i hk
      split
      · rcases hk with h | h | h
        all_goals
          rw [h]
          simp [deedWord]
      · simp
    · simp
set_option maxRecDepth 100000 in
set_option maxHeartbeats 1600000 in
theorem drawReadDeed (v : Value) (n : Nat) (w : World) (h : CodeAt w v n) :
    Calls Tryd.prog 51 #[v] w fun e w' => ∃ x : ByteArray, e = .returned (.string x) ∧ x.size ≤ 20010 ∧ Below w.heap.size w w' := by
  go_enter Tryd.func51, Tryd.ntmps51
  go_upto_region 3 with (first
    | (go_at_call 72; refine (open_any v n _ h).mono ?_; rintro e w1 ⟨rfl, ⟨v', n', hr⟩, hb1⟩)
    | (go_at_call 86; refine (walk_d w1 w1 _ n' 0 0 v' _ (Drawn.start hr) (by omega) (by omega) (by omega)).mono ?_; rintro e w2 ⟨s, rfl, hs, hd⟩)
    | (go_at_call 74; refine (deed_d s w1 w2 _ n' 0 _ v' hd (by omega) hs).mono ?_; rintro e w3 ⟨K, M, rfl, hK0, hK1, hM0, hM1, hd3⟩)
    | (go_at_call 50; refine (specDeedText K M _).mono ?_; rintro e w4 ⟨rfl, hb4⟩; have hd4 := hd3.below hb4))
  have hx := deed_size K M
  obtain ⟨x, hxe⟩ : ∃ x, Tw.str (deedText K M) = x := ⟨_, rfl⟩
  rw [hxe] at hx ⊢
  clear hxe
  go_wp2_with (first
    | (go_at_call 90; refine (pick_d hd4 (by omega) (by omega) (by omega)).mono ?_; rintro e w5 ⟨y, rfl, hy0, hy1, hd5, _⟩; rcases zero_or y with rfl | hyy)
    | (go_at_call 91; refine (spoil_d x w1 _ _ n' 0 _ v' hd5 (by omega) hx).mono ?_; rintro e w6 ⟨z, rfl, hz, hd6⟩))
  · go_ret
    exact ⟨_, rfl, hz, hd6.below_base hb1 (Nat.le_refl _)⟩
  · go_ret
    exact ⟨_, rfl, by omega, hd5.below_base hb1 (Nat.le_refl _)⟩

end Go.Proofs.YtbaakapnbginoaaDoor
