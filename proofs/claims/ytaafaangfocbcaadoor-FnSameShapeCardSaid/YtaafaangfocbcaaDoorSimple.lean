/-
  Contract of the program's SimpleOk.
-/
import Derived.Test.YtaafaangfocbcaaDoorAvoids
import Derived.Test.YtaafaangfocbcaaDoorClosed
import Derived.Test.YtaafaangfocbcaaDoorShapeLaw
namespace Go.Proofs.YtaafaangfocbcaaDoor
open Go.RowKit

theorem before_end {l : List UInt8} {i : Nat} {p : Int × Int} (h : (Tw.placesTo l (l.length - 1))[i]? = some p) (h1 : 0 < l.length) : (Tw.places l)[i]? = some p := by
  have hi : i < (Tw.placesTo l (l.length - 1)).length := (List.getElem?_eq_some_iff.1 h).1
  rw [Tw.placesTo_length] at hi
  rw [Tw.placesTo_get? _ _ _ (by omega)] at h
  unfold Tw.places
  rw [Tw.placesTo_get? _ _ _ (by omega), h]
theorem simple_eq {l : List UInt8} (h : Tw.closed l = true) : Tw.simple l = Tw.noTwice (Tw.placesTo l (l.length - 1)) := by
  unfold Tw.simple
  rw [h, Bool.true_and]

theorem own_cap {w : World} {base g n cap m : Nat} {t : TypeId} {l : List Value} (h : w.ownsRow base t m (.slice (some ⟨g, 0, none⟩) n cap) n l) : n ≤ cap ∧ cap ≤ maxLen := by
  rcases h.2 with ⟨h, _⟩ | ⟨g1, c1, cur, he, _, _, hc, hm, _⟩
  · cases h
  · cases he
    exact ⟨hc, hm⟩

set_option maxHeartbeats 1600000 in
theorem implSimpleOk (s : ByteArray) (w : World) (hs : s.size ≤ 1048576) (hw : DirsAt w) :
    Calls Tryd.prog 32 #[.string s] w fun e w' => e = .returned (.bool (Tw.simple s.data.toList)) ∧ Below w.heap.size w w' := by
  cases hcl : Tw.closed s.data.toList
  · have hc := implClosedOk s w hs hw
    rw [hcl] at hc
    have HC := Lib.hid hc
    have HCL := Lib.hid hcl
    clear hc hcl
    go_enter Tryd.func32, Tryd.ntmps32
    go_wp2_with (first
      | (go_at_call 15; refine HC.out.mono ?_; rintro e w1 ⟨rfl, hb1⟩))
    go_ret
    exact ⟨ret_bool (Tw.simple_open HCL.out).symm, hb1⟩
  · have hc := implClosedOk s w hs hw
    rw [hcl] at hc
    have HC := Lib.hid hc
    have h1 := Tw.closed_len hcl
    have hok := Tw.closed_ok hcl
    have HOK := Lib.hid hok
    have h40 : s.size ≤ 40 := by have := Tw.walkOk_len hok; rwa [size_data] at this
    have hnear := places_near s.data.toList (by rw [size_data]; omega)
    have HPL := Lib.hid (Tw.places_length s.data.toList)
    have hsz := size_data s
    obtain ⟨b, hb⟩ : ∃ b, Tw.noTwice (Tw.placesTo s.data.toList (s.data.toList.length - 1)) = b := ⟨_, rfl⟩
    have HB := Lib.hid hb
    have HEQ := Lib.hid ((simple_eq hcl).trans hb)
    obtain ⟨ps, hps⟩ : ∃ ps, Tw.placesTo s.data.toList (s.data.toList.length - 1) = ps := ⟨_, rfl⟩
    have hpn : ps.length = s.size := by rw [← hps, Tw.placesTo_length]; omega
    have hpb : ∀ (i : Nat) (p : Int × Int), ps[i]? = some p → (Tw.places s.data.toList)[i]? = some p := by
      intro i p hp
      rw [← hps] at hp
      exact before_end hp h1
    have hpnear : ∀ p ∈ ps, near p := by
      intro p hp
      obtain ⟨i, hi, rfl⟩ := List.getElem_of_mem hp
      exact hnear _ (List.mem_of_getElem? (hpb i _ (List.getElem?_eq_getElem hi)))
    rw [hps] at hb
    have HNT := Lib.hid hb
    have HPB := Lib.hid hpb
    have hone : 1 ≤ s.size := by omega
    have HPN := Lib.hid hpn
    clear hb hps hcl hok hc h1 hpb hsz hpn
    go_enter Tryd.func32, Tryd.ntmps32
    go_wp2_with (first
      | (go_at_call 15; refine HC.out.mono ?_; rintro e w1 ⟨rfl, hb1⟩)
      | (go_at_call 46; refine (implPlacesOf _ _ (hw.below' hb1) HOK.out).mono ?_; rintro e w2 ⟨v, rfl, ⟨g, cap, rfl, hown⟩, hb2⟩; rw [HPL.out, size_data] at hown ⊢; have hcap := own_cap hown)
      | (go_at_call 45; refine (allDifferent_any _ g _ _ ps HPN.out (by omega) (by omega) hpnear (hown.lt g rfl).2 (fun i p hp => place_cells hown (HPB.out i p hp))).mono ?_; rintro e w3 ⟨rfl, hb3⟩))
    go_ret
    exact ⟨ret_bool (by rw [HEQ.out, HNT.out]), (hb1.trans (hb2.mono hb1.size)).trans (hb3.mono (hb1.trans (hb2.mono hb1.size)).size)⟩

end Go.Proofs.YtaafaangfocbcaaDoor
