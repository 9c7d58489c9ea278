/-
  The walk of FnGoesOn: for every code: each letter by which a walk goes on leads to one that avoids itself; there are four for the walk without steps, and else at most three. No condition beyond what the given statement itself bears.
-/
import Derived.Test.YtaafaangfocbcaaDoorDraws
import Derived.Test.YtaafaangfocbcaaDoorAlive
import Derived.Test.YtaafaangfocbcaaDoorLawPure
import Derived.Test.YtaafaangfocbcaaDoorGoesImpl
import Derived.Test.YtaafaangfocbcaaDoorOpenCode
namespace Go.Proofs.YtaafaangfocbcaaDoor.fnGoesOn
open Go.ChangeShapes Go.WideShapes Go.ChangeAt Go.RowKit Go.WideMaps Go.WideElems
open Go.ChangeMaps (open_string shut_string)

theorem one_more {s : ByteArray} {l : List UInt8} {k : Nat} (hk : k < l.length) : (s ++ (Tw.str l).extract k (k + 1)).data.toList = s.data.toList ++ [l[k]] := by
  rw [ByteArray.data_append, Array.toList_append, Lib.extract_data, Tw.str_data, Nat.add_sub_cancel_left]
  congr 1
  rw [List.take_one, List.head?_drop, List.getElem?_eq_getElem hk]
  rfl
theorem facts {s t : ByteArray} (ht : Tw.str (Tw.goesOn s.data.toList) = t) : t.size ≤ 4 ∧ (∀ k, k < t.size → Tw.avoids (s ++ t.extract k (k + 1)).data.toList = true) ∧ (s.size = 0 → t = ⟨#[101, 110, 115, 119]⟩) ∧ (0 < s.size → t.size ≤ 3) := by
  subst ht
  rw [Tw.str_size]
  refine ⟨goes_len _, fun k hk => ?_, fun h => ?_, fun h => Tw.goesOn_three ?_⟩
  · rw [one_more hk]
    exact Tw.goesOn_mem (List.getElem_mem hk)
  · have e : s.data.toList = [] := List.length_eq_zero_iff.1 (by rw [size_data]; exact h)
    rw [e, Tw.goesOn_nil]
    rfl
  · intro e
    have := size_data s
    rw [e] at this
    simp at this
    omega

set_option maxHeartbeats 3200000 in
theorem walk (v : Value) (n : Nat) (w : World) (hd : DirsAt w) (h : CodeAt w v n) :
    Calls Tryd.prog 4 #[v] w fun e w' => e = .returned (.bool true) ∧ Below w.heap.size w w' := by
  have hdraw := drawGoesOn v n w h
  have hv : ∃ a cap, v = .slice a n cap := by
    rcases h with ⟨rfl, rfl⟩ | ⟨a, cap, rfl, _⟩
    · exact ⟨_, _, rfl⟩
    · exact ⟨_, _, rfl⟩
  obtain ⟨a, cap, rfl⟩ := hv
  have HD := Lib.hid hdraw
  clear hdraw h
  by_cases hn : n ≤ 1048576
  · go_enter Tryd.func4, Tryd.ntmps4
    go_wp2_with (go_at_call 17; refine HD.out.mono ?_; rintro e w1 ⟨s, rfl, hs, hb1⟩)
    have hs1 : s.size ≤ 1048576 := by omega
    obtain ⟨t, ht⟩ : ∃ t, Tw.str (Tw.goesOn s.data.toList) = t := ⟨_, rfl⟩
    have him := implGoesOn s w1 hs1 (hd.below' hb1)
    have hsp := fun W => specGoesOn s W hs1
    rw [ht] at him hsp
    obtain ⟨ht4, hgo, hnil, hthree⟩ := facts ht
    have HIM := Lib.hid him
    have HSP := Lib.hid hsp
    have HGO := Lib.hid hgo
    clear him hsp hgo ht
    go_wp2_with (first
      | (go_at_call 18; refine HIM.out.mono ?_; rintro e w2 ⟨rfl, hb2'⟩; have hb2 := hb1.trans (hb2'.mono hb1.size))
      | (go_at_call 19; refine (HSP.out _).mono ?_; rintro e w3 ⟨rfl, hb3'⟩; have hb3 := hb2.trans (hb3'.mono hb2.size)))
    go_loopw [5] (fun i wr => ∃ j : Nat, i = .int .i64 j ∧ j ≤ t.size ∧ Below w.heap.size w wr) (fun i _ => t.size - (intOf i).toNat)
    case atStart => exact ⟨0, rfl, Nat.zero_le _, hb3⟩
    case round =>
      obtain ⟨j, rfl, hj, hbr⟩ := hrel
      by_cases hlt : j < t.size
      · have hav := HGO.out j hlt
        have HAV := Lib.hid hav
        clear hav
        go_wp2_with (first
          | (go_at_call 12; refine (implAvoidsOk_is _ _ (by simp; omega) (hd.below' hbr) true HAV.out).mono ?_; rintro e w4 ⟨rfl, hb4'⟩; have hb4 := hbr.trans (hb4'.mono hbr.size)))
        go_roundw
        case rel => exact ⟨j + 1, by go_num, by omega, hb4⟩
        case measure => simp [intOf]; omega
      · obtain rfl : j = t.size := by omega
        rcases Nat.eq_zero_or_pos s.size with hz | hz
        · obtain rfl := hnil hz
          have hz2 : ((s.size : Int) == 0) = true := by simp [hz]
          go_wp2_with (first
            | (go_at_call 14; refine (alive_yes _).mono ?_; rintro e w' ⟨rfl, rfl⟩))
          go_ret
          exact ⟨rfl, hbr⟩
        · have h3 := hthree hz
          have hz2 : ((s.size : Int) == 0) = false := beq_false_of_ne (by omega)
          go_wp2_with (first
            | (go_at_call 14; refine (alive_yes _).mono ?_; rintro e w' ⟨rfl, rfl⟩))
          go_ret
          exact ⟨rfl, hbr⟩
  · have hn' : 1048576 < n := by omega
    go_enter Tryd.func4, Tryd.ntmps4
    go_wp2_with fail
    go_ret
    exact ⟨rfl, Below.refl _ _⟩

end Go.Proofs.YtaafaangfocbcaaDoor.fnGoesOn
