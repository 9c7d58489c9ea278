/-
  Desks: how they lie, and contracts of DeskOk (both) and of the law's helpers szDesk, toDesk, eqDesk.
-/
import Derived.Test.YtpkenccgjlhnlaaDoorStrs
import Derived.Deep.Onto
namespace Go.Proofs.YtpkenccgjlhnlaaDoor
open Go.RowKit

def walksOk (zs : List ByteArray) : Bool := zs.all fun z => Tw.walkOk z.data.toList
def deskOk (s : ByteArray) (zs : List ByteArray) : Bool := Tw.walkOk s.data.toList && walksOk zs && decide (zs.length ≤ 8)
theorem walksOk_not {zs : List ByteArray} {k : Nat} {z : ByteArray} (hz : zs[k]? = some z) (h : Tw.walkOk z.data.toList = false) : walksOk zs = false := by
  unfold walksOk
  rw [Bool.eq_false_iff]
  intro h'
  have := List.all_eq_true.1 h' z (List.mem_of_getElem? hz)
  rw [h] at this
  cases this
theorem walksOk_succ {zs : List ByteArray} {k : Nat} {z : ByteArray} (hz : zs[k]? = some z) (h : Tw.walkOk z.data.toList = true) (hk : walksOk (zs.take k) = true) : walksOk (zs.take (k + 1)) = true := by
  unfold walksOk at *
  rw [List.take_add_one, List.all_append, hk, hz]
  simp [h]

/-- Two cells of a block. -/
theorem two_cells {w : World} {g : Nat} {x y : Value} {t : TypeId} (h : w.heap[g]? = some (.cells #[x, y] t (0, 0))) : w.cell? ⟨g, 0, none⟩ = some x ∧ w.cell? ⟨g, 1, none⟩ = some y := ⟨cell_of_row _ _ _ _ _ _ h, cell_of_row _ _ _ _ _ _ h⟩

set_option maxHeartbeats 1600000 in
theorem specDeskOk (s : ByteArray) (v : Value) (zs : List ByteArray) (w : World) (h : StrsAt w v zs) (hs : s.size ≤ 1048576) (hn : zs.length ≤ 1048576) (hz : ∀ z ∈ zs, z.size ≤ 1048576) :
    Calls Tryd.prog 24 #[.agg #[.string s, v]] w fun e w' => e = .returned (.bool (deskOk s zs)) ∧ Below w.heap.size w w' := by
  rcases h with ⟨rfl, rfl⟩ | ⟨a, cap, rfl, hl, hc⟩
  · obtain ⟨b, hb⟩ : ∃ b, Tw.walkOk s.data.toList = b := ⟨_, rfl⟩
    have HB := Lib.hid hb
    clear hb
    cases b
    all_goals
      go_enter Tryd.func24, Tryd.ntmps24
      go_wp2
      refine wp_loop_rounds 1 ?_
      rw [rounds_succ]
      go_wp2_with (first | (go_at_call 46; refine (specWalkOk_is _ _ hs _ HB.out).mono ?_; rintro e w' ⟨rfl, rfl⟩))
      go_ret
      exact ⟨ret_bool (by unfold deskOk; rw [HB.out]; rfl), (Below.refl _ _).alloc (Nat.le_refl _) _⟩
  · obtain ⟨n, hnn⟩ : ∃ n, zs.length = n := ⟨_, rfl⟩
    have hcell : ∀ (o : Obj) (j : Nat) (z : ByteArray), zs[j]? = some z → (w.alloc o).cell? (a.add j) = some (.string z) := fun o j z hj => cell_keep ((Below.refl w.heap.size w).alloc (Nat.le_refl _) o) (hc j z hj)
    rw [hnn] at hn hl ⊢
    have HC := Lib.hid hcell
    have HN := Lib.hid hnn
    have HZ := Lib.hid hz
    clear hc hnn hcell hz
    go_enter Tryd.func24, Tryd.ntmps24
    go_wp2
    go_loop [3] (fun i => ∃ k : Nat, k ≤ n ∧ i = .int .i64 k ∧ Hid (walksOk (zs.take k) = true)) (fun i => n - (intOf i).toNat)
    case atStart => exact ⟨0, Nat.zero_le _, rfl, rfl⟩
    case round =>
      obtain ⟨k, hk, rfl, HK⟩ := hrel
      by_cases hlt : k < n
      · obtain ⟨z, hz⟩ : ∃ z, zs[k]? = some z := ⟨zs[k]'(by rw [HN.out]; exact hlt), List.getElem?_eq_getElem (by rw [HN.out]; exact hlt)⟩
        have c1 := fun o => HC.out o k z hz
        have hzs := HZ.out z (List.mem_of_getElem? hz)
        have hk3 : (0 : Int) ≤ (k : Int) := by omega
        have hk4 : (k : Int) < (n : Int) := by omega
        have HZK := Lib.hid hz
        clear hz
        obtain ⟨b, hb⟩ : ∃ b, Tw.walkOk z.data.toList = b := ⟨_, rfl⟩
        have HB := Lib.hid hb
        clear hb
        cases b
        · go_wp2_with (first | (go_at_call 46; refine (specWalkOk_is _ _ hzs _ HB.out).mono ?_; rintro e w' ⟨rfl, rfl⟩))
          go_ret
          exact ⟨ret_bool (by unfold deskOk; rw [walksOk_not HZK.out HB.out, Bool.and_false, Bool.false_and]), (Below.refl _ _).alloc (Nat.le_refl _) _⟩
        · go_wp2_with (first | (go_at_call 46; refine (specWalkOk_is _ _ hzs _ HB.out).mono ?_; rintro e w' ⟨rfl, rfl⟩))
          go_round
          case rel => exact ⟨k + 1, by omega, by go_num, walksOk_succ HZK.out HB.out HK.out⟩
          case measure => simp [intOf]; omega
      · obtain rfl : k = n := by omega
        have hall := HK.out
        rw [List.take_of_length_le (by rw [HN.out]; exact Nat.le_refl _)] at hall
        have HALL := Lib.hid hall
        clear hall
        obtain ⟨b, hb⟩ : ∃ b, Tw.walkOk s.data.toList = b := ⟨_, rfl⟩
        have HB := Lib.hid hb
        clear hb
        cases b
        all_goals
          go_wp2_with (first | (go_at_call 46; refine (specWalkOk_is _ _ hs _ HB.out).mono ?_; rintro e w' ⟨rfl, rfl⟩))
          go_ret
          refine ⟨ret_bool ?_, (Below.refl _ _).alloc (Nat.le_refl _) _⟩
          unfold deskOk
          rw [HB.out, HALL.out, HN.out]
          simp <;> omega

set_option maxHeartbeats 1600000 in
theorem implDeskOk (s : ByteArray) (v : Value) (zs : List ByteArray) (w : World) (h : StrsAt w v zs) (hs : s.size ≤ 1048576) (hn : zs.length ≤ 1048576) (hz : ∀ z ∈ zs, z.size ≤ 1048576) :
    Calls Tryd.prog 12 #[.agg #[.string s, v]] w fun e w' => e = .returned (.bool (deskOk s zs)) ∧ Below w.heap.size w w' := by
  rcases h with ⟨rfl, rfl⟩ | ⟨a, cap, rfl, hl, hc⟩
  · obtain ⟨b, hb⟩ : ∃ b, Tw.walkOk s.data.toList = b := ⟨_, rfl⟩
    have HB := Lib.hid hb
    clear hb
    cases b
    · go_enter Tryd.func12, Tryd.ntmps12
      go_wp2_with (first | (go_at_call 28; refine (implWalkOk_is _ _ hs _ HB.out).mono ?_; rintro e w' ⟨rfl, rfl⟩))
      go_ret
      exact ⟨ret_bool (by unfold deskOk; rw [HB.out]; rfl), (Below.refl _ _).alloc (Nat.le_refl _) _⟩
    · go_enter Tryd.func12, Tryd.ntmps12
      go_wp2_with (first | (go_at_call 28; refine (implWalkOk_is _ _ hs _ HB.out).mono ?_; rintro e w' ⟨rfl, rfl⟩))
      refine wp_loop_rounds 1 ?_
      rw [rounds_succ]
      go_wp2
      go_ret
      exact ⟨ret_bool (by unfold deskOk; rw [HB.out]; rfl), (Below.refl _ _).alloc (Nat.le_refl _) _⟩
  · obtain ⟨n, hnn⟩ : ∃ n, zs.length = n := ⟨_, rfl⟩
    have hcell : ∀ (o : Obj) (j : Nat) (z : ByteArray), zs[j]? = some z → (w.alloc o).cell? (a.add j) = some (.string z) := fun o j z hj => cell_keep ((Below.refl w.heap.size w).alloc (Nat.le_refl _) o) (hc j z hj)
    rw [hnn] at hn hl ⊢
    have HC := Lib.hid hcell
    have HN := Lib.hid hnn
    have HZ := Lib.hid hz
    clear hc hnn hcell hz
    obtain ⟨b, hb⟩ : ∃ b, Tw.walkOk s.data.toList = b := ⟨_, rfl⟩
    have HB := Lib.hid hb
    clear hb
    cases b
    · go_enter Tryd.func12, Tryd.ntmps12
      go_wp2_with (first | (go_at_call 28; refine (implWalkOk_is _ _ hs _ HB.out).mono ?_; rintro e w' ⟨rfl, rfl⟩))
      go_ret
      exact ⟨ret_bool (by unfold deskOk; rw [HB.out, Bool.false_and, Bool.false_and]), (Below.refl _ _).alloc (Nat.le_refl _) _⟩
    · by_cases h8 : n ≤ 8
      · go_enter Tryd.func12, Tryd.ntmps12
        go_wp2_with (first | (go_at_call 28; refine (implWalkOk_is _ _ hs _ HB.out).mono ?_; rintro e w' ⟨rfl, rfl⟩))
        go_loop [4, 18] (fun _ i => ∃ k : Nat, k ≤ n ∧ i = .int .i64 k ∧ Hid (walksOk (zs.take k) = true)) (fun _ i => n - (intOf i).toNat)
        case atStart => exact ⟨0, Nat.zero_le _, rfl, rfl⟩
        case round =>
          obtain ⟨k, hk, rfl, HK⟩ := hrel
          by_cases hlt : k < n
          · obtain ⟨z, hz⟩ : ∃ z, zs[k]? = some z := ⟨zs[k]'(by rw [HN.out]; exact hlt), List.getElem?_eq_getElem (by rw [HN.out]; exact hlt)⟩
            have c1 := fun o => HC.out o k z hz
            have hzs := HZ.out z (List.mem_of_getElem? hz)
            have hk3 : (0 : Int) ≤ (k : Int) := by omega
            have hk4 : (k : Int) < (n : Int) := by omega
            have HZK := Lib.hid hz
            clear hz
            obtain ⟨c, hc⟩ : ∃ c, Tw.walkOk z.data.toList = c := ⟨_, rfl⟩
            have HCC := Lib.hid hc
            clear hc
            cases c
            · go_wp2_with (first | (go_at_call 28; refine (implWalkOk_is _ _ hzs _ HCC.out).mono ?_; rintro e w' ⟨rfl, rfl⟩))
              go_ret
              exact ⟨ret_bool (by unfold deskOk; rw [walksOk_not HZK.out HCC.out, Bool.and_false, Bool.false_and]), (Below.refl _ _).alloc (Nat.le_refl _) _⟩
            · go_wp2_with (first | (go_at_call 28; refine (implWalkOk_is _ _ hzs _ HCC.out).mono ?_; rintro e w' ⟨rfl, rfl⟩))
              go_round
              case rel => exact ⟨k + 1, by omega, by go_num, walksOk_succ HZK.out HCC.out HK.out⟩
              case measure => simp [intOf]; omega
          · obtain rfl : k = n := by omega
            have hall := HK.out
            rw [List.take_of_length_le (by rw [HN.out]; exact Nat.le_refl _)] at hall
            have HALL := Lib.hid hall
            clear hall
            go_wp2_with fail
            go_ret
            refine ⟨ret_bool ?_, (Below.refl _ _).alloc (Nat.le_refl _) _⟩
            unfold deskOk
            rw [HB.out, HALL.out, HN.out, decide_eq_true h8]
            rfl
      · have h8' : 8 < n := by omega
        go_enter Tryd.func12, Tryd.ntmps12
        go_wp2_with (first | (go_at_call 28; refine (implWalkOk_is _ _ hs _ HB.out).mono ?_; rintro e w' ⟨rfl, rfl⟩))
        go_ret
        refine ⟨ret_bool ?_, (Below.refl _ _).alloc (Nat.le_refl _) _⟩
        unfold deskOk
        rw [HN.out, decide_eq_false h8, Bool.and_false]


theorem two_set {w : World} {b : Nat} {x y : Value} {t : TypeId} (h : w.heap[b]? = some (.cells #[x, y] t (0, 0))) (u v : Value) : ((w.setCell ⟨b, 0, none⟩ u).setCell ⟨b, 1, none⟩ v).heap[b]? = some (.cells #[u, v] t (0, 0)) := by
  simp [World.setCell, Array.getElem?_modify, h]
theorem own_set {w : World} {base : Nat} {e : TypeId} {size : Nat} {v : Value} {n : Nat} {xs : List Value} (h : w.ownsRow base e size v n xs) (a : Addr) (u : Value) (hne : v.ownBlock ≠ some a.block) : (w.setCell a u).ownsRow base e size v n xs :=
  h.kept (row := some a.block) ⟨rfl, rfl, rfl, by simp, fun k _ hk => heap_setCell_other w a k u (fun e => hk (by rw [e]))⟩ (.inr hne)



end Go.Proofs.YtpkenccgjlhnlaaDoor
