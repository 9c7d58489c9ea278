/-
  Desks: how they lie, and contracts of DeskOk (both) and of the law's helpers szDesk, toDesk, eqDesk.
-/
import Derived.Test.YtccdfndnjjjgfaaGreatDoorStrs
import Derived.Deep.Onto
namespace Go.Proofs.YtccdfndnjjjgfaaGreatDoor
open Go.RowKit

def walksOk (zs : List ByteArray) : Bool := zs.all fun z => Tw.walkOk z.data.toList
def deskOk (s : ByteArray) (zs : List ByteArray) : Bool := Tw.walkOk s.data.toList && walksOk zs && decide (zs.length ≤ 8)
theorem walksOk_not {zs : List ByteArray} {k : Nat} {z : ByteArray} (hz : zs[k]? = some z) (h : Tw.walkOk z.data.toList = false) : walksOk zs = false := by
  unfold walksOk
  rw [Bool.eq_false_iff]
  intro h'
  have := List.all_eq_true.1 h' z (List.mem_of_getElem? hz)
  rw [h] at this
  cases this
theorem walksOk_succ {zs : List ByteArray} {k : Nat} {z : ByteArray} (hz : zs[k]? = some z) (h : Tw.walkOk z.data.toList = true) (hk : walksOk (zs.take k) = true) : walksOk (zs.take (k + 1)) = true := by
  unfold walksOk at *
  rw [List.take_add_one, List.all_append, hk, hz]
  simp [h]

/-- Two cells of a block. -/
theorem two_cells {w : World} {g : Nat} {x y : Value} {t : TypeId} (h : w.heap[g]? = some (.cells #[x, y] t (0, 0))) : w.cell? ⟨g, 0, none⟩ = some x ∧ w.cell? ⟨g, 1, none⟩ = some y := ⟨cell_of_row _ _ _ _ _ _ h, cell_of_row _ _ _ _ _ _ h⟩

set_option maxHeartbeats 1600000 in
theorem specDeskOk (s : ByteArray) (v : Value) (zs : List ByteArray) (w : World) (h : StrsAt w v zs) (hs : s.size ≤ 1048576) (hn : zs.length ≤ 1048576) (hz : ∀ z ∈ zs, z.size ≤ 1048576) :
    Calls Tryz.prog 24 #[.agg #[.string s, v]] w fun e w' => e = .returned (.bool (deskOk s zs)) ∧ Below w.heap.size w w' := by
  rcases h with ⟨rfl, rfl⟩ | ⟨a, cap, rfl, hl, hc⟩
  · obtain ⟨b, hb⟩ : ∃ b, Tw.walkOk s.data.toList = b := ⟨_, rfl⟩
    have HB := Lib.hid hb
    clear hb
    cases b
    all_goals
      go_enter Tryz.func24, Tryz.ntmps24
      go_wp2
      refine wp_loop_rounds 1 ?_
      rw [rounds_succ]
      go_wp2_with (first | (go_at_call 65; refine (specWalkOk_is _ _ hs _ HB.out).mono ?_; rintro e w' ⟨rfl, rfl⟩))
      go_ret
      exact ⟨ret_bool (by unfold deskOk; rw [HB.out]; rfl), (Below.refl _ _).alloc (Nat.le_refl _) _⟩
  · obtain ⟨n, hnn⟩ : ∃ n, zs.length = n := ⟨_, rfl⟩
    have hcell : ∀ (o : Obj) (j : Nat) (z : ByteArray), zs[j]? = some z → (w.alloc o).cell? (a.add j) = some (.string z) := fun o j z hj => cell_keep ((Below.refl w.heap.size w).alloc (Nat.le_refl _) o) (hc j z hj)
    rw [hnn] at hn hl ⊢
    have HC := Lib.hid hcell
    have HN := Lib.hid hnn
    have HZ := Lib.hid hz
    clear hc hnn hcell hz
    go_enter Tryz.func24, Tryz.ntmps24
    go_wp2
    go_loop [3] (fun i => ∃ k : Nat, k ≤ n ∧ i = .int .i64 k ∧ Hid (walksOk (zs.take k) = true)) (fun i => n - (intOf i).toNat)
    case atStart => exact ⟨0, Nat.zero_le _, rfl, rfl⟩
    case round =>
      obtain ⟨k, hk, rfl, HK⟩ := hrel
      by_cases hlt : k < n
      · obtain ⟨z, hz⟩ : ∃ z, zs[k]? = some z := ⟨zs[k]'(by rw [HN.out]; exact hlt), List.getElem?_eq_getElem (by rw [HN.out]; exact hlt)⟩
        have c1 := fun o => HC.out o k z hz
        have hzs := HZ.out z (List.mem_of_getElem? hz)
        have hk3 : (0 : Int) ≤ (k : Int) := by omega
        have hk4 : (k : Int) < (n : Int) := by omega
        have HZK := Lib.hid hz
        clear hz
        obtain ⟨b, hb⟩ : ∃ b, Tw.walkOk z.data.toList = b := ⟨_, rfl⟩
        have HB := Lib.hid hb
        clear hb
        cases b
        · go_wp2_with (first | (go_at_call 65; refine (specWalkOk_is _ _ hzs _ HB.out).mono ?_; rintro e w' ⟨rfl, rfl⟩))
          go_ret
          exact ⟨ret_bool (by unfold deskOk; rw [walksOk_not HZK.out HB.out, Bool.and_false, Bool.false_and]), (Below.refl _ _).alloc (Nat.le_refl _) _⟩
        · go_wp2_with (first | (go_at_call 65; refine (specWalkOk_is _ _ hzs _ HB.out).mono ?_; rintro e w' ⟨rfl, rfl⟩))
          go_round
          case rel => exact ⟨k + 1, by omega, by go_num, walksOk_succ HZK.out HB.out HK.out⟩
          case measure => simp [intOf]; omega
      · obtain rfl : k = n := by omega
        have hall := HK.out
        rw [List.take_of_length_le (by rw [HN.out]; exact Nat.le_refl _)] at hall
        have HALL := Lib.hid hall
        clear hall
        obtain ⟨b, hb⟩ : ∃ b, Tw.walkOk s.data.toList = b := ⟨_, rfl⟩
        have HB := Lib.hid hb
        clear hb
        cases b
        all_goals
          go_wp2_with (first | (go_at_call 65; refine (specWalkOk_is _ _ hs _ HB.out).mono ?_; rintro e w' ⟨rfl, rfl⟩))
          go_ret
          refine ⟨ret_bool ?_, (Below.refl _ _).alloc (Nat.le_refl _) _⟩
          unfold deskOk
          rw [HB.out, HALL.out, HN.out]
          simp <;> omega

set_option maxHeartbeats 1600000 in
theorem implDeskOk (s : ByteArray) (v : Value) (zs : List ByteArray) (w : World) (h : StrsAt w v zs) (hs : s.size ≤ 1048576) (hn : zs.length ≤ 1048576) (hz : ∀ z ∈ zs, z.size ≤ 1048576) :
    Calls Tryz.prog 27 #[.agg #[.string s, v]] w fun e w' => e = .returned (.bool (deskOk s zs)) ∧ Below w.heap.size w w' := by
  rcases h with ⟨rfl, rfl⟩ | ⟨a, cap, rfl, hl, hc⟩
  · obtain ⟨b, hb⟩ : ∃ b, Tw.walkOk s.data.toList = b := ⟨_, rfl⟩
    have HB := Lib.hid hb
    clear hb
    cases b
    · go_enter Tryz.func27, Tryz.ntmps27
      go_wp2_with (first | (go_at_call 67; refine (implWalkOk_is _ _ hs _ HB.out).mono ?_; rintro e w' ⟨rfl, rfl⟩))
      go_ret
      exact ⟨ret_bool (by unfold deskOk; rw [HB.out]; rfl), (Below.refl _ _).alloc (Nat.le_refl _) _⟩
    · go_enter Tryz.func27, Tryz.ntmps27
      go_wp2_with (first | (go_at_call 67; refine (implWalkOk_is _ _ hs _ HB.out).mono ?_; rintro e w' ⟨rfl, rfl⟩))
      refine wp_loop_rounds 1 ?_
      rw [rounds_succ]
      go_wp2
      go_ret
      exact ⟨ret_bool (by unfold deskOk; rw [HB.out]; rfl), (Below.refl _ _).alloc (Nat.le_refl _) _⟩
  · obtain ⟨n, hnn⟩ : ∃ n, zs.length = n := ⟨_, rfl⟩
    have hcell : ∀ (o : Obj) (j : Nat) (z : ByteArray), zs[j]? = some z → (w.alloc o).cell? (a.add j) = some (.string z) := fun o j z hj => cell_keep ((Below.refl w.heap.size w).alloc (Nat.le_refl _) o) (hc j z hj)
    rw [hnn] at hn hl ⊢
    have HC := Lib.hid hcell
    have HN := Lib.hid hnn
    have HZ := Lib.hid hz
    clear hc hnn hcell hz
    obtain ⟨b, hb⟩ : ∃ b, Tw.walkOk s.data.toList = b := ⟨_, rfl⟩
    have HB := Lib.hid hb
    clear hb
    cases b
    · go_enter Tryz.func27, Tryz.ntmps27
      go_wp2_with (first | (go_at_call 67; refine (implWalkOk_is _ _ hs _ HB.out).mono ?_; rintro e w' ⟨rfl, rfl⟩))
      go_ret
      exact ⟨ret_bool (by unfold deskOk; rw [HB.out, Bool.false_and, Bool.false_and]), (Below.refl _ _).alloc (Nat.le_refl _) _⟩
    · by_cases h8 : n ≤ 8
      · go_enter Tryz.func27, Tryz.ntmps27
        go_wp2_with (first | (go_at_call 67; refine (implWalkOk_is _ _ hs _ HB.out).mono ?_; rintro e w' ⟨rfl, rfl⟩))
        go_loop [4, 18] (fun _ i => ∃ k : Nat, k ≤ n ∧ i = .int .i64 k ∧ Hid (walksOk (zs.take k) = true)) (fun _ i => n - (intOf i).toNat)
        case atStart => exact ⟨0, Nat.zero_le _, rfl, rfl⟩
        case round =>
          obtain ⟨k, hk, rfl, HK⟩ := hrel
          by_cases hlt : k < n
          · obtain ⟨z, hz⟩ : ∃ z, zs[k]? = some z := ⟨zs[k]'(by rw [HN.out]; exact hlt), List.getElem?_eq_getElem (by rw [HN.out]; exact hlt)⟩
            have c1 := fun o => HC.out o k z hz
            have hzs := HZ.out z (List.mem_of_getElem? hz)
            have hk3 : (0 : Int) ≤ (k : Int) := by omega
            have hk4 : (k : Int) < (n : Int) := by omega
            have HZK := Lib.hid hz
            clear hz
            obtain ⟨c, hc⟩ : ∃ c, Tw.walkOk z.data.toList = c := ⟨_, rfl⟩
            have HCC := Lib.hid hc
            clear hc
            cases c
            · go_wp2_with (first | (go_at_call 67; refine (implWalkOk_is _ _ hzs _ HCC.out).mono ?_; rintro e w' ⟨rfl, rfl⟩))
              go_ret
              exact ⟨ret_bool (by unfold deskOk; rw [walksOk_not HZK.out HCC.out, Bool.and_false, Bool.false_and]), (Below.refl _ _).alloc (Nat.le_refl _) _⟩
            · go_wp2_with (first | (go_at_call 67; refine (implWalkOk_is _ _ hzs _ HCC.out).mono ?_; rintro e w' ⟨rfl, rfl⟩))
              go_round
              case rel => exact ⟨k + 1, by omega, by go_num, walksOk_succ HZK.out HCC.out HK.out⟩
              case measure => simp [intOf]; omega
          · obtain rfl : k = n := by omega
            have hall := HK.out
            rw [List.take_of_length_le (by rw [HN.out]; exact Nat.le_refl _)] at hall
            have HALL := Lib.hid hall
            clear hall
            go_wp2_with fail
            go_ret
            refine ⟨ret_bool ?_, (Below.refl _ _).alloc (Nat.le_refl _) _⟩
            unfold deskOk
            rw [HB.out, HALL.out, HN.out, decide_eq_true h8]
            rfl
      · have h8' : 8 < n := by omega
        go_enter Tryz.func27, Tryz.ntmps27
        go_wp2_with (first | (go_at_call 67; refine (implWalkOk_is _ _ hs _ HB.out).mono ?_; rintro e w' ⟨rfl, rfl⟩))
        go_ret
        refine ⟨ret_bool ?_, (Below.refl _ _).alloc (Nat.le_refl _) _⟩
        unfold deskOk
        rw [HN.out, decide_eq_false h8, Bool.and_false]

def szDeskLeft (left : Int) (s : ByteArray) (zs : List ByteArray) : Int := if (s.size : Int) ≤ left then szLeft (left - s.size) zs else -1
theorem szLeft_cases (left : Int) (zs : List ByteArray) : (szLeft left zs = -1) ∨ (0 ≤ szLeft left zs ∧ szLeft left zs ≤ left ∧ (zs.length : Int) + bulk zs ≤ left) := by
  have := bulk_nonneg zs
  unfold szLeft
  split
  · right
    omega
  · left
    rfl
theorem szDesk_few {left : Int} {s : ByteArray} {zs : List ByteArray} (h : 0 ≤ szDeskLeft left s zs) : (s.size : Int) + zs.length + bulk zs ≤ left := by
  unfold szDeskLeft at h
  split at h
  · rcases szLeft_cases (left - s.size) zs with h1 | h1
    · omega
    · omega
  · omega

set_option maxHeartbeats 800000 in
theorem szDesk_any (s : ByteArray) (v : Value) (zs : List ByteArray) (left : Int) (w : World) (h : StrsAt w v zs) (h0 : 0 ≤ left) (h1 : left ≤ 1048576) (hs : s.size ≤ 9223372036854775807) (hn : zs.length ≤ 9223372036854775807) (hz : ∀ z ∈ zs, z.size ≤ 9223372036854775807) :
    Calls Tryz.prog 8 #[.agg #[.string s, v], .int .i64 left] w fun e w' => e = .returned (.int .i64 (szDeskLeft left s zs)) ∧ Below w.heap.size w w' := by
  have hal : ∀ o, StrsAt (w.alloc o) v zs := fun o => h.below' ((Below.refl _ _).alloc (Nat.le_refl _) o)
  have HAL := Lib.hid hal
  have HZ := Lib.hid hz
  clear hal hz h
  by_cases hle : (s.size : Int) ≤ left
  · have hr : szDeskLeft left s zs = szLeft (left - s.size) zs := by unfold szDeskLeft; rw [if_pos hle]
    rw [hr]
    clear hr
    have hcs := szLeft_cases (left - s.size) zs
    obtain ⟨r, hr⟩ : ∃ r, szLeft (left - s.size) zs = r := ⟨_, rfl⟩
    rw [hr] at hcs ⊢
    have HR := Lib.hid hr
    clear hr
    rcases hcs with rfl | ⟨hr0, hr1, _⟩
    all_goals
      go_enter Tryz.func8, Tryz.ntmps8
      go_wp2_with (first | (go_at_call 9; refine (szStrings_any _ zs _ _ (HAL.out _) (by omega) (by omega) hn HZ.out).mono ?_; rw [HR.out]; rintro e w' ⟨rfl, rfl⟩))
      go_ret
      exact ⟨rfl, (Below.refl _ _).alloc (Nat.le_refl _) _⟩
  · have hr : szDeskLeft left s zs = -1 := by unfold szDeskLeft; rw [if_neg hle]
    rw [hr]
    clear hr
    go_enter Tryz.func8, Tryz.ntmps8
    go_wp2_with fail
    go_ret
    exact ⟨rfl, (Below.refl _ _).alloc (Nat.le_refl _) _⟩

theorem two_set {w : World} {b : Nat} {x y : Value} {t : TypeId} (h : w.heap[b]? = some (.cells #[x, y] t (0, 0))) (u v : Value) : ((w.setCell ⟨b, 0, none⟩ u).setCell ⟨b, 1, none⟩ v).heap[b]? = some (.cells #[u, v] t (0, 0)) := by
  simp [World.setCell, Array.getElem?_modify, h]
theorem own_set {w : World} {base : Nat} {e : TypeId} {size : Nat} {v : Value} {n : Nat} {xs : List Value} (h : w.ownsRow base e size v n xs) (a : Addr) (u : Value) (hne : v.ownBlock ≠ some a.block) : (w.setCell a u).ownsRow base e size v n xs :=
  h.kept (row := some a.block) ⟨rfl, rfl, rfl, by simp, fun k _ hk => heap_setCell_other w a k u (fun e => hk (by rw [e]))⟩ (.inr hne)

theorem to_blocks {w w2 : World} {o : Obj} {x y u v : Value} {t : TypeId} (h : Below (((w.alloc o).alloc (.cells #[x, y] t)).alloc (.cells #[u, v] t)).heap.size (((w.alloc o).alloc (.cells #[x, y] t)).alloc (.cells #[u, v] t)) w2) :
    w2.heap[w.heap.size + 1]? = some (.cells #[x, y] t (0, 0)) ∧ w2.heap[w.heap.size + 1 + 1]? = some (.cells #[u, v] t (0, 0)) := by
  have h1 := heap_alloc2_old (w.alloc o) (.cells #[x, y] t) (.cells #[u, v] t)
  have h2 := heap_alloc2_new (w.alloc o) (.cells #[x, y] t) (.cells #[u, v] t)
  have e : (w.alloc o).heap.size = w.heap.size + 1 := by simp
  rw [e] at h1 h2
  exact ⟨(h.block _ (by simp)).trans h1, (h.block _ (by simp)).trans h2⟩
set_option maxHeartbeats 1600000 in
theorem toDesk_any (s : ByteArray) (v : Value) (zs : List ByteArray) (w : World) (h : StrsAt w v zs) (hn : zs.length ≤ 1048576) :
    Calls Tryz.prog 11 #[.agg #[.string s, v]] w fun e w' => ∃ g, e = .returned (.agg #[.string s, .slice (some ⟨g, 0, none⟩) zs.length zs.length]) ∧ w'.ownsRow w.heap.size 9 1 (.slice (some ⟨g, 0, none⟩) zs.length zs.length) zs.length (strVals zs) ∧ Below w.heap.size w w' := by
  have hal : ∀ o o' o'', StrsAt (((w.alloc o).alloc o').alloc o'') v zs := fun o o' o'' => h.below' ((((Below.refl _ _).alloc (Nat.le_refl _) o).alloc (by simp) o').alloc (by simp; omega) o'')
  have HAL := Lib.hid hal
  clear hal h
  go_enter Tryz.func11, Tryz.ntmps11
  go_wp2_with (first | (go_at_call 12; refine (toStrings_any _ zs _ (HAL.out _ _ _) hn).mono ?_; rintro e w2 ⟨rfl, hown2, hb2⟩; obtain ⟨hBB, hCC⟩ := to_blocks hb2; have b0 := cell_of_row _ _ 0 _ _ _ hBB; have b1 := cell_of_row _ _ 1 _ _ _ hBB; have b2 := frozen_of_row _ _ 0 _ _ hBB; have b3 := frozen_of_row _ _ 1 _ _ hBB; have c0 := cell_of_row _ _ 0 _ _ _ hCC; have c1 := cell_of_row _ _ 1 _ _ _ hCC; have c2 := frozen_of_row _ _ 0 _ _ hCC; have c3 := frozen_of_row _ _ 1 _ _ hCC; have HBB := Lib.hid hBB; have HCC := Lib.hid hCC; clear hBB hCC))
  have hB1 : (w2.setCell ⟨w.heap.size + 1 + 1, 1, none⟩ (.slice (some ⟨w.heap.size + 1 + 1 + 1, 0, none⟩) zs.length zs.length)).heap[w.heap.size + 1]? = some (.cells #[.string ⟨#[]⟩, .slice none 0 0] 27 (0, 0)) := by
    rw [Below.heap_setCell _ _ _ _ (by simp)]
    exact HBB.out
  obtain ⟨q0, q1⟩ := two_cells (two_set hB1 (.string s) (.slice (some ⟨w.heap.size + 1 + 1 + 1, 0, none⟩) zs.length zs.length))
  have hsz : (((w.alloc (Obj.cells #[Value.string s, v] 24)).alloc (Obj.cells #[Value.string ⟨#[]⟩, Value.slice none 0 0] 27)).alloc (Obj.cells #[Value.string s, Value.slice none 0 0] 27)).heap.size = w.heap.size + 1 + 1 + 1 := by simp
  rw [hsz] at hown2 hb2
  refine bodyPost_ret (v := .agg #[.string s, .slice (some ⟨w.heap.size + 1 + 1 + 1, 0, none⟩) zs.length zs.length]) (by simp [results, Tryz.results11, go_sem, q0, q1]) rfl ⟨_, rfl, ?_, ?_⟩
  · refine own_set (own_set (own_set (Go.World.ownsRow.mono hown2 (by omega)) _ _ ?_) _ _ ?_) _ _ ?_
    all_goals simp [Value.ownBlock]; try omega
  · have h3 : Below w.heap.size w w2 := ((((Below.refl _ _).alloc (Nat.le_refl _) _).alloc (by simp) _).alloc (by simp; omega) _).trans (hb2.mono (by omega))
    exact ((h3.setCell (by simp; omega) _).setCell (by simp) _).setCell (by simp) _

set_option maxHeartbeats 800000 in
theorem eqDesk_any (s t : ByteArray) (v u : Value) (zs ys : List ByteArray) (w : World) (h : StrsAt w v zs) (k : StrsAt w u ys) (hn : zs.length ≤ 9223372036854775807) (hm : ys.length ≤ 9223372036854775807) :
    Calls Tryz.prog 14 #[.agg #[.string s, v], .agg #[.string t, u]] w fun e w' => e = .returned (.bool (decide (s = t) && decide (zs = ys))) ∧ Below w.heap.size w w' := by
  have hal : ∀ o o', StrsAt ((w.alloc o).alloc o') v zs := fun o o' => h.below' (((Below.refl _ _).alloc (Nat.le_refl _) o).alloc (by simp) o')
  have kal : ∀ o o', StrsAt ((w.alloc o).alloc o') u ys := fun o o' => k.below' (((Below.refl _ _).alloc (Nat.le_refl _) o).alloc (by simp) o')
  have HAL := Lib.hid hal
  have KAL := Lib.hid kal
  clear hal kal h k
  have hst := eq_bytes s t
  cases hb : decide (s = t)
  · rw [hb] at hst
    clear hb
    go_enter Tryz.func14, Tryz.ntmps14
    go_wp2_with fail
    go_ret
    exact ⟨ret_bool (by rw [Bool.false_and]), ((Below.refl _ _).alloc (Nat.le_refl _) _).alloc (by simp) _⟩
  · rw [hb] at hst
    clear hb
    obtain ⟨b, hb⟩ : ∃ b, decide (zs = ys) = b := ⟨_, rfl⟩
    have HB := Lib.hid hb
    rw [hb]
    clear hb
    cases b
    all_goals
      go_enter Tryz.func14, Tryz.ntmps14
      go_wp2_with (first | (go_at_call 15; refine (eqStrings_any _ _ zs ys _ (HAL.out _ _) (KAL.out _ _) hn hm).mono ?_; rw [HB.out]; rintro e w1 ⟨rfl, hb1⟩))
      go_ret
      exact ⟨rfl, (((Below.refl _ _).alloc (Nat.le_refl _) _).alloc (by simp) _).trans (hb1.mono (by simp; omega))⟩
theorem eqDesk_same (s : ByteArray) (v u : Value) (zs : List ByteArray) (w : World) (h : StrsAt w v zs) (k : StrsAt w u zs) (hn : zs.length ≤ 9223372036854775807) :
    Calls Tryz.prog 14 #[.agg #[.string s, v], .agg #[.string s, u]] w fun e w' => e = .returned (.bool true) ∧ Below w.heap.size w w' :=
  (eqDesk_any s s v u zs zs w h k hn hn).mono fun _ _ h => ⟨h.1.trans (ret_bool (by rw [decide_eq_true rfl, decide_eq_true rfl]; rfl)), h.2⟩

end Go.Proofs.YtccdfndnjjjgfaaGreatDoor
