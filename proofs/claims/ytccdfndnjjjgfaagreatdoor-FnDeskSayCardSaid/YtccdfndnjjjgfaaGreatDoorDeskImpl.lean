/-
  The program's DeskDo: copied, putBack, walkAfter.
-/
import Derived.Test.YtccdfndnjjjgfaaGreatDoorDeskMade
import Derived.Test.YtccdfndnjjjgfaaGreatDoorShelf
namespace Go.Proofs.YtccdfndnjjjgfaaGreatDoor
open Go.RowKit

theorem clone_any (v : Value) (zs : List ByteArray) (w : World) (h : PastAt w v zs) (hn : zs.length ≤ 1048576) :
    Calls Tryz.prog 80 #[v] w fun e w' => ∃ v', e = .returned v' ∧ w'.ownsRow w.heap.size 9 1 v' zs.length (strVals zs) ∧ Below w.heap.size w w' := by
  rcases h with ⟨rfl, rfl⟩ | ⟨g, off, cap, cur, rfl, hl, hg, hc, hz⟩
  · refine (Tryz.slices_Clone_string_nil 0 0 w).mono ?_
    rintro e w' ⟨rfl, rfl⟩
    exact ⟨_, rfl, ⟨rfl, .inl ⟨rfl, rfl⟩⟩, Below.refl _ _⟩
  · refine (Tryz.slices_Clone_string g off zs.length cap zs w (Nat.le_refl _) (by omega) (fun j hj => ?_)).mono ?_
    · rw [cell_of_row _ _ _ _ _ _ hg, hz j _ (List.getElem?_eq_getElem hj), List.getD_eq_getElem?_getD, List.getElem?_eq_getElem hj]
      rfl
    · rintro e w' ⟨v', rfl, hown, _, hb⟩
      refine ⟨v', rfl, ?_, hb⟩
      rw [List.take_length] at hown
      exact hown
theorem own_value {w : World} {base n : Nat} {e : TypeId} {v : Value} {xs : List Value} (h : w.ownsRow base e 1 v n xs) : ∃ a c, v = .slice a n c := by
  rcases h.2 with ⟨rfl, rfl⟩ | ⟨g, cap, cur, rfl, _⟩
  · exact ⟨_, _, rfl⟩
  · exact ⟨_, _, rfl⟩
theorem past_value {w : World} {v : Value} {zs : List ByteArray} (h : PastAt w v zs) : ∃ a c, v = .slice a zs.length c := strs_value h.strs

set_option maxRecDepth 100000 in
set_option maxHeartbeats 800000 in
theorem copied_any (s : ByteArray) (v : Value) (zs : List ByteArray) (w : World) (h : PastAt w v zs) (hn : zs.length ≤ 1048576) :
    Calls Tryz.prog 39 #[.agg #[.string s, v]] w fun e w' => ∃ a c, e = .returned (.agg #[.string s, .slice a zs.length c]) ∧ PastAt w' (.slice a zs.length c) zs ∧ Fresh w.heap.size (.slice a zs.length c) ∧ Below w.heap.size w w' := by
  obtain ⟨W, hW⟩ : ∃ W, W = (w.alloc (.cells #[.string s, v] 27)).alloc (.cells #[.string ⟨#[]⟩, .slice none 0 0] 27) := ⟨_, rfl⟩
  have hWs : W.heap.size = w.heap.size + 2 := by rw [hW]; simp
  have hb : Below w.heap.size w W := by rw [hW]; exact ((Below.refl _ _).alloc (Nat.le_refl _) _).alloc (by simp) _
  have hrow : W.heap[w.heap.size]? = some (.cells #[.string s, v] 27 (0, 0)) := by rw [hW]; exact heap_alloc2_old _ _ _
  have hres : W.heap[w.heap.size + 1]? = some (.cells #[.string ⟨#[]⟩, .slice none 0 0] 27 (0, 0)) := by rw [hW]; exact heap_alloc2_new _ _ _
  have hst := (h.below hb).below ((Below.refl _ W).drew)
  have c0 := cell_of_row _ _ 0 _ _ _ hrow
  have c1 := cell_of_row _ _ 1 _ _ _ hrow
  have hlt0 : w.heap.size < W.heap.size := by omega
  obtain ⟨a0, m0, hv⟩ := past_value h
  have HCL := fun W' h' => clone_any v zs W' h' hn
  obtain ⟨L, hL⟩ : ∃ L, zs.length = L := ⟨_, rfl⟩
  rw [hL] at HCL hv ⊢
  have HW := Lib.hid hW
  have HRES := Lib.hid hres
  have HST := Lib.hid hst
  have HL := Lib.hid hL
  have HC := Lib.hid HCL
  clear hres hst h hW hrow HCL hL hn
  subst hv
  go_enter Tryz.func39, Tryz.ntmps39
  go_wp2_with fail
  rw [← HW.out]
  go_region_held3 (fun w' => w'.cell? ⟨w.heap.size, 0, none⟩ = some (.string s) ∧ w'.cell? ⟨w.heap.size, 1, none⟩ = some (.slice a0 L m0))
    (first
      | exact ⟨c0, c1⟩
      | exact ⟨k0, k1⟩
      | exact other_cells (by omega) k0 k1)
    (first
      | (go_at_call 80; refine (HC.out W.drew HST.out).mono ?_; rintro e w2 ⟨v2, rfl, hown2, hb2⟩; obtain ⟨a2, m2, hv2⟩ := own_value hown2; subst hv2; have k0 := (hb2.cell (p := ⟨w.heap.size, 0, none⟩) hlt0).trans c0; have k1 := (hb2.cell (p := ⟨w.heap.size, 1, none⟩) hlt0).trans c1; have s2 := (hb2.block (w.heap.size + 1) (by show w.heap.size + 1 < W.heap.size; omega)).trans HRES.out; have f0 := frozen_of_row _ _ 0 _ _ s2; have f1 := frozen_of_row _ _ 1 _ _ s2; have m0 := cell_of_row _ _ 0 _ _ _ s2; have m1 := cell_of_row _ _ 1 _ _ _ s2; have S2 := Lib.hid s2; clear s2))
  have hg2 : Fresh W.heap.size (.slice a2 L m2) := fresh_own hown2 (Nat.le_refl _)
  have hp2 : PastAt w2 (.slice a2 L m2) zs := past_own (base := W.heap.size) (by rw [HL.out]; exact hown2)
  have hb3 : Below w.heap.size w w2 := hb.trans ((((Below.refl _ W).drew).trans hb2).mono hb.size)
  have hne3 : (Value.slice a2 L m2).ownBlock ≠ some (w.heap.size + 1) := by
    intro e
    have := hg2 _ e
    omega
  have q := pair_put S2.out (.string s) (.slice a2 L m2)
  have q0 := cell_of_row _ _ 0 _ _ _ q
  have q1 := cell_of_row _ _ 1 _ _ _ q
  simp at q0 q1
  go_wp2
  refine bodyPost_ret (v := .agg #[.string s, .slice a2 L m2]) (by simp [results, Tryz.results39, go_sem, q0, q1]) rfl ⟨_, _, rfl, ?_, ?_, ?_⟩
  · exact past_put (past_put hp2 _ _ hne3) _ _ hne3
  · intro b e
    have := hg2 b e
    omega
  · exact (hb3.setCell (by show w.heap.size ≤ w.heap.size + 1; omega) _).setCell (by show w.heap.size ≤ w.heap.size + 1; omega) _

theorem other3 {W : World} {N A : Nat} {b : Addr} {u v x y z : Value} (h : A ≠ N) (hb : b.block ≠ N) (c0 : W.cell? ⟨A, 0, none⟩ = some x) (c1 : W.cell? ⟨A, 1, none⟩ = some y) (c2 : W.cell? b = some z) :
    ((W.setCell ⟨N, 0, none⟩ u).setCell ⟨N, 1, none⟩ v).cell? ⟨A, 0, none⟩ = some x ∧ ((W.setCell ⟨N, 0, none⟩ u).setCell ⟨N, 1, none⟩ v).cell? ⟨A, 1, none⟩ = some y ∧ ((W.setCell ⟨N, 0, none⟩ u).setCell ⟨N, 1, none⟩ v).cell? b = some z := by
  have k0 : ∀ p : Addr, p.block ≠ N → ((W.setCell ⟨N, 0, none⟩ u).setCell ⟨N, 1, none⟩ v).cell? p = W.cell? p := fun p hp => World.cell?_of_block ((heap_setCell_other _ ⟨N, 1, none⟩ _ _ hp).trans (heap_setCell_other _ ⟨N, 0, none⟩ _ _ hp))
  exact ⟨(k0 _ h).trans c0, (k0 _ h).trans c1, (k0 _ hb).trans c2⟩
set_option maxRecDepth 100000 in
set_option maxHeartbeats 1600000 in
theorem putBack_yes (s : ByteArray) (v : Value) (zs : List ByteArray) (w : World) (h : PastAt w v zs) (hn : zs.length ≤ 1048576) (m : Nat) (hm : Hid (zs.length = m + 1)) (z : ByteArray) (hz : Hid (zs[m]? = some z)) :
    Calls Tryz.prog 86 #[.agg #[.string s, v], .int .i64 0] w (DeskOut w z (zs.take m) true) := by
  have hmn : m ≤ 1048576 := by have := hm.out; omega
  obtain ⟨W, hW⟩ : ∃ W, W = (w.alloc (.cells #[.string s, v] 27)).alloc (.cells #[.string ⟨#[]⟩, .slice none 0 0] 27) := ⟨_, rfl⟩
  have hWs : W.heap.size = w.heap.size + 2 := by rw [hW]; simp
  have hb : Below w.heap.size w W := by rw [hW]; exact ((Below.refl _ _).alloc (Nat.le_refl _) _).alloc (by simp) _
  have hrow : W.heap[w.heap.size]? = some (.cells #[.string s, v] 27 (0, 0)) := by rw [hW]; exact heap_alloc2_old _ _ _
  have hres : W.heap[w.heap.size + 1]? = some (.cells #[.string ⟨#[]⟩, .slice none 0 0] 27 (0, 0)) := by rw [hW]; exact heap_alloc2_new _ _ _
  have hst := h.below hb
  obtain ⟨a, cap, rfl, hcap, hpt, hzc, hal⟩ : ∃ a cap, v = .slice (some a) (m + 1) cap ∧ m + 1 ≤ cap ∧ PastAt W (.slice (some a) m cap) (zs.take m) ∧ W.cell? (a.add m) = some (.string z) ∧ (a.add m).block < w.heap.size := by
    rcases h with ⟨rfl, rfl⟩ | ⟨g, off, cap, cur, rfl, hl, hg, hc, hzz⟩
    · exact absurd hm.out (by simp)
    · have hl2 := hm.out
      have e : (⟨g, off, none⟩ : Addr).add m = ⟨g, off + m, none⟩ := by unfold Addr.add; split <;> simp_all
      rw [hl2] at hst hl ⊢
      refine ⟨_, cap, rfl, hl, past_take hst (by omega) hl2, ?_, ?_⟩
      · rw [e]
        exact (cell_of_row _ _ _ _ _ _ ((hb.block _ (lt_at hg)).trans hg)).trans (hzz m z hz.out)
      · rw [e]
        exact lt_at hg
  have c0 := cell_of_row _ _ 0 _ _ _ hrow
  have c1 := cell_of_row _ _ 1 _ _ _ hrow
  have hlt0 : w.heap.size < W.heap.size := by omega
  have hm0 : (0 : Int) ≤ (m : Int) := by omega
  have hmc : m ≤ cap := by omega
  have hmd : m < m + 1 := by omega
  have hme : (m : Int) < (m : Int) + 1 := by omega
  have hmf : decide ((m : Int) < 0) = false := decide_eq_false (by omega)
  have hne1 : w.heap.size ≠ w.heap.size + 1 := by omega
  have hne2 : (a.add m).block ≠ w.heap.size + 1 := by omega
  have HCL := fun W' h' => clone_any (.slice (some a) m cap) (zs.take m) W' h' (by rw [List.length_take]; omega)
  have htl : (zs.take m).length = m := by rw [List.length_take, hm.out]; omega
  rw [htl] at HCL
  have HW := Lib.hid hW
  have HRES := Lib.hid hres
  have HST := Lib.hid (hpt.below ((Below.refl _ W).drew))
  have HC := Lib.hid HCL
  have HTL := Lib.hid htl
  clear hres hst h hW hrow HCL hn htl hpt
  go_enter Tryz.func86, Tryz.ntmps86
  go_wp2_with fail
  rw [← HW.out]
  go_wp2_with fail
  go_region_held3 (fun w' => w'.cell? ⟨w.heap.size, 0, none⟩ = some (.string s) ∧ w'.cell? ⟨w.heap.size, 1, none⟩ = some (.slice (some a) (m + 1) cap) ∧ w'.cell? (a.add m) = some (.string z))
    (first
      | exact ⟨c0, c1, hzc⟩
      | exact ⟨k0, k1, k2⟩
      | exact other3 hne1 hne2 k0 k1 k2)
    (first
      | (go_at_call 80; refine (HC.out W.drew HST.out).mono ?_; rintro e w2 ⟨v2, rfl, hown2, hb2⟩; obtain ⟨a2, m2, hv2⟩ := own_value hown2; subst hv2; have k0 := (hb2.cell (p := ⟨w.heap.size, 0, none⟩) hlt0).trans c0; have k1 := (hb2.cell (p := ⟨w.heap.size, 1, none⟩) hlt0).trans c1; have k2 : w2.cell? (a.add m) = some (.string z) := cell_keep hb2 hzc; have s2 := (hb2.block (w.heap.size + 1) (by show w.heap.size + 1 < W.heap.size; omega)).trans HRES.out; have f0 := frozen_of_row _ _ 0 _ _ s2; have f1 := frozen_of_row _ _ 1 _ _ s2; have m0 := cell_of_row _ _ 0 _ _ _ s2; have m1 := cell_of_row _ _ 1 _ _ _ s2; have S2 := Lib.hid s2; clear s2))
  have hg2 : Fresh W.heap.size (.slice a2 m m2) := fresh_own hown2 (Nat.le_refl _)
  have hp2 : PastAt w2 (.slice a2 m m2) (zs.take m) := past_own (base := W.heap.size) (by rw [HTL.out]; exact hown2)
  have hb3 : Below w.heap.size w w2 := hb.trans ((((Below.refl _ W).drew).trans hb2).mono hb.size)
  have hne3 : (Value.slice a2 m m2).ownBlock ≠ some (w.heap.size + 1) := by
    intro e
    have := hg2 _ e
    omega
  have q := pair_put S2.out (.string z) (.slice a2 m m2)
  have q0 := cell_of_row _ _ 0 _ _ _ q
  have q1 := cell_of_row _ _ 1 _ _ _ q
  simp at q0 q1
  go_wp2
  refine bodyPost_ret (v := .tuple #[.agg #[.string z, .slice a2 m m2], .bool true]) (by simp [results, Tryz.results86, go_sem, q0, q1]) rfl ⟨_, rfl, ?_, ?_, ?_⟩
  · exact past_put (past_put hp2 _ _ hne3) _ _ hne3
  · intro b e
    have := hg2 b e
    omega
  · exact (hb3.setCell (by show w.heap.size ≤ w.heap.size + 1; omega) _).setCell (by show w.heap.size ≤ w.heap.size + 1; omega) _

set_option maxRecDepth 100000 in
set_option maxHeartbeats 800000 in
theorem putBack_no (s : ByteArray) (v : Value) (zs : List ByteArray) (n : Int) (w : World) (h : PastAt w v zs) (hn : zs.length ≤ 1048576) (hno : (n != 0) = true ∨ ((n != 0) = false ∧ zs.length = 0)) :
    Calls Tryz.prog 86 #[.agg #[.string s, v], .int .i64 n] w (DeskOut w s zs false) := by
  obtain ⟨W, hW⟩ : ∃ W, W = (w.alloc (.cells #[.string s, v] 27)).alloc (.cells #[.string ⟨#[]⟩, .slice none 0 0] 27) := ⟨_, rfl⟩
  have hWs : W.heap.size = w.heap.size + 2 := by rw [hW]; simp
  have hb : Below w.heap.size w W := by rw [hW]; exact ((Below.refl _ _).alloc (Nat.le_refl _) _).alloc (by simp) _
  have hrow : W.heap[w.heap.size]? = some (.cells #[.string s, v] 27 (0, 0)) := by rw [hW]; exact heap_alloc2_old _ _ _
  have hres : W.heap[w.heap.size + 1]? = some (.cells #[.string ⟨#[]⟩, .slice none 0 0] 27 (0, 0)) := by rw [hW]; exact heap_alloc2_new _ _ _
  have hst := h.below hb
  have c0 := cell_of_row _ _ 0 _ _ _ hrow
  have c1 := cell_of_row _ _ 1 _ _ _ hrow
  have hlt0 : w.heap.size < W.heap.size := by omega
  obtain ⟨a0, m0, hv⟩ := past_value h
  have HCL := copied_any s v zs W hst hn
  obtain ⟨L, hL⟩ : ∃ L, zs.length = L := ⟨_, rfl⟩
  rw [hL] at HCL hv hn hno
  have HW := Lib.hid hW
  have HRES := Lib.hid hres
  have HC := Lib.hid HCL
  clear hres hst h hW hrow HCL hL
  subst hv
  have hlt : (n != 0) = false → (L : Int) - 1 < 0 := by
    intro h9
    rcases hno with h8 | ⟨_, h8⟩
    · rw [h8] at h9
      cases h9
    · omega
  have hin : -9223372036854775808 ≤ (L : Int) - 1 ∧ (L : Int) - 1 ≤ 9223372036854775807 := by omega
  cases hc : (n != 0)
  all_goals
    rw [hc] at hlt hno
    try (have hlt2 := hlt rfl)
    clear hlt hno
    go_enter Tryz.func86, Tryz.ntmps86
    go_wp2_with fail
    rw [← HW.out]
    go_wp2_with (first
      | (go_at_call 39; refine HC.out.mono ?_; rintro e w2 ⟨a2, m2, rfl, hp2, hf2, hb2⟩; have s2 := (hb2.block (w.heap.size + 1) (by show w.heap.size + 1 < W.heap.size; omega)).trans HRES.out; have f0 := frozen_of_row _ _ 0 _ _ s2; have f1 := frozen_of_row _ _ 1 _ _ s2; have m0 := cell_of_row _ _ 0 _ _ _ s2; have m1 := cell_of_row _ _ 1 _ _ _ s2; have S2 := Lib.hid s2; clear s2))
    have hb3 : Below w.heap.size w w2 := hb.trans (hb2.mono hb.size)
    have hne3 : (Value.slice a2 L m2).ownBlock ≠ some (w.heap.size + 1) := by
      intro e
      have := hf2 _ e
      omega
    have q := pair_put S2.out (.string s) (.slice a2 L m2)
    have q0 := cell_of_row _ _ 0 _ _ _ q
    have q1 := cell_of_row _ _ 1 _ _ _ q
    simp at q0 q1
    refine bodyPost_ret (v := .tuple #[.agg #[.string s, .slice a2 L m2], .bool false]) (by simp [results, Tryz.results86, go_sem, q0, q1]) rfl ⟨_, rfl, ?_, ?_, ?_⟩
    · exact past_put (past_put hp2 _ _ hne3) _ _ hne3
    · intro b e
      have := hf2 b e
      omega
    · exact (hb3.setCell (by show w.heap.size ≤ w.heap.size + 1; omega) _).setCell (by show w.heap.size ≤ w.heap.size + 1; omega) _

end Go.Proofs.YtccdfndnjjjgfaaGreatDoor
