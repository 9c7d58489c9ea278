/-
  FnExactDeskDo: for every desk and deed the program's DeskDo returns what the reference's returns, in memory of its own, and leaves the desk as it was. No condition beyond what the given statement itself bears.
-/
import Derived.Test.YtbaakapnbginoaaDoorExt
import Derived.Test.YtbaakapnbginoaaDoorDeskDoImpl
import Derived.Test.YtbaakapnbginoaaDoorOpenDesk
import Derived.Test.YtbaakapnbginoaaDoorOpenDeed
import Derived.Deep.RegionHeld3
import Derived.Deep.DeepCutAuto
import Derived.Test.YtbaakapnbginoaaDoorCards
import Derived.Test.YtbaakapnbginoaaDoorTie
namespace Go.Proofs.YtbaakapnbginoaaDoor.fnExactDeskDo
open Go.ChangeShapes Go.WideShapes Go.ChangeAt Go.RowKit Go.WideMaps Go.WideElems
open Go.ChangeMaps (open_string shut_string)

theorem do_few8 (s : ByteArray) (zs : List ByteArray) (k n : Int) : (deskDo s zs k n).2.1.length ≤ 8 := by
  by_cases h : deskOk s zs = true
  · exact (deskOk_parts (deskOk_do h k n)).2.1
  · unfold deskDo
    rw [if_neg h]
    exact Nat.zero_le _
def lawBoxes (w : World) (s : ByteArray) (v : Value) (k n : Int) : World := (w.alloc (.cells #[.string s, v] 35)).alloc (.cells #[.int .i64 k, .int .i64 n] 36)
theorem boxes_in (w : World) (s : ByteArray) (v : Value) (k n : Int) : Ext w (lawBoxes w s v k n) ∧ (lawBoxes w s v k n).heap.size = w.heap.size + 2 ∧ (lawBoxes w s v k n).heap[w.heap.size]? = some (.cells #[.string s, v] 35 (0, 0)) ∧ (lawBoxes w s v k n).heap[w.heap.size + 1]? = some (.cells #[.int .i64 k, .int .i64 n] 36 (0, 0)) := by
  unfold lawBoxes
  exact ⟨((Ext.refl w).alloc _).alloc _, by simp, heap_alloc2_old _ _ _, heap_alloc2_new _ _ _⟩

set_option maxRecDepth 100000 in
set_option maxHeartbeats 3200000 in
theorem walk_few (s : ByteArray) (v : Value) (zs : List ByteArray) (k n : Int) (w : World) (hw : WaysAt w) (hd : DirsAt w) (h : StrsAt w v zs) (hs : s.size ≤ 1048576) (L : Nat) (HL : Hid (zs.length = L)) (hn2 : L ≤ 1048576) (HZ : Hid (∀ z ∈ zs, z.size ≤ 1048576)) (hkn : -9223372036854775808 ≤ n ∧ n ≤ 9223372036854775807)
    (r : Int) (hr : 0 ≤ r) (HSZ : Hid (∀ W, StrsAt W v zs → Calls Tryd.prog 22 #[.agg #[.string s, v], .int .i64 1048576] W fun e w' => e = .returned (.int .i64 r) ∧ Below W.heap.size W w')) :
    Calls Tryd.prog 5 #[.agg #[.string s, v], .agg #[.int .i64 k, .int .i64 n]] w fun e w' => e = .returned (.bool true) ∧ Below w.heap.size w w' := by
  obtain ⟨x0, hx0⟩ : ∃ x, (deskDo s zs k n).1 = x := ⟨_, rfl⟩
  obtain ⟨y0, hy0⟩ : ∃ x, (deskDo s zs k n).2.1 = x := ⟨_, rfl⟩
  obtain ⟨b0, hb0⟩ : ∃ x, (deskDo s zs k n).2.2 = x := ⟨_, rfl⟩
  have hdo : ∀ (u : Value) (W : World), StrsAt W u zs → Calls Tryd.prog 23 #[.agg #[.string s, u], .agg #[.int .i64 k, .int .i64 n]] W (DeskOut W x0 y0 b0) := fun u W hu => by
    have := specDeskDo s u zs k n W hu hs (by rw [HL.out]; exact hn2) HZ.out hkn
    rwa [hx0, hy0, hb0] at this
  have hdi : ∀ (u : Value) (W : World), PastAt W u zs → WaysAt W → DirsAt W → Calls Tryd.prog 26 #[.agg #[.string s, u], .agg #[.int .i64 k, .int .i64 n]] W (DeskOut W x0 y0 b0) := fun u W hu hww hdd => by
    have := implDeskDo s u zs k n W hu hs (by rw [HL.out]; exact hn2) HZ.out hww hdd
    rwa [hx0, hy0, hb0] at this
  obtain ⟨e0, hW0s, r0, r1⟩ := boxes_in w s v k n
  obtain ⟨W0, hW0⟩ : ∃ W0, lawBoxes w s v k n = W0 := ⟨_, rfl⟩
  rw [hW0] at e0 hW0s r0 r1
  unfold lawBoxes at hW0
  have HW0 := Lib.hid hW0
  have HDO := Lib.hid hdo
  have HDI := Lib.hid hdi
  have hst0 := e0.strs h
  have HST0 := Lib.hid hst0
  have R0 := Lib.hid r0
  have R1 := Lib.hid r1
  have c00 := cell_of_row _ _ 0 _ _ _ r0
  have c01 := cell_of_row _ _ 1 _ _ _ r0
  have HW := Lib.hid (hw.below' e0)
  have HD := Lib.hid (hd.below' e0)
  have hy8 : y0.length ≤ 8 := hy0 ▸ do_few8 s zs k n
  obtain ⟨M, hM⟩ : ∃ M, y0.length = M := ⟨_, rfl⟩
  rw [hM] at hy8
  have HM := Lib.hid hM
  have hbb : (b0 != b0) = false := by cases b0 <;> rfl
  have hb1b : (b0 == b0) = true := by cases b0 <;> rfl
  clear hM hx0 hy0 hb0 hdo hdi hW0 r0 r1 hst0 h hw hd
  go_enter Tryd.func5, Tryd.ntmps5
  go_wp2_with fail
  rw [HW0.out]
  go_upto_region 5 with (first
    | (go_at_call 22; refine (HSZ.out _ HST0.out).mono ?_; rintro e w1 ⟨rfl, hb1⟩; have e1 : Ext W0 w1 := hb1; have r0 := e1.row R0.out; have r1 := e1.row R1.out; have hs1 := e1.size; have c10 := cell_of_row _ _ 0 _ _ _ r0; have c11 := cell_of_row _ _ 1 _ _ _ r0; have d10 := cell_of_row _ _ 0 _ _ _ r1; have d11 := cell_of_row _ _ 1 _ _ _ r1; have R01 := Lib.hid r0; have R11 := Lib.hid r1; clear r0 r1 hb1))
  have hS : ∀ X, Ext w1 X → X.cell? ⟨w.heap.size, 0, none⟩ = some (.string s) ∧ X.cell? ⟨w.heap.size, 1, none⟩ = some v ∧ X.cell? ⟨w.heap.size + 1, 0, none⟩ = some (.int .i64 k) ∧ X.cell? ⟨w.heap.size + 1, 1, none⟩ = some (.int .i64 n) := fun X hX =>
    ⟨cell_of_row _ _ 0 _ _ _ (hX.row R01.out), cell_of_row _ _ 1 _ _ _ (hX.row R01.out), cell_of_row _ _ 0 _ _ _ (hX.row R11.out), cell_of_row _ _ 1 _ _ _ (hX.row R11.out)⟩
  have HS := Lib.hid hS
  have hst : ∀ X, Ext w1 X → StrsAt X v zs := fun X hX => (e1.trans hX).strs HST0.out
  have HST := Lib.hid hst
  clear hS hst
  go_cut [6, 7] (fun p q wx => ∃ N v', p = .pointer (some ⟨N, 0, none⟩) ∧ q = .bool b0 ∧ Hid (BoxB w1.heap.size wx.heap.size wx N x0 v' y0) ∧ Ext w1 wx)
  case first =>
    go_region_held3 (fun w' => w'.cell? ⟨w.heap.size, 0, none⟩ = some (.string s) ∧ w'.cell? ⟨w.heap.size, 1, none⟩ = some v ∧ w'.cell? ⟨w.heap.size + 1, 0, none⟩ = some (.int .i64 k) ∧ w'.cell? ⟨w.heap.size + 1, 1, none⟩ = some (.int .i64 n))
      (exact HS.out _ (by (first | assumption | exact Ext.refl _ | exact (Ext.refl _).drew | (refine Ext.alloc ?_ _; first | assumption | exact Ext.refl _ | exact (Ext.refl _).drew) | (refine Ext.drew ?_; first | assumption | exact Ext.refl _ | exact (Ext.refl _).drew) | (refine Ext.drew ?_; refine Ext.alloc ?_ _; first | assumption | exact Ext.refl _ | exact (Ext.refl _).drew) | (refine Ext.setCell (Ext.setCell ?_ ?_ _) ?_ _ <;> first | assumption | omega | (simp <;> omega)))))
      (first
        | (go_at_call 24; refine (toDesk_past s v zs _ (HST.out _ (by (first | assumption | exact Ext.refl _ | exact (Ext.refl _).drew | (refine Ext.alloc ?_ _; first | assumption | exact Ext.refl _ | exact (Ext.refl _).drew) | (refine Ext.drew ?_; first | assumption | exact Ext.refl _ | exact (Ext.refl _).drew) | (refine Ext.drew ?_; refine Ext.alloc ?_ _; first | assumption | exact Ext.refl _ | exact (Ext.refl _).drew) | (refine Ext.setCell (Ext.setCell ?_ ?_ _) ?_ _ <;> first | assumption | omega | (simp <;> omega))))) L HL.out hn2).mono ?_; rintro e wA ⟨gA, rfl, hpA, hgA, hbA⟩; have eA : Ext w1 wA := Ext.call (by (first | assumption | exact Ext.refl _ | exact (Ext.refl _).drew | (refine Ext.alloc ?_ _; first | assumption | exact Ext.refl _ | exact (Ext.refl _).drew) | (refine Ext.drew ?_; first | assumption | exact Ext.refl _ | exact (Ext.refl _).drew) | (refine Ext.drew ?_; refine Ext.alloc ?_ _; first | assumption | exact Ext.refl _ | exact (Ext.refl _).drew) | (refine Ext.setCell (Ext.setCell ?_ ?_ _) ?_ _ <;> first | assumption | omega | (simp <;> omega)))) hbA; (first | (have hN := box_keep hbA) | (have hN := box_keep_drew hbA) | (have hN := Ext.row hbA hN) | skip); have PA := Lib.hid hpA; have sA := Ext.size eA; clear hpA hbA)
        | (go_at_call 25; refine (toDeed_any k n _).mono ?_; rintro e wB ⟨rfl, hbB⟩; have eB : Ext w1 wB := Ext.call (by (first | assumption | exact Ext.refl _ | exact (Ext.refl _).drew | (refine Ext.alloc ?_ _; first | assumption | exact Ext.refl _ | exact (Ext.refl _).drew) | (refine Ext.drew ?_; first | assumption | exact Ext.refl _ | exact (Ext.refl _).drew) | (refine Ext.drew ?_; refine Ext.alloc ?_ _; first | assumption | exact Ext.refl _ | exact (Ext.refl _).drew) | (refine Ext.setCell (Ext.setCell ?_ ?_ _) ?_ _ <;> first | assumption | omega | (simp <;> omega)))) hbB; (first | (have kA : Ext wA wB := Ext.call (by (first | assumption | exact Ext.refl _ | exact (Ext.refl _).drew | (refine Ext.alloc ?_ _; first | assumption | exact Ext.refl _ | exact (Ext.refl _).drew) | (refine Ext.drew ?_; first | assumption | exact Ext.refl _ | exact (Ext.refl _).drew) | (refine Ext.drew ?_; refine Ext.alloc ?_ _; first | assumption | exact Ext.refl _ | exact (Ext.refl _).drew) | (refine Ext.setCell (Ext.setCell ?_ ?_ _) ?_ _ <;> first | assumption | omega | (simp <;> omega)))) hbB) | skip); (first | (have hN := box_keep hbB) | (have hN := box_keep_drew hbB) | (have hN := Ext.row hbB hN) | skip); have sB := Ext.size eB; clear hbB)
        | (go_at_call 23; refine (HDO.out _ _ (Ext.strs (by (first | assumption | exact Ext.refl _ | exact (Ext.refl _).drew | (refine Ext.alloc ?_ _; first | assumption | exact Ext.refl _ | exact (Ext.refl _).drew) | (refine Ext.drew ?_; first | assumption | exact Ext.refl _ | exact (Ext.refl _).drew) | (refine Ext.drew ?_; refine Ext.alloc ?_ _; first | assumption | exact Ext.refl _ | exact (Ext.refl _).drew) | (refine Ext.setCell (Ext.setCell ?_ ?_ _) ?_ _ <;> first | assumption | omega | (simp <;> omega)))) PA.out.strs)).mono ?_; rintro e wC ⟨vC, rfl, hpC, hfC, hbC⟩; obtain ⟨aC, cC, hvC⟩ := past_value hpC; subst hvC; have gC := fresh_ext (show Ext w1 _ by (first | assumption | exact Ext.refl _ | exact (Ext.refl _).drew | (refine Ext.alloc ?_ _; first | assumption | exact Ext.refl _ | exact (Ext.refl _).drew) | (refine Ext.drew ?_; first | assumption | exact Ext.refl _ | exact (Ext.refl _).drew) | (refine Ext.drew ?_; refine Ext.alloc ?_ _; first | assumption | exact Ext.refl _ | exact (Ext.refl _).drew) | (refine Ext.setCell (Ext.setCell ?_ ?_ _) ?_ _ <;> first | assumption | omega | (simp <;> omega)))) hfC; have eC : Ext w1 wC := Ext.call (by (first | assumption | exact Ext.refl _ | exact (Ext.refl _).drew | (refine Ext.alloc ?_ _; first | assumption | exact Ext.refl _ | exact (Ext.refl _).drew) | (refine Ext.drew ?_; first | assumption | exact Ext.refl _ | exact (Ext.refl _).drew) | (refine Ext.drew ?_; refine Ext.alloc ?_ _; first | assumption | exact Ext.refl _ | exact (Ext.refl _).drew) | (refine Ext.setCell (Ext.setCell ?_ ?_ _) ?_ _ <;> first | assumption | omega | (simp <;> omega)))) hbC; (first | (have hN := box_keep hbC; have nN := box_ne hfC) | (have hN := box_keep_drew hbC; have nN := box_ne_drew hfC) | (have nN := fresh_ne hfC hN; have hN := Ext.row hbC hN) | skip); have PC := Lib.hid hpC; have FC := Lib.hid gC; have sC := Ext.size eC; (first | (have zN := frozen_of_row _ _ 0 _ _ hN; have zN1 := frozen_of_row _ _ 1 _ _ hN; have yN := cell_of_row _ _ 0 _ _ _ hN; have yN1 := cell_of_row _ _ 1 _ _ _ hN; have HN := Lib.hid hN; clear hN) | skip); clear hpC hfC hbC gC))
    all_goals
      go_wp2_with fail
      go_meet
      first
        | exact ⟨_, _, rfl, rfl, box_new PC.out FC.out sC, by (first | assumption | exact Ext.refl _ | exact (Ext.refl _).drew | (refine Ext.alloc ?_ _; first | assumption | exact Ext.refl _ | exact (Ext.refl _).drew) | (refine Ext.drew ?_; first | assumption | exact Ext.refl _ | exact (Ext.refl _).drew) | (refine Ext.drew ?_; refine Ext.alloc ?_ _; first | assumption | exact Ext.refl _ | exact (Ext.refl _).drew) | (refine Ext.setCell (Ext.setCell ?_ ?_ _) ?_ _ <;> first | assumption | omega | (simp <;> omega)))⟩
        | exact ⟨_, _, rfl, rfl, box_set HN.out PC.out FC.out nN (by first | omega | (simp <;> omega)), by (first | assumption | exact Ext.refl _ | exact (Ext.refl _).drew | (refine Ext.alloc ?_ _; first | assumption | exact Ext.refl _ | exact (Ext.refl _).drew) | (refine Ext.drew ?_; first | assumption | exact Ext.refl _ | exact (Ext.refl _).drew) | (refine Ext.drew ?_; refine Ext.alloc ?_ _; first | assumption | exact Ext.refl _ | exact (Ext.refl _).drew) | (refine Ext.setCell (Ext.setCell ?_ ?_ _) ?_ _ <;> first | assumption | omega | (simp <;> omega)))⟩
  case rest =>
    obtain ⟨wa, rfl⟩ : ∃ wa : World, wa = wc := ⟨_, rfl⟩
    obtain ⟨N, v0, rfl, rfl, HB0, ea⟩ := hcut
    obtain ⟨a0, q0, hv0⟩ := past_slice HB0.out.past HM.out
    subst hv0
    have sa := ea.size
    obtain ⟨ca0, ca1, da0, da1⟩ := HS.out wa ea
    go_upto_region 7 with (first
      | (go_at_call 24; refine (toDesk_past s v zs _ (HST.out _ ea) L HL.out hn2).mono ?_; rintro e w2 ⟨g2, rfl, hp2, hg2, hb2⟩; have e2 : Ext wa w2 := hb2; have P2 := Lib.hid hp2; have s2 := e2.size; clear hp2 hb2))
    have hbx := box_new (x := s) P2.out (Fresh.slice hg2) s2
    obtain ⟨w3, hw3⟩ : ∃ w3, w2.alloc (.cells #[.string s, .slice (some ⟨g2, 0, none⟩) L L] 38) = w3 := ⟨_, rfl⟩
    have e3 : Ext wa w3 := hw3 ▸ e2.alloc _
    rw [hw3] at hbx ⊢
    obtain ⟨M2, hM2⟩ : ∃ M2, w2.heap.size = M2 := ⟨_, rfl⟩
    rw [hM2] at hbx ⊢
    have BX := Lib.hid hbx
    have s3 := e3.size
    have hS7 : ∀ X, Ext w3 X → X.cell? ⟨M2, 0, none⟩ = some (.string s) ∧ X.cell? ⟨M2, 1, none⟩ = some (.slice (some ⟨g2, 0, none⟩) L L) ∧ X.cell? ⟨w.heap.size + 1, 0, none⟩ = some (.int .i64 k) ∧ X.cell? ⟨w.heap.size + 1, 1, none⟩ = some (.int .i64 n) := fun X hX =>
      ⟨(BX.out.ext hX).cells.1, (BX.out.ext hX).cells.2, (HS.out X ((ea.trans e3).trans hX)).2.2.1, (HS.out X ((ea.trans e3).trans hX)).2.2.2⟩
    have HS7 := Lib.hid hS7
    have HP7 : Hid (∀ X, Ext w3 X → PastAt X (.slice (some ⟨g2, 0, none⟩) L L) zs) := fun X hX => hX.past BX.out.past
    have HW7 : Hid (∀ X, Ext w3 X → WaysAt X) := fun X hX => HW.out.below' (e1.trans ((ea.trans e3).trans hX))
    have HD7 : Hid (∀ X, Ext w3 X → DirsAt X) := fun X hX => HD.out.below' (e1.trans ((ea.trans e3).trans hX))
    clear hS7 hw3 hbx
    go_cut [9, 10] (fun p q wx => ∃ N v', p = .pointer (some ⟨N, 0, none⟩) ∧ q = .bool b0 ∧ Hid (BoxB w3.heap.size wx.heap.size wx N x0 v' y0) ∧ Ext w3 wx)
    case first =>
      go_region_held3 (fun w' => w'.cell? ⟨M2, 0, none⟩ = some (.string s) ∧ w'.cell? ⟨M2, 1, none⟩ = some (.slice (some ⟨g2, 0, none⟩) L L) ∧ w'.cell? ⟨w.heap.size + 1, 0, none⟩ = some (.int .i64 k) ∧ w'.cell? ⟨w.heap.size + 1, 1, none⟩ = some (.int .i64 n))
        (exact HS7.out _ (by (first | assumption | exact Ext.refl _ | exact (Ext.refl _).drew | (refine Ext.alloc ?_ _; first | assumption | exact Ext.refl _ | exact (Ext.refl _).drew) | (refine Ext.drew ?_; first | assumption | exact Ext.refl _ | exact (Ext.refl _).drew) | (refine Ext.drew ?_; refine Ext.alloc ?_ _; first | assumption | exact Ext.refl _ | exact (Ext.refl _).drew) | (refine Ext.setCell (Ext.setCell ?_ ?_ _) ?_ _ <;> first | assumption | omega | (simp <;> omega)))))
        (first
        | (go_at_call 25; refine (toDeed_any k n _).mono ?_; rintro e wB ⟨rfl, hbB⟩; have eB : Ext w3 wB := Ext.call (by (first | assumption | exact Ext.refl _ | exact (Ext.refl _).drew | (refine Ext.alloc ?_ _; first | assumption | exact Ext.refl _ | exact (Ext.refl _).drew) | (refine Ext.drew ?_; first | assumption | exact Ext.refl _ | exact (Ext.refl _).drew) | (refine Ext.drew ?_; refine Ext.alloc ?_ _; first | assumption | exact Ext.refl _ | exact (Ext.refl _).drew) | (refine Ext.setCell (Ext.setCell ?_ ?_ _) ?_ _ <;> first | assumption | omega | (simp <;> omega)))) hbB; (first | (have kA : Ext wA wB := Ext.call (by (first | assumption | exact Ext.refl _ | exact (Ext.refl _).drew | (refine Ext.alloc ?_ _; first | assumption | exact Ext.refl _ | exact (Ext.refl _).drew) | (refine Ext.drew ?_; first | assumption | exact Ext.refl _ | exact (Ext.refl _).drew) | (refine Ext.drew ?_; refine Ext.alloc ?_ _; first | assumption | exact Ext.refl _ | exact (Ext.refl _).drew) | (refine Ext.setCell (Ext.setCell ?_ ?_ _) ?_ _ <;> first | assumption | omega | (simp <;> omega)))) hbB) | skip); (first | (have hN := box_keep hbB) | (have hN := box_keep_drew hbB) | (have hN := Ext.row hbB hN) | skip); have sB := Ext.size eB; clear hbB)
          | (go_at_call 26; refine (HDI.out _ _ (HP7.out _ (by (first | assumption | exact Ext.refl _ | exact (Ext.refl _).drew | (refine Ext.alloc ?_ _; first | assumption | exact Ext.refl _ | exact (Ext.refl _).drew) | (refine Ext.drew ?_; first | assumption | exact Ext.refl _ | exact (Ext.refl _).drew) | (refine Ext.drew ?_; refine Ext.alloc ?_ _; first | assumption | exact Ext.refl _ | exact (Ext.refl _).drew) | (refine Ext.setCell (Ext.setCell ?_ ?_ _) ?_ _ <;> first | assumption | omega | (simp <;> omega))))) (HW7.out _ (by (first | assumption | exact Ext.refl _ | exact (Ext.refl _).drew | (refine Ext.alloc ?_ _; first | assumption | exact Ext.refl _ | exact (Ext.refl _).drew) | (refine Ext.drew ?_; first | assumption | exact Ext.refl _ | exact (Ext.refl _).drew) | (refine Ext.drew ?_; refine Ext.alloc ?_ _; first | assumption | exact Ext.refl _ | exact (Ext.refl _).drew) | (refine Ext.setCell (Ext.setCell ?_ ?_ _) ?_ _ <;> first | assumption | omega | (simp <;> omega))))) (HD7.out _ (by (first | assumption | exact Ext.refl _ | exact (Ext.refl _).drew | (refine Ext.alloc ?_ _; first | assumption | exact Ext.refl _ | exact (Ext.refl _).drew) | (refine Ext.drew ?_; first | assumption | exact Ext.refl _ | exact (Ext.refl _).drew) | (refine Ext.drew ?_; refine Ext.alloc ?_ _; first | assumption | exact Ext.refl _ | exact (Ext.refl _).drew) | (refine Ext.setCell (Ext.setCell ?_ ?_ _) ?_ _ <;> first | assumption | omega | (simp <;> omega)))))).mono ?_; rintro e wC ⟨vC, rfl, hpC, hfC, hbC⟩; obtain ⟨aC, cC, hvC⟩ := past_value hpC; subst hvC; have gC := fresh_ext (show Ext w3 _ by (first | assumption | exact Ext.refl _ | exact (Ext.refl _).drew | (refine Ext.alloc ?_ _; first | assumption | exact Ext.refl _ | exact (Ext.refl _).drew) | (refine Ext.drew ?_; first | assumption | exact Ext.refl _ | exact (Ext.refl _).drew) | (refine Ext.drew ?_; refine Ext.alloc ?_ _; first | assumption | exact Ext.refl _ | exact (Ext.refl _).drew) | (refine Ext.setCell (Ext.setCell ?_ ?_ _) ?_ _ <;> first | assumption | omega | (simp <;> omega)))) hfC; have eC : Ext w3 wC := Ext.call (by (first | assumption | exact Ext.refl _ | exact (Ext.refl _).drew | (refine Ext.alloc ?_ _; first | assumption | exact Ext.refl _ | exact (Ext.refl _).drew) | (refine Ext.drew ?_; first | assumption | exact Ext.refl _ | exact (Ext.refl _).drew) | (refine Ext.drew ?_; refine Ext.alloc ?_ _; first | assumption | exact Ext.refl _ | exact (Ext.refl _).drew) | (refine Ext.setCell (Ext.setCell ?_ ?_ _) ?_ _ <;> first | assumption | omega | (simp <;> omega)))) hbC; (first | (have hN := box_keep hbC; have nN := box_ne hfC) | (have hN := box_keep_drew hbC; have nN := box_ne_drew hfC) | (have nN := fresh_ne hfC hN; have hN := Ext.row hbC hN) | skip); have PC := Lib.hid hpC; have FC := Lib.hid gC; have sC := Ext.size eC; (first | (have zN := frozen_of_row _ _ 0 _ _ hN; have zN1 := frozen_of_row _ _ 1 _ _ hN; have yN := cell_of_row _ _ 0 _ _ _ hN; have yN1 := cell_of_row _ _ 1 _ _ _ hN; have HN := Lib.hid hN; clear hN) | skip); clear hpC hfC hbC gC))
      all_goals
        go_wp2_with fail
        go_meet
        first
          | exact ⟨_, _, rfl, rfl, box_new PC.out FC.out sC, by (first | assumption | exact Ext.refl _ | exact (Ext.refl _).drew | (refine Ext.alloc ?_ _; first | assumption | exact Ext.refl _ | exact (Ext.refl _).drew) | (refine Ext.drew ?_; first | assumption | exact Ext.refl _ | exact (Ext.refl _).drew) | (refine Ext.drew ?_; refine Ext.alloc ?_ _; first | assumption | exact Ext.refl _ | exact (Ext.refl _).drew) | (refine Ext.setCell (Ext.setCell ?_ ?_ _) ?_ _ <;> first | assumption | omega | (simp <;> omega)))⟩
          | exact ⟨_, _, rfl, rfl, box_set HN.out PC.out FC.out nN (by first | omega | (simp <;> omega)), by (first | assumption | exact Ext.refl _ | exact (Ext.refl _).drew | (refine Ext.alloc ?_ _; first | assumption | exact Ext.refl _ | exact (Ext.refl _).drew) | (refine Ext.drew ?_; first | assumption | exact Ext.refl _ | exact (Ext.refl _).drew) | (refine Ext.drew ?_; refine Ext.alloc ?_ _; first | assumption | exact Ext.refl _ | exact (Ext.refl _).drew) | (refine Ext.setCell (Ext.setCell ?_ ?_ _) ?_ _ <;> first | assumption | omega | (simp <;> omega)))⟩
    case rest =>
      obtain ⟨wb, rfl⟩ : ∃ wb : World, wb = wc := ⟨_, rfl⟩
      obtain ⟨N3, v3, rfl, rfl, HB3, eb⟩ := hcut
      obtain ⟨a3, q3, hv3⟩ := past_slice HB3.out.past HM.out
      subst hv3
      have eab := e3.trans eb
      have Z0 := Lib.hid (HB0.out.ext eab)
      obtain ⟨zb0, zb1⟩ := Z0.out.cells
      obtain ⟨gb0, gb1⟩ := HB3.out.cells
      have sb := eb.size
      go_upto_region 10 with (first
        | (go_at_call 27; refine (eqDesk_same x0 _ _ y0 _ HB3.out.past.strs Z0.out.past.strs (by rw [HM.out]; omega)).mono ?_; rintro e w5 ⟨rfl, hb5⟩; have e5 : Ext wb w5 := hb5; clear hb5))
      have hS10 : ∀ X, Ext w5 X → X.cell? ⟨M2, 0, none⟩ = some (.string s) ∧ X.cell? ⟨M2, 1, none⟩ = some (.slice (some ⟨g2, 0, none⟩) L L) ∧ X.cell? ⟨w.heap.size, 0, none⟩ = some (.string s) ∧ X.cell? ⟨w.heap.size, 1, none⟩ = some v := fun X hX =>
        ⟨(HS7.out X ((eb.trans e5).trans hX)).1, (HS7.out X ((eb.trans e5).trans hX)).2.1, (HS.out X (((ea.trans eab).trans e5).trans hX)).1, (HS.out X (((ea.trans eab).trans e5).trans hX)).2.1⟩
      have HS10 := Lib.hid hS10
      have HT10 : Hid (∀ X, Ext w5 X → StrsAt X v zs) := fun X hX => HST.out X (((ea.trans eab).trans e5).trans hX)
      have HP10 : Hid (∀ X, Ext w5 X → PastAt X (.slice (some ⟨g2, 0, none⟩) L L) zs) := fun X hX => HP7.out X ((eb.trans e5).trans hX)
      clear hS10
      go_cut [51] (fun q wx => q = .bool false ∧ Ext w5 wx)
      case first =>
        go_region_held3 (fun w' => w'.cell? ⟨M2, 0, none⟩ = some (.string s) ∧ w'.cell? ⟨M2, 1, none⟩ = some (.slice (some ⟨g2, 0, none⟩) L L) ∧ w'.cell? ⟨w.heap.size, 0, none⟩ = some (.string s) ∧ w'.cell? ⟨w.heap.size, 1, none⟩ = some v)
          (exact HS10.out _ (by (first | assumption | exact Ext.refl _ | exact (Ext.refl _).drew | (refine Ext.alloc ?_ _; first | assumption | exact Ext.refl _ | exact (Ext.refl _).drew) | (refine Ext.drew ?_; first | assumption | exact Ext.refl _ | exact (Ext.refl _).drew) | (refine Ext.drew ?_; refine Ext.alloc ?_ _; first | assumption | exact Ext.refl _ | exact (Ext.refl _).drew) | (refine Ext.setCell (Ext.setCell ?_ ?_ _) ?_ _ <;> first | assumption | omega | (simp <;> omega)))))
          (first
            | (go_at_call 24; refine (toDesk_past s v zs _ (HT10.out _ (by (first | assumption | exact Ext.refl _ | exact (Ext.refl _).drew | (refine Ext.alloc ?_ _; first | assumption | exact Ext.refl _ | exact (Ext.refl _).drew) | (refine Ext.drew ?_; first | assumption | exact Ext.refl _ | exact (Ext.refl _).drew) | (refine Ext.drew ?_; refine Ext.alloc ?_ _; first | assumption | exact Ext.refl _ | exact (Ext.refl _).drew) | (refine Ext.setCell (Ext.setCell ?_ ?_ _) ?_ _ <;> first | assumption | omega | (simp <;> omega))))) L HL.out hn2).mono ?_; rintro e wA ⟨gA, rfl, hpA, hgA, hbA⟩; have eA : Ext w5 wA := Ext.call (by (first | assumption | exact Ext.refl _ | exact (Ext.refl _).drew | (refine Ext.alloc ?_ _; first | assumption | exact Ext.refl _ | exact (Ext.refl _).drew) | (refine Ext.drew ?_; first | assumption | exact Ext.refl _ | exact (Ext.refl _).drew) | (refine Ext.drew ?_; refine Ext.alloc ?_ _; first | assumption | exact Ext.refl _ | exact (Ext.refl _).drew) | (refine Ext.setCell (Ext.setCell ?_ ?_ _) ?_ _ <;> first | assumption | omega | (simp <;> omega)))) hbA; have PA := Lib.hid hpA; clear hpA hbA)
            | (go_at_call 27; refine (eqDesk_same s _ _ zs _ (HP10.out _ (by (first | assumption | exact Ext.refl _ | exact (Ext.refl _).drew | (refine Ext.alloc ?_ _; first | assumption | exact Ext.refl _ | exact (Ext.refl _).drew) | (refine Ext.drew ?_; first | assumption | exact Ext.refl _ | exact (Ext.refl _).drew) | (refine Ext.drew ?_; refine Ext.alloc ?_ _; first | assumption | exact Ext.refl _ | exact (Ext.refl _).drew) | (refine Ext.setCell (Ext.setCell ?_ ?_ _) ?_ _ <;> first | assumption | omega | (simp <;> omega))))).strs PA.out.strs (by rw [HL.out]; omega)).mono ?_; rintro e wB ⟨rfl, hbB⟩; have eB : Ext w5 wB := Ext.call (by (first | assumption | exact Ext.refl _ | exact (Ext.refl _).drew | (refine Ext.alloc ?_ _; first | assumption | exact Ext.refl _ | exact (Ext.refl _).drew) | (refine Ext.drew ?_; first | assumption | exact Ext.refl _ | exact (Ext.refl _).drew) | (refine Ext.drew ?_; refine Ext.alloc ?_ _; first | assumption | exact Ext.refl _ | exact (Ext.refl _).drew) | (refine Ext.setCell (Ext.setCell ?_ ?_ _) ?_ _ <;> first | assumption | omega | (simp <;> omega)))) hbB; clear hbB))
        all_goals
          go_wp2_with fail
          go_meet
          exact ⟨rfl, by (first | assumption | exact Ext.refl _ | exact (Ext.refl _).drew | (refine Ext.alloc ?_ _; first | assumption | exact Ext.refl _ | exact (Ext.refl _).drew) | (refine Ext.drew ?_; first | assumption | exact Ext.refl _ | exact (Ext.refl _).drew) | (refine Ext.drew ?_; refine Ext.alloc ?_ _; first | assumption | exact Ext.refl _ | exact (Ext.refl _).drew) | (refine Ext.setCell (Ext.setCell ?_ ?_ _) ?_ _ <;> first | assumption | omega | (simp <;> omega)))⟩
      case rest =>
        obtain ⟨wd, rfl⟩ : ∃ wd : World, wd = wc := ⟨_, rfl⟩
        obtain ⟨rfl, ed⟩ := hcut
        have ebd := e5.trans ed
        have X0 := Lib.hid (BX.out.ext (eb.trans ebd))
        obtain ⟨xd0, xd1⟩ := X0.out.cells
        have ed1 := (ea.trans eab).trans ebd
        have sd := ebd.size
        have sd1 := ed1.size
        go_upto_region 24 with (first
          | (go_at_call 28; first
              | (have hq := e7; refine (markDesk_one x0 _ y0 _ G7.out.past M HM.out (by omega)).mono ?_; rintro e w8 ⟨rfl, hp8, hb8⟩; have e8 : Ext w1 w8 := e7.but hb8 G7.out.fresh (by omega); have Z8 := Lib.hid (Z7.out.below (hb8.below G7.out.fresh (by omega)) (by omega)); have G8 := Lib.hid (G7.out.own hb8 hp8); obtain ⟨g80, g81⟩ := G8.out.cells; clear hp8 hb8)
              | (refine (markDesk_one s _ zs _ X0.out.past L HL.out (by omega)).mono ?_; rintro e w6 ⟨rfl, hp6, hb6⟩; have e6 : Ext w1 w6 := ed1.but hb6 X0.out.fresh (by omega); have s6 := hb6.size; have Z6 := Lib.hid ((Z0.out.ext ebd).below (hb6.below X0.out.fresh (by omega)) (by omega)); have G6 := Lib.hid ((HB3.out.ext ebd).but hb6 (fun b hb => X0.out.vlt b hb)); obtain ⟨z60, z61⟩ := Z6.out.cells; obtain ⟨g60, g61⟩ := G6.out.cells; clear hp6 hb6))
          | (go_at_call 27; refine (eqDesk_same x0 _ _ y0 _ G6.out.past.strs Z6.out.past.strs (by rw [HM.out]; omega)).mono ?_; rintro e w7 ⟨rfl, hb7⟩; have e7 : Ext w1 w7 := Ext.call e6 hb7; have s7 := hb7.size; have Z7 := Lib.hid (Z6.out.ext hb7); have G7 := Lib.hid (G6.out.ext hb7); obtain ⟨g70, g71⟩ := G7.out.cells; clear hb7)
          | (go_at_call 29; refine (heldDesk_one x0 _ M _ G8.out.past (by omega)).mono ?_; rintro e w9 ⟨rfl, hb9⟩; have e9 : Ext w1 w9 := Ext.call e8 hb9; have Z9 := Lib.hid (Z8.out.ext hb9); have G9 := Lib.hid (G8.out.ext hb9); clear hb9))
        have hS24 : ∀ X, Ext w9 X → X.cell? ⟨w.heap.size, 0, none⟩ = some (.string s) ∧ X.cell? ⟨w.heap.size, 1, none⟩ = some v ∧ X.cell? ⟨w.heap.size + 1, 0, none⟩ = some (.int .i64 k) ∧ X.cell? ⟨w.heap.size + 1, 1, none⟩ = some (.int .i64 n) := fun X hX => HS.out X (e9.trans hX)
        have HS24 := Lib.hid hS24
        have HT24 : Hid (∀ X, Ext w9 X → StrsAt X v zs) := fun X hX => HST.out X (e9.trans hX)
        have HW24 : Hid (∀ X, Ext w9 X → WaysAt X) := fun X hX => HW.out.below' (e1.trans (e9.trans hX))
        have HD24 : Hid (∀ X, Ext w9 X → DirsAt X) := fun X hX => HD.out.below' (e1.trans (e9.trans hX))
        clear hS24
        go_cut [14, 15] (fun p q wx => ∃ N v', p = .pointer (some ⟨N, 0, none⟩) ∧ q = .bool b0 ∧ Hid (BoxB w9.heap.size wx.heap.size wx N x0 v' y0) ∧ Ext w9 wx)
        case first =>
          go_region_held3 (fun w' => w'.cell? ⟨w.heap.size, 0, none⟩ = some (.string s) ∧ w'.cell? ⟨w.heap.size, 1, none⟩ = some v ∧ w'.cell? ⟨w.heap.size + 1, 0, none⟩ = some (.int .i64 k) ∧ w'.cell? ⟨w.heap.size + 1, 1, none⟩ = some (.int .i64 n))
            (exact HS24.out _ (by (first | assumption | exact Ext.refl _ | exact (Ext.refl _).drew | (refine Ext.alloc ?_ _; first | assumption | exact Ext.refl _ | exact (Ext.refl _).drew) | (refine Ext.drew ?_; first | assumption | exact Ext.refl _ | exact (Ext.refl _).drew) | (refine Ext.drew ?_; refine Ext.alloc ?_ _; first | assumption | exact Ext.refl _ | exact (Ext.refl _).drew) | (refine Ext.setCell (Ext.setCell ?_ ?_ _) ?_ _ <;> first | assumption | omega | (simp <;> omega)))))
            (first
        | (go_at_call 24; refine (toDesk_past s v zs _ (HT24.out _ (by (first | assumption | exact Ext.refl _ | exact (Ext.refl _).drew | (refine Ext.alloc ?_ _; first | assumption | exact Ext.refl _ | exact (Ext.refl _).drew) | (refine Ext.drew ?_; first | assumption | exact Ext.refl _ | exact (Ext.refl _).drew) | (refine Ext.drew ?_; refine Ext.alloc ?_ _; first | assumption | exact Ext.refl _ | exact (Ext.refl _).drew) | (refine Ext.setCell (Ext.setCell ?_ ?_ _) ?_ _ <;> first | assumption | omega | (simp <;> omega))))) L HL.out hn2).mono ?_; rintro e wA ⟨gA, rfl, hpA, hgA, hbA⟩; have eA : Ext w9 wA := Ext.call (by (first | assumption | exact Ext.refl _ | exact (Ext.refl _).drew | (refine Ext.alloc ?_ _; first | assumption | exact Ext.refl _ | exact (Ext.refl _).drew) | (refine Ext.drew ?_; first | assumption | exact Ext.refl _ | exact (Ext.refl _).drew) | (refine Ext.drew ?_; refine Ext.alloc ?_ _; first | assumption | exact Ext.refl _ | exact (Ext.refl _).drew) | (refine Ext.setCell (Ext.setCell ?_ ?_ _) ?_ _ <;> first | assumption | omega | (simp <;> omega)))) hbA; (first | (have hN := box_keep hbA) | (have hN := box_keep_drew hbA) | (have hN := Ext.row hbA hN) | skip); have PA := Lib.hid hpA; have sA := Ext.size eA; clear hpA hbA)
              | (go_at_call 25; refine (toDeed_any k n _).mono ?_; rintro e wB ⟨rfl, hbB⟩; have eB : Ext w9 wB := Ext.call (by (first | assumption | exact Ext.refl _ | exact (Ext.refl _).drew | (refine Ext.alloc ?_ _; first | assumption | exact Ext.refl _ | exact (Ext.refl _).drew) | (refine Ext.drew ?_; first | assumption | exact Ext.refl _ | exact (Ext.refl _).drew) | (refine Ext.drew ?_; refine Ext.alloc ?_ _; first | assumption | exact Ext.refl _ | exact (Ext.refl _).drew) | (refine Ext.setCell (Ext.setCell ?_ ?_ _) ?_ _ <;> first | assumption | omega | (simp <;> omega)))) hbB; (first | (have kA : Ext wA wB := Ext.call (by (first | assumption | exact Ext.refl _ | exact (Ext.refl _).drew | (refine Ext.alloc ?_ _; first | assumption | exact Ext.refl _ | exact (Ext.refl _).drew) | (refine Ext.drew ?_; first | assumption | exact Ext.refl _ | exact (Ext.refl _).drew) | (refine Ext.drew ?_; refine Ext.alloc ?_ _; first | assumption | exact Ext.refl _ | exact (Ext.refl _).drew) | (refine Ext.setCell (Ext.setCell ?_ ?_ _) ?_ _ <;> first | assumption | omega | (simp <;> omega)))) hbB) | skip); (first | (have hN := box_keep hbB) | (have hN := box_keep_drew hbB) | (have hN := Ext.row hbB hN) | skip); have sB := Ext.size eB; clear hbB)
              | (go_at_call 26; refine (HDI.out _ _ (Ext.past (by (first | assumption | exact Ext.refl _ | exact (Ext.refl _).drew | (refine Ext.alloc ?_ _; first | assumption | exact Ext.refl _ | exact (Ext.refl _).drew) | (refine Ext.drew ?_; first | assumption | exact Ext.refl _ | exact (Ext.refl _).drew) | (refine Ext.drew ?_; refine Ext.alloc ?_ _; first | assumption | exact Ext.refl _ | exact (Ext.refl _).drew) | (refine Ext.setCell (Ext.setCell ?_ ?_ _) ?_ _ <;> first | assumption | omega | (simp <;> omega)))) PA.out) (HW24.out _ (by (first | assumption | exact Ext.refl _ | exact (Ext.refl _).drew | (refine Ext.alloc ?_ _; first | assumption | exact Ext.refl _ | exact (Ext.refl _).drew) | (refine Ext.drew ?_; first | assumption | exact Ext.refl _ | exact (Ext.refl _).drew) | (refine Ext.drew ?_; refine Ext.alloc ?_ _; first | assumption | exact Ext.refl _ | exact (Ext.refl _).drew) | (refine Ext.setCell (Ext.setCell ?_ ?_ _) ?_ _ <;> first | assumption | omega | (simp <;> omega))))) (HD24.out _ (by (first | assumption | exact Ext.refl _ | exact (Ext.refl _).drew | (refine Ext.alloc ?_ _; first | assumption | exact Ext.refl _ | exact (Ext.refl _).drew) | (refine Ext.drew ?_; first | assumption | exact Ext.refl _ | exact (Ext.refl _).drew) | (refine Ext.drew ?_; refine Ext.alloc ?_ _; first | assumption | exact Ext.refl _ | exact (Ext.refl _).drew) | (refine Ext.setCell (Ext.setCell ?_ ?_ _) ?_ _ <;> first | assumption | omega | (simp <;> omega)))))).mono ?_; rintro e wC ⟨vC, rfl, hpC, hfC, hbC⟩; obtain ⟨aC, cC, hvC⟩ := past_value hpC; subst hvC; have gC := fresh_ext (show Ext w9 _ by (first | assumption | exact Ext.refl _ | exact (Ext.refl _).drew | (refine Ext.alloc ?_ _; first | assumption | exact Ext.refl _ | exact (Ext.refl _).drew) | (refine Ext.drew ?_; first | assumption | exact Ext.refl _ | exact (Ext.refl _).drew) | (refine Ext.drew ?_; refine Ext.alloc ?_ _; first | assumption | exact Ext.refl _ | exact (Ext.refl _).drew) | (refine Ext.setCell (Ext.setCell ?_ ?_ _) ?_ _ <;> first | assumption | omega | (simp <;> omega)))) hfC; have eC : Ext w9 wC := Ext.call (by (first | assumption | exact Ext.refl _ | exact (Ext.refl _).drew | (refine Ext.alloc ?_ _; first | assumption | exact Ext.refl _ | exact (Ext.refl _).drew) | (refine Ext.drew ?_; first | assumption | exact Ext.refl _ | exact (Ext.refl _).drew) | (refine Ext.drew ?_; refine Ext.alloc ?_ _; first | assumption | exact Ext.refl _ | exact (Ext.refl _).drew) | (refine Ext.setCell (Ext.setCell ?_ ?_ _) ?_ _ <;> first | assumption | omega | (simp <;> omega)))) hbC; (first | (have hN := box_keep hbC; have nN := box_ne hfC) | (have hN := box_keep_drew hbC; have nN := box_ne_drew hfC) | (have nN := fresh_ne hfC hN; have hN := Ext.row hbC hN) | skip); have PC := Lib.hid hpC; have FC := Lib.hid gC; have sC := Ext.size eC; (first | (have zN := frozen_of_row _ _ 0 _ _ hN; have zN1 := frozen_of_row _ _ 1 _ _ hN; have yN := cell_of_row _ _ 0 _ _ _ hN; have yN1 := cell_of_row _ _ 1 _ _ _ hN; have HN := Lib.hid hN; clear hN) | skip); clear hpC hfC hbC gC))
          all_goals
            go_wp2_with fail
            go_meet
            first
              | exact ⟨_, _, rfl, rfl, box_new PC.out FC.out sC, by (first | assumption | exact Ext.refl _ | exact (Ext.refl _).drew | (refine Ext.alloc ?_ _; first | assumption | exact Ext.refl _ | exact (Ext.refl _).drew) | (refine Ext.drew ?_; first | assumption | exact Ext.refl _ | exact (Ext.refl _).drew) | (refine Ext.drew ?_; refine Ext.alloc ?_ _; first | assumption | exact Ext.refl _ | exact (Ext.refl _).drew) | (refine Ext.setCell (Ext.setCell ?_ ?_ _) ?_ _ <;> first | assumption | omega | (simp <;> omega)))⟩
              | exact ⟨_, _, rfl, rfl, box_set HN.out PC.out FC.out nN (by first | omega | (simp <;> omega)), by (first | assumption | exact Ext.refl _ | exact (Ext.refl _).drew | (refine Ext.alloc ?_ _; first | assumption | exact Ext.refl _ | exact (Ext.refl _).drew) | (refine Ext.drew ?_; first | assumption | exact Ext.refl _ | exact (Ext.refl _).drew) | (refine Ext.drew ?_; refine Ext.alloc ?_ _; first | assumption | exact Ext.refl _ | exact (Ext.refl _).drew) | (refine Ext.setCell (Ext.setCell ?_ ?_ _) ?_ _ <;> first | assumption | omega | (simp <;> omega)))⟩
        case rest =>
          obtain ⟨we, rfl⟩ : ∃ we : World, we = wc := ⟨_, rfl⟩
          obtain ⟨N4, v4, rfl, rfl, HB4, ee⟩ := hcut
          obtain ⟨a4, q4, hv4⟩ := past_slice HB4.out.past HM.out
          subst hv4
          have Ze := Lib.hid (Z9.out.ext ee)
          have Ge := Lib.hid (G9.out.ext ee)
          obtain ⟨ze0, ze1⟩ := Ze.out.cells
          obtain ⟨he0, he1⟩ := HB4.out.cells
          go_wp2_with (first
            | (go_at_call 27; refine (eqDesk_same x0 _ _ y0 _ HB4.out.past.strs Ze.out.past.strs (by rw [HM.out]; omega)).mono ?_; rintro e wf ⟨rfl, hbf⟩; have ef : Ext w1 wf := Ext.call (e9.trans ee) hbf; have Gf := Lib.hid (Ge.out.ext hbf); obtain ⟨gf0, gf1⟩ := Gf.out.cells; clear hbf)
            | (go_at_call 29; refine (heldDesk_one x0 _ M _ Gf.out.past (by omega)).mono ?_; rintro e wg ⟨rfl, hbg⟩; have eg : Ext w1 wg := Ext.call ef hbg; clear hbg))
          go_ret
          exact ⟨rfl, e0.trans (e1.trans eg)⟩

set_option maxHeartbeats 800000 in
theorem walk (s : ByteArray) (v : Value) (zs : List ByteArray) (k n : Int) (w : World) (hw : WaysAt w) (hd : DirsAt w) (h : StrsAt w v zs) (hs : s.size ≤ 9223372036854775807) (hn : zs.length ≤ 9223372036854775807) (hz : ∀ z ∈ zs, z.size ≤ 9223372036854775807) (hkn : (-9223372036854775808 ≤ k ∧ k ≤ 9223372036854775807) ∧ -9223372036854775808 ≤ n ∧ n ≤ 9223372036854775807) :
    Calls Tryd.prog 5 #[.agg #[.string s, v], .agg #[.int .i64 k, .int .i64 n]] w fun e w' => e = .returned (.bool true) ∧ Below w.heap.size w w' := by
  have HSZ : Hid (∀ W, StrsAt W v zs → Calls Tryd.prog 22 #[.agg #[.string s, v], .int .i64 1048576] W fun e w' => e = .returned (.int .i64 (szDeskLeft 1048576 s zs)) ∧ Below W.heap.size W w') := fun W hW => szDesk_any s v zs 1048576 W hW (by omega) (by omega) hs hn hz
  obtain ⟨r, hr⟩ : ∃ r, szDeskLeft 1048576 s zs = r := ⟨_, rfl⟩
  rw [hr] at HSZ
  by_cases h0 : 0 ≤ r
  · have hfew := szDesk_few (hr ▸ h0)
    have hbn := bulk_nonneg zs
    refine walk_few s v zs k n w hw hd h (by omega) zs.length (Lib.hid rfl) (by omega) (Lib.hid (fun z hz' => ?_)) hkn.2 r h0 HSZ
    have := bulk_mem hz'
    omega
  · have hr0 : r < 0 := by omega
    obtain ⟨e0, _, r0, _⟩ := boxes_in w s v k n
    obtain ⟨W0, hW0⟩ : ∃ W0, lawBoxes w s v k n = W0 := ⟨_, rfl⟩
    rw [hW0] at e0 r0
    unfold lawBoxes at hW0
    have HW0 := Lib.hid hW0
    have HST0 := Lib.hid (e0.strs h)
    have c00 := cell_of_row _ _ 0 _ _ _ r0
    have c01 := cell_of_row _ _ 1 _ _ _ r0
    clear hW0 r0 h hr
    go_enter Tryd.func5, Tryd.ntmps5
    go_wp2_with fail
    rw [HW0.out]
    go_wp2_with (first
      | (go_at_call 22; refine (HSZ.out _ HST0.out).mono ?_; rintro e w1 ⟨rfl, hb1⟩))
    go_ret
    exact ⟨rfl, e0.call hb1⟩

set_option maxRecDepth 100000 in
theorem own : ownKnob Tryd.prog.godebug = none := by kernel_rfl
set_option maxRecDepth 100000 in
theorem laidOut : laidOutB Tryd.prog = true := by kernel_rfl
set_option maxRecDepth 100000 in
theorem rowed : rowsOk Tryd.prog Tryd.f5.params.toList = true := by kernel_rfl
set_option maxRecDepth 100000 in
theorem varred : varsOk Tryd.prog Rows.fnExactDeskDoSpec.vars = true := by kernel_rfl
set_option maxRecDepth 100000 in
theorem resType : Tryd.f5.resultTypes = #[4] := by kernel_rfl

set_option maxRecDepth 100000 in
theorem contract (H : Type) (enc : TypeId × Value → H) (W : World) (base : Nat) (args : Array Value) (ds gs : List (DataW H)) (before : List MemPlace)
    (hval : ∀ (j : Nat) t v, Tryd.f5.params[j]? = some t → args[j]? = some v → Value.okWide Tryd.prog W .any base t v)
    (hW : DataW.Whole enc Tryd.prog Tryd.f5.params.toList Rows.fnExactDeskDoSpec.vars false W args.toList ds gs before) (hL : laidMetH Tryd.prog Rows.fnExactDeskDoRow.laid W) :
    Calls Tryd.prog 5 args W fun e W' => ∃ v, e = .returned v ∧ Rows.fnExactDeskDoSpec.post enc Tryd.prog Tryd.f5 false true false false W args v W' := by
  have hW' := hW
  obtain ⟨p, q, hA0, hV, rfl, hfz, hnd⟩ := hW
  have hA : DataW.TrodAll enc Tryd.prog W 0 (fun _ => true) true Tryd.f5.params.toList args.toList ds p := hA0
  rw [Tryd.params5] at hA hval
  obtain ⟨v0, vs0, d0, ds0, p0, q0, hargs, rfl, rfl, h0, r0⟩ := trodAll_cons hA
  obtain ⟨v1, vs1, d1, ds1, p1, q1, rfl, rfl, rfl, h1, r1⟩ := trodAll_cons r0
  obtain ⟨rfl, rfl, rfl⟩ := trodAll_nil r1
  obtain rfl : args = #[v0, v1] := by cases args; simp_all
  obtain ⟨g0, g1, rfl⟩ := trodVars_len2 hV
  obtain ⟨s0, vv0, zs0, rfl, hst0, hss0, hnn0, hzz0⟩ := open_desk (hval 0 35 v0 rfl rfl) h0
  obtain ⟨k1, m1, rfl, zz1⟩ := open_deed (hval 1 36 v1 rfl rfl) h1
  have t_ways : WaysAt W := waysAt (by kernel_rfl) hL (by simp [Rows.fnExactDeskDoRow])
  have t_dirs : DirsAt W := dirsAt (by kernel_rfl) hL (by simp [Rows.fnExactDeskDoRow])
  refine (walk s0 vv0 zs0 k1 m1 W t_ways t_dirs hst0 hss0 hnn0 hzz0 zz1).mono fun e W' ⟨he, hb⟩ => ?_
  subst he
  exact ⟨_, rfl, law_post laidOut rowed varred resType Tryd.underlying4 hW' ⟨rfl, rfl, rfl⟩ hb⟩

/-- A world for the witness: the settled one, the listed variables holding what their initialisers lay. -/
noncomputable def laidWorld (os : Os) : World := { World.holding Tryd.prog os ⟨#[], #[], []⟩ with heap := (((World.holding Tryd.prog os ⟨#[], #[], []⟩).heap.modify 1 fun
      | .cells _ t frozen => .cells #[.string ⟨#[101, 110, 119, 115]⟩, .string ⟨#[110, 119, 115, 101]⟩, .string ⟨#[119, 115, 101, 110]⟩, .string ⟨#[115, 101, 110, 119]⟩, .string ⟨#[101, 115, 119, 110]⟩, .string ⟨#[110, 101, 115, 119]⟩, .string ⟨#[119, 110, 101, 115]⟩, .string ⟨#[115, 119, 110, 101]⟩] t frozen
      | o => o).modify 2 fun
      | .cells _ t frozen => .cells #[.int .i64 1, .int .i64 0, .int .i64 0, .int .i64 1, .int .i64 (-1), .int .i64 0, .int .i64 0, .int .i64 (-1)] t frozen
      | o => o) }
set_option maxRecDepth 100000 in
theorem laid_met (os : Os) : laidMet Tryd.prog Rows.fnExactDeskDoRow.laid ((laidWorld os).forCall (fun _ _ => 0) ⟨#[], #[.agg #[.string ByteArray.empty, .slice none 0 0], .agg #[.int .i64 0, .int .i64 0]], []⟩).memory := laidMet_of_run' 8 (by kernel_rfl) (by kernel_rfl)
set_option maxRecDepth 100000 in
theorem reads (os : Os) {H : Type} (enc : TypeId × Value → H) : ∃ places, DataW.whole enc Tryd.prog ((laidWorld os).forCall (fun _ _ => 0) ⟨#[], #[.agg #[.string ByteArray.empty, .slice none 0 0], .agg #[.int .i64 0, .int .i64 0]], []⟩).memory Tryd.f5.params.toList Rows.fnExactDeskDoSpec.vars false (#[.agg #[.string ByteArray.empty, .slice none 0 0], .agg #[.int .i64 0, .int .i64 0]] : Array Value).toList 8 = some ([.agg [.lit (.string []), .nil], .agg [.lit (.int .i64 0), .lit (.int .i64 0)]], [Rows.laid_loop_example_turtlewalks_impl_wayLetters, Rows.laid_loop_example_turtlewalks_impl_directions], places) := ⟨MemPlace.row ⟨1, 0, none⟩ 8 ++ MemPlace.row ⟨2, 0, none⟩ 8, by kernel_rfl⟩

set_option maxRecDepth 100000 in
theorem lifted (os : Os) (started : os.Started) (H : Type) (enc : TypeId × Value → H) (F : Stop.Interp) :
    ReturnsInHanded {} Tryd.checked os 5 .any ((OpenSpec.ofChange Rows.fnExactDeskDoSpec).preRow enc Tryd.prog Tryd.f5 Rows.fnExactDeskDoRow.domain false Rows.fnExactDeskDoRow.laid) (((OpenSpec.ofChange Rows.fnExactDeskDoSpec).at F).post enc Tryd.prog Tryd.f5 false true false false) := by
  obtain ⟨places, hx⟩ := reads os enc
  refine returnsInHanded_of_row (C := Tryd.checked) (s := OpenSpec.ofChange Rows.fnExactDeskDoSpec) own started (by kernel_rfl) Tryd.func5
    (witness_row_at (enc := enc) (C := Tryd.checked) false (laidWorld os) #[.agg #[.string ByteArray.empty, .slice none 0 0], .agg #[.int .i64 0, .int .i64 0]] rfl (by kernel_rfl) (by kernel_rfl) (by kernel_rfl)
      (OpenSpec.preRow_of_cond 8 hx (by kernel_rfl) (fun k hk => by cases hk) (by kernel_rfl) (laid_met os))) ?_
  intro W base args ds gs before hval hW _ _ _ hL _ _
  exact contract H enc W base args ds gs before hval hW hL

set_option maxRecDepth 100000 in
theorem said : Rows.FnExactDeskDoSaid :=
  OpenClaim.holds_of_cond 5 Tryd.f5 rfl rfl rfl rfl rfl rfl rfl ⟨rfl, rfl, rfl, rfl, rfl⟩ rfl rfl rfl rfl rfl (by kernel_rfl) Tryd.func5 (by kernel_rfl)
    (of_decide_eq_true (by kernel_rfl)) (by unfold Func.isWrapper; first | (rw [if_pos (by decide +kernel)]; kernel_rfl) | (rw [if_neg (by decide +kernel)]; exact ⟨rfl, rfl⟩))
    (fun os started H enc _ F => by rw [OpenClaim.pre_eq_preRow]; exact lifted os started H enc F)

set_option maxRecDepth 100000 in
theorem plain (f : FuncId) (fn : Func) (hf : Tryd.pinned.checked.prog.funcNamed "loop.example/turtlewalks/laws.FnExactDeskDo" = some f) (hfn : Tryd.pinned.checked.prog.funcs[f]? = some fn) :
    false = Tryd.pinned.checked.prog.looks [] ∧ ∀ (j : Nat) t, fn.params[j]? = some t → Tryd.pinned.checked.prog.wantsStandIn t = false := by
  obtain rfl : f = 5 := Option.some.inj ((show Tryd.prog.funcNamed "loop.example/turtlewalks/laws.FnExactDeskDo" = some 5 by kernel_rfl).symm.trans hf) |>.symm
  obtain rfl : fn = Tryd.f5 := (Option.some.inj (Tryd.func5.symm.trans hfn)).symm
  refine ⟨by kernel_rfl, fun j t ht => ?_⟩
  rw [Tryd.params5] at ht
  have hm : t ∈ [35, 36] := by simpa using Array.mem_of_getElem? ht
  have hall : ([35, 36].all fun u => !Tryd.prog.wantsStandIn u) = true := by kernel_rfl
  exact (show Tryd.prog.wantsStandIn t = false by simpa using List.all_eq_true.1 hall t hm)

set_option maxRecDepth 100000 in
theorem card : Rows.FnExactDeskDoCardSaid :=
  Claim7.holds_tied_plain_at .later [] _ _ _ _ said (fun _ h => by cases h) (by kernel_rfl) (fun _ h => by cases h) fnExactDeskDo_row_tie rfl ⟨rfl, rfl⟩ (by kernel_rfl) rfl plain (by kernel_rfl)

end Go.Proofs.YtbaakapnbginoaaDoor.fnExactDeskDo
