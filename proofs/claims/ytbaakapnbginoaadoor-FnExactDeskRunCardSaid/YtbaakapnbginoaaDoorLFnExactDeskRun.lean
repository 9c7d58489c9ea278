/-
  FnExactDeskRun: for every desk and list of deeds the program's DeskRun returns what the reference's returns, in memory of its own, and leaves the desk and the list as they were. No condition beyond what the given statement itself bears.
-/
import Derived.Test.YtbaakapnbginoaaDoorDeskRun
import Derived.Test.YtbaakapnbginoaaDoorDeedMarks
import Derived.Test.YtbaakapnbginoaaDoorJournal
import Derived.Test.YtbaakapnbginoaaDoorOpenDesk
import Derived.Test.YtbaakapnbginoaaDoorOpenDeeds
import Derived.Deep.DeepCutAuto
import Derived.Test.YtbaakapnbginoaaDoorCards
import Derived.Test.YtbaakapnbginoaaDoorTie
namespace Go.Proofs.YtbaakapnbginoaaDoor.fnExactDeskRun
open Go.ChangeShapes Go.WideShapes Go.ChangeAt Go.RowKit Go.WideMaps Go.WideElems
open Go.ChangeMaps (open_string shut_string)

set_option maxRecDepth 100000 in
set_option maxHeartbeats 3200000 in
theorem walk_few (s : ByteArray) (v : Value) (zs : List ByteArray) (u : Value) (ds : List (Int × Int)) (w : World) (hw : WaysAt w) (hd : DirsAt w) (h : StrsAt w v zs) (hu : DeedsAt w u ds) (hs : s.size ≤ 1048576) (L : Nat) (HL : Hid (zs.length = L)) (hn2 : L ≤ 1048576) (HZ : Hid (∀ z ∈ zs, z.size ≤ 1048576)) (n : Nat) (HN : Hid (ds.length = n)) (hnn : n ≤ 1048576) (HKN : Hid (∀ d ∈ ds, -9223372036854775808 ≤ d.2 ∧ d.2 ≤ 9223372036854775807))
    (r q : Int) (hr : 0 ≤ r) (hq : 0 ≤ q) (HSZ : Hid (∀ W, StrsAt W v zs → Calls Tryd.prog 22 #[.agg #[.string s, v], .int .i64 1048576] W fun e w' => e = .returned (.int .i64 r) ∧ Below W.heap.size W w')) (HSD : Hid (∀ W, DeedsAt W u ds → Calls Tryd.prog 30 #[u, .int .i64 r] W fun e w' => e = .returned (.int .i64 q) ∧ W = w')) :
    Calls Tryd.prog 6 #[.agg #[.string s, v], u] w fun e w' => e = .returned (.bool true) ∧ Below w.heap.size w w' := by
  obtain ⟨x0, hx0⟩ : ∃ x, (deskRun s zs ds).1.1 = x := ⟨_, rfl⟩
  obtain ⟨y0, hy0⟩ : ∃ x, (deskRun s zs ds).1.2 = x := ⟨_, rfl⟩
  obtain ⟨m0, hm0⟩ : ∃ x, (deskRun s zs ds).2 = x := ⟨_, rfl⟩
  have hdo : ∀ (u1 u2 : Value) (W : World), PastAt W u1 zs → RowAt W u2 ds → Calls Tryd.prog 31 #[.agg #[.string s, u1], u2] W (RunOut W ((x0, y0), m0)) := fun u1 u2 W h1 h2 => by
    have := specDeskRun s u1 zs u2 ds W h1.strs h2.deeds hs (by rw [HL.out]; exact hn2) HZ.out (by rw [HN.out]; exact hnn) HKN.out
    rw [← hx0, ← hy0, ← hm0]
    exact this
  have hdi : ∀ (u1 u2 : Value) (W : World), PastAt W u1 zs → RowAt W u2 ds → WaysAt W → DirsAt W → Calls Tryd.prog 33 #[.agg #[.string s, u1], u2] W (RunOut W ((x0, y0), m0)) := fun u1 u2 W h1 h2 hww hdd => by
    have := implDeskRun s u1 zs u2 ds W h1 h2.deeds hs (by rw [HL.out]; exact hn2) HZ.out (by rw [HN.out]; exact hnn) HKN.out hww hdd
    rw [← hx0, ← hy0, ← hm0]
    exact this
  have hy8 : y0.length ≤ 8 := hy0 ▸ deskRun_few s zs ds
  obtain ⟨M, hM⟩ : ∃ M, y0.length = M := ⟨_, rfl⟩
  rw [hM] at hy8
  have e0 : Ext w (w.alloc (.cells #[.string s, v] 35)) := (Ext.refl w).alloc _
  have r0 := heap_alloc_new w (.cells #[.string s, v] 35)
  obtain ⟨W0, hW0⟩ : ∃ W0, w.alloc (.cells #[.string s, v] 35) = W0 := ⟨_, rfl⟩
  rw [hW0] at e0 r0
  have HM := Lib.hid hM
  have HW0 := Lib.hid hW0
  have HDO := Lib.hid hdo
  have HDI := Lib.hid hdi
  have HST0 := Lib.hid (e0.strs h)
  have HDS0 := Lib.hid (hu.below' e0)
  have R0 := Lib.hid r0
  have c00 := cell_of_row _ _ 0 _ _ _ r0
  have c01 := cell_of_row _ _ 1 _ _ _ r0
  have HW := Lib.hid (hw.below' e0)
  have HD := Lib.hid (hd.below' e0)
  have hmm : ((m0 : Int) != (m0 : Int)) = false := by simp
  clear hM hx0 hy0 hm0 hdo hdi hW0 r0 h hw hd hu
  go_enter Tryd.func6, Tryd.ntmps6
  go_wp2_with fail
  rw [HW0.out]
  go_upto_region 8 with (first
    | (go_at_call 22; refine (HSZ.out _ HST0.out).mono ?_; rintro e w1 ⟨rfl, hb1⟩; have e1 : Ext W0 w1 := hb1; have r0 := e1.row R0.out; have hs1 := e1.size; have c10 := cell_of_row _ _ 0 _ _ _ r0; have c11 := cell_of_row _ _ 1 _ _ _ r0; have R01 := Lib.hid r0; clear r0 hb1)
    | (go_at_call 30; refine (HSD.out _ (HDS0.out.below' e1)).mono ?_; rintro e w' ⟨rfl, rfl⟩))
  have HS : Hid (∀ X, Ext w1 X → X.cell? ⟨w.heap.size, 0, none⟩ = some (.string s) ∧ X.cell? ⟨w.heap.size, 1, none⟩ = some v) := fun X hX => ⟨cell_of_row _ _ 0 _ _ _ (hX.row R01.out), cell_of_row _ _ 1 _ _ _ (hX.row R01.out)⟩
  have HST : Hid (∀ X, Ext w1 X → StrsAt X v zs) := fun X hX => (e1.trans hX).strs HST0.out
  have HDS : Hid (∀ X, Ext w1 X → DeedsAt X u ds) := fun X hX => HDS0.out.below' (e1.trans hX)
  have HWW : Hid (∀ X, Ext w1 X → WaysAt X) := fun X hX => HW.out.below' (e1.trans hX)
  have HDD : Hid (∀ X, Ext w1 X → DirsAt X) := fun X hX => HD.out.below' (e1.trans hX)
  go_upto_region 9 with (first
    | (go_at_call 24; refine (toDesk_past s v zs _ (HST.out _ (Ext.refl _)) L HL.out hn2).mono ?_; rintro e wa ⟨gwa, rfl, hpwa, hgwa, hbwa⟩; have ewa : Ext w1 wa := hbwa; have Pwa := Lib.hid hpwa; have swa := ewa.size; clear hpwa hbwa)
    | (go_at_call 32; refine (toDeeds_row u ds _ (HDS.out _ ewa) n HN.out hnn).mono ?_; rintro e wb ⟨gwb, rfl, hrb, hgb, hbb⟩; have ewb : Ext w1 wb := Ext.call ewa hbb; have Rb := Lib.hid hrb; have Pb := Lib.hid ((show Ext wa wb from hbb).past Pwa.out); clear hrb hbb)
    | (go_at_call 31; refine (HDO.out _ _ wb Pb.out Rb.out).mono ?_; rintro e wy ⟨vc, rfl, hpc, hfc, hbc⟩; obtain ⟨ac, qc, hvc⟩ := past_slice hpc HM.out; subst hvc; have ewc : Ext w1 wy := Ext.call ewb hbc; have Pc := Lib.hid hpc; have Fc := Lib.hid (fresh_ext ewb hfc); clear hpc hfc hbc))
  have hbz := box_new (x := x0) Pc.out Fc.out ewc.size
  obtain ⟨w2, hw2⟩ : ∃ w2, wy.alloc (.cells #[.string x0, .slice ac M qc] 38) = w2 := ⟨_, rfl⟩
  have e2 : Ext w1 w2 := hw2 ▸ ewc.alloc _
  obtain ⟨N, hN⟩ : ∃ N, wy.heap.size = N := ⟨_, rfl⟩
  rw [hw2, hN] at hbz
  rw [hw2, hN]
  have Z2 := Lib.hid hbz
  have s2 := e2.size
  obtain ⟨c20, c21⟩ := HS.out w2 e2
  clear hbz hw2 hN
  go_upto_region 10 with (first
    | (go_at_call 24; refine (toDesk_past s v zs _ (HST.out _ e2) L HL.out hn2).mono ?_; rintro e wd ⟨gwd, rfl, hpwd, hgwd, hbwd⟩; have ewd : Ext w2 wd := hbwd; have Pwd := Lib.hid hpwd; have swd := ewd.size; clear hpwd hbwd))
  have hbx := box_new (x := s) Pwd.out (Fresh.slice hgwd) ewd.size
  obtain ⟨w3, hw3⟩ : ∃ w3, wd.alloc (.cells #[.string s, .slice (some ⟨gwd, 0, none⟩) L L] 38) = w3 := ⟨_, rfl⟩
  have e3 : Ext w2 w3 := hw3 ▸ ewd.alloc _
  obtain ⟨M2, hM2⟩ : ∃ M2, wd.heap.size = M2 := ⟨_, rfl⟩
  rw [hw3, hM2] at hbx
  rw [hw3, hM2]
  have X3 := Lib.hid hbx
  have s3 := e3.size
  obtain ⟨c30, c31⟩ := X3.out.cells
  clear hbx hw3 hM2
  go_upto_region 12 with (first
    | (go_at_call 32; refine (toDeeds_row u ds _ (HDS.out _ (e2.trans e3)) n HN.out hnn).mono ?_; rintro e we ⟨g4, rfl, hr4, hg4, hb4⟩; have e4 : Ext w3 we := hb4; have R4 := Lib.hid hr4; have s4 := e4.size; have X4 := Lib.hid (X3.out.ext e4); obtain ⟨c40, c41⟩ := X4.out.cells; clear hr4 hb4)
    | (go_at_call 33; refine (HDI.out _ _ we X4.out.past R4.out (HWW.out _ (e2.trans (e3.trans e4))) (HDD.out _ (e2.trans (e3.trans e4)))).mono ?_; rintro e wf ⟨v5, rfl, hp5, hf5, hb5⟩; obtain ⟨a5, q5, hv5⟩ := past_slice hp5 HM.out; subst hv5; have e5 : Ext we wf := hb5; have P5 := Lib.hid hp5; have F5 := Lib.hid hf5; clear hp5 hf5 hb5))
  have hbg := box_new (x := x0) P5.out F5.out e5.size
  obtain ⟨w6, hw6⟩ : ∃ w6, wf.alloc (.cells #[.string x0, .slice a5 M q5] 38) = w6 := ⟨_, rfl⟩
  have e6 : Ext we w6 := hw6 ▸ e5.alloc _
  obtain ⟨N3, hN3⟩ : ∃ N3, wf.heap.size = N3 := ⟨_, rfl⟩
  rw [hw6, hN3] at hbg
  rw [hw6, hN3]
  have G6 := Lib.hid hbg
  have s6 := e6.size
  have e26 := e3.trans (e4.trans e6)
  have Z6 := Lib.hid (Z2.out.ext e26)
  have X6 := Lib.hid (X3.out.ext (e4.trans e6))
  have R6 := Lib.hid (R4.out.ext e6)
  have hlt4 : g4 < we.heap.size := R4.out.lt rfl
  obtain ⟨z60, z61⟩ := Z6.out.cells
  obtain ⟨g60, g61⟩ := G6.out.cells
  clear hbg hw6 hN3
  go_upto_region 14 with (first
    | (go_at_call 27; refine (eqDesk_same x0 _ _ y0 _ G6.out.past.strs Z6.out.past.strs (by rw [HM.out]; omega)).mono ?_; rintro e w7 ⟨rfl, hb7⟩; have e7 : Ext w6 w7 := hb7; clear hb7))
  have e17 := (e2.trans e26).trans e7
  have HS14 : Hid (∀ X, Ext w7 X → X.cell? ⟨M2, 0, none⟩ = some (.string s) ∧ X.cell? ⟨M2, 1, none⟩ = some (.slice (some ⟨gwd, 0, none⟩) L L) ∧ X.cell? ⟨w.heap.size, 0, none⟩ = some (.string s) ∧ X.cell? ⟨w.heap.size, 1, none⟩ = some v) := fun X hX =>
    ⟨(X6.out.ext (e7.trans hX)).cells.1, (X6.out.ext (e7.trans hX)).cells.2, (HS.out X (e17.trans hX)).1, (HS.out X (e17.trans hX)).2⟩
  have HT14 : Hid (∀ X, Ext w7 X → StrsAt X v zs) := fun X hX => HST.out X (e17.trans hX)
  have HP14 : Hid (∀ X, Ext w7 X → PastAt X (.slice (some ⟨gwd, 0, none⟩) L L) zs) := fun X hX => (X6.out.ext (e7.trans hX)).past
  go_cut [58] (fun q wx => q = .bool false ∧ Ext w7 wx)
  case first =>
    go_region_held3 (fun w' => w'.cell? ⟨M2, 0, none⟩ = some (.string s) ∧ w'.cell? ⟨M2, 1, none⟩ = some (.slice (some ⟨gwd, 0, none⟩) L L) ∧ w'.cell? ⟨w.heap.size, 0, none⟩ = some (.string s) ∧ w'.cell? ⟨w.heap.size, 1, none⟩ = some v)
      (exact HS14.out _ (by (first | assumption | exact Ext.refl _ | exact (Ext.refl _).drew | (refine Ext.alloc ?_ _; first | assumption | exact Ext.refl _ | exact (Ext.refl _).drew) | (refine Ext.drew ?_; first | assumption | exact Ext.refl _ | exact (Ext.refl _).drew) | (refine Ext.drew ?_; refine Ext.alloc ?_ _; first | assumption | exact Ext.refl _ | exact (Ext.refl _).drew) | (refine Ext.setCell (Ext.setCell ?_ ?_ _) ?_ _ <;> first | assumption | omega | (simp <;> omega)))))
      (first
        | (go_at_call 24; refine (toDesk_past s v zs _ (HT14.out _ (by (first | assumption | exact Ext.refl _ | exact (Ext.refl _).drew | (refine Ext.alloc ?_ _; first | assumption | exact Ext.refl _ | exact (Ext.refl _).drew) | (refine Ext.drew ?_; first | assumption | exact Ext.refl _ | exact (Ext.refl _).drew) | (refine Ext.drew ?_; refine Ext.alloc ?_ _; first | assumption | exact Ext.refl _ | exact (Ext.refl _).drew) | (refine Ext.setCell (Ext.setCell ?_ ?_ _) ?_ _ <;> first | assumption | omega | (simp <;> omega))))) L HL.out hn2).mono ?_; rintro e wA ⟨gA, rfl, hpA, hgA, hbA⟩; have eA : Ext w7 wA := Ext.call (by (first | assumption | exact Ext.refl _ | exact (Ext.refl _).drew | (refine Ext.alloc ?_ _; first | assumption | exact Ext.refl _ | exact (Ext.refl _).drew) | (refine Ext.drew ?_; first | assumption | exact Ext.refl _ | exact (Ext.refl _).drew) | (refine Ext.drew ?_; refine Ext.alloc ?_ _; first | assumption | exact Ext.refl _ | exact (Ext.refl _).drew) | (refine Ext.setCell (Ext.setCell ?_ ?_ _) ?_ _ <;> first | assumption | omega | (simp <;> omega)))) hbA; have PA := Lib.hid hpA; clear hpA hbA)
        | (go_at_call 27; refine (eqDesk_same s _ _ zs _ (HP14.out _ (by (first | assumption | exact Ext.refl _ | exact (Ext.refl _).drew | (refine Ext.alloc ?_ _; first | assumption | exact Ext.refl _ | exact (Ext.refl _).drew) | (refine Ext.drew ?_; first | assumption | exact Ext.refl _ | exact (Ext.refl _).drew) | (refine Ext.drew ?_; refine Ext.alloc ?_ _; first | assumption | exact Ext.refl _ | exact (Ext.refl _).drew) | (refine Ext.setCell (Ext.setCell ?_ ?_ _) ?_ _ <;> first | assumption | omega | (simp <;> omega))))).strs PA.out.strs (by rw [HL.out]; omega)).mono ?_; rintro e wB ⟨rfl, hbB⟩; have eB : Ext w7 wB := Ext.call (by (first | assumption | exact Ext.refl _ | exact (Ext.refl _).drew | (refine Ext.alloc ?_ _; first | assumption | exact Ext.refl _ | exact (Ext.refl _).drew) | (refine Ext.drew ?_; first | assumption | exact Ext.refl _ | exact (Ext.refl _).drew) | (refine Ext.drew ?_; refine Ext.alloc ?_ _; first | assumption | exact Ext.refl _ | exact (Ext.refl _).drew) | (refine Ext.setCell (Ext.setCell ?_ ?_ _) ?_ _ <;> first | assumption | omega | (simp <;> omega)))) hbB; clear hbB))
    all_goals
      go_wp2_with fail
      go_meet
      exact ⟨rfl, by (first | assumption | exact Ext.refl _ | exact (Ext.refl _).drew | (refine Ext.alloc ?_ _; first | assumption | exact Ext.refl _ | exact (Ext.refl _).drew) | (refine Ext.drew ?_; first | assumption | exact Ext.refl _ | exact (Ext.refl _).drew) | (refine Ext.drew ?_; refine Ext.alloc ?_ _; first | assumption | exact Ext.refl _ | exact (Ext.refl _).drew) | (refine Ext.setCell (Ext.setCell ?_ ?_ _) ?_ _ <;> first | assumption | omega | (simp <;> omega)))⟩
  case rest =>
    obtain ⟨w8, rfl⟩ : ∃ w8 : World, w8 = wc := ⟨_, rfl⟩
    obtain ⟨rfl, e8⟩ := hcut
    have e18 := e17.trans e8
    have e68 := e7.trans e8
    have R8 := Lib.hid (R6.out.ext e68)
    go_upto_region 18 with (first
      | (go_at_call 32; refine (toDeeds_row u ds _ (HDS.out _ e18) n HN.out hnn).mono ?_; rintro e w9 ⟨g9, rfl, hr9, hg9, hb9⟩; have e9 : Ext w8 w9 := hb9; have R9 := Lib.hid hr9; clear hr9 hb9)
      | (go_at_call 19; refine (eqDeeds_same _ _ ds _ (R8.out.ext e9).deeds R9.out.deeds (by rw [HN.out]; exact hnn) (by simp) (by simp)).mono ?_; rintro e w10 ⟨rfl, hb10⟩; have e10 : Ext w8 w10 := Ext.call e9 hb10; clear hb10))
    have e610 := e68.trans e10
    have e110 := e18.trans e10
    have X10 := Lib.hid (X6.out.ext e610)
    have R10 := Lib.hid (R8.out.ext e10)
    have Z10 := Lib.hid (Z6.out.ext e610)
    have G10 := Lib.hid (G6.out.ext e610)
    have s110 := e110.size
    have s610 := e610.size
    have s26 := e26.size
    obtain ⟨x100, x101⟩ := X10.out.cells
    go_upto_region 23 with (first
      | (go_at_call 28; refine (markDesk_one s _ zs _ X10.out.past L HL.out (by omega)).mono ?_; rintro e w11 ⟨rfl, hp11, hb11⟩; have e11 : Ext w1 w11 := e110.but hb11 X10.out.fresh (by omega); have s11 := hb11.size; have Z11 := Lib.hid (Z10.out.below (hb11.below X10.out.fresh (by omega)) (by omega)); have G11 := Lib.hid (G10.out.but hb11 (fun b hb => by have := X10.out.vlt b hb; omega)); have R11 := Lib.hid (row_but R10.out hb11 (fun h9 => by have h8 := X10.out.vlt gwd rfl; have h7 : gwd = g4 := Option.some.inj h9; omega)); clear hp11 hb11)
      | (go_at_call 20; refine (markDeeds_any _ ds n HN.out _ _ R11.out (by omega) (by omega) (by omega)).mono ?_; rintro e w12 ⟨rfl, hp12, hb12⟩; have f12 : Fresh w3.heap.size (Value.slice (some ⟨g4, 0, none⟩) n n) := Fresh.slice hg4; have e12 : Ext w1 w12 := e11.but hb12 f12 (by omega); have s12 := hb12.size; have Z12 := Lib.hid (Z11.out.below (hb12.below f12 (by omega)) (by omega)); have G12 := Lib.hid (G11.out.but hb12 (fun b hb => by have h7 : g4 = b := Option.some.inj hb; omega)); obtain ⟨z120, z121⟩ := Z12.out.cells; obtain ⟨g120, g121⟩ := G12.out.cells; clear hp12 hb12)
      | (go_at_call 27; refine (eqDesk_same x0 _ _ y0 _ G12.out.past.strs Z12.out.past.strs (by rw [HM.out]; omega)).mono ?_; rintro e w13 ⟨rfl, hb13⟩; have e13 : Ext w1 w13 := Ext.call e12 hb13; have s13 := hb13.size; have Z13 := Lib.hid (Z12.out.ext hb13); have G13 := Lib.hid (G12.out.ext hb13); obtain ⟨g130, g131⟩ := G13.out.cells; clear hb13))
    go_upto_region 31 with (first
      | (go_at_call 28; refine (markDesk_one x0 _ y0 _ G13.out.past M HM.out (by omega)).mono ?_; rintro e w14 ⟨rfl, hp14, hb14⟩; have e14 : Ext w1 w14 := e13.but hb14 G13.out.fresh (by omega); have Z14 := Lib.hid (Z13.out.below (hb14.below G13.out.fresh (by omega)) (by omega)); have G14 := Lib.hid (G13.out.own hb14 hp14); obtain ⟨g140, g141⟩ := G14.out.cells; clear hp14 hb14)
      | (go_at_call 29; refine (heldDesk_one x0 _ M _ G14.out.past (by omega)).mono ?_; rintro e w15 ⟨rfl, hb15⟩; have e15 : Ext w1 w15 := Ext.call e14 hb15; have Z15 := Lib.hid (Z14.out.ext hb15); have G15 := Lib.hid (G14.out.ext hb15); clear hb15))
    obtain ⟨c150, c151⟩ := HS.out w15 e15
    go_upto_region 32 with (first
      | (go_at_call 24; refine (toDesk_past s v zs _ (HST.out _ e15) L HL.out hn2).mono ?_; rintro e w16 ⟨g16, rfl, hp16, hg16, hb16⟩; have e16 : Ext w15 w16 := hb16; have P16 := Lib.hid hp16; clear hp16 hb16)
      | (go_at_call 32; refine (toDeeds_row u ds _ (HDS.out _ (e15.trans e16)) n HN.out hnn).mono ?_; rintro e w17 ⟨g17, rfl, hr17, hg17, hb17⟩; have e17' : Ext w15 w17 := Ext.call e16 hb17; have R17 := Lib.hid hr17; have P17 := Lib.hid ((show Ext w16 w17 from hb17).past P16.out); clear hr17 hb17)
      | (go_at_call 33; refine (HDI.out _ _ w17 P17.out R17.out (HWW.out _ (e15.trans e17')) (HDD.out _ (e15.trans e17'))).mono ?_; rintro e w18 ⟨v18, rfl, hp18, hf18, hb18⟩; obtain ⟨a18, q18, hv18⟩ := past_slice hp18 HM.out; subst hv18; have e18' : Ext w15 w18 := Ext.call e17' hb18; have P18 := Lib.hid hp18; have F18 := Lib.hid (fresh_ext e17' hf18); clear hp18 hf18 hb18))
    have hbh := box_new (x := x0) P18.out F18.out e18'.size
    obtain ⟨w19, hw19⟩ : ∃ w19, w18.alloc (.cells #[.string x0, .slice a18 M q18] 38) = w19 := ⟨_, rfl⟩
    have e19 : Ext w15 w19 := hw19 ▸ e18'.alloc _
    rw [hw19] at hbh
    rw [hw19]
    have H19 := Lib.hid hbh
    have Z19 := Lib.hid (Z15.out.ext e19)
    have G19 := Lib.hid (G15.out.ext e19)
    obtain ⟨h190, h191⟩ := H19.out.cells
    obtain ⟨z190, z191⟩ := Z19.out.cells
    clear hbh hw19
    go_wp2_with (first
      | (go_at_call 27; refine (eqDesk_same x0 _ _ y0 _ H19.out.past.strs Z19.out.past.strs (by rw [HM.out]; omega)).mono ?_; rintro e w20 ⟨rfl, hb20⟩; have e20 : Ext w1 w20 := Ext.call (e15.trans e19) hb20; have G20 := Lib.hid (G19.out.ext hb20); obtain ⟨g200, g201⟩ := G20.out.cells; clear hb20)
      | (go_at_call 29; refine (heldDesk_one x0 _ M _ G20.out.past (by omega)).mono ?_; rintro e w21 ⟨rfl, hb21⟩; have e21 : Ext w1 w21 := Ext.call e20 hb21; clear hb21))
    go_ret
    exact ⟨rfl, e0.trans (e1.trans e21)⟩

set_option maxHeartbeats 1600000 in
theorem walk (s : ByteArray) (v : Value) (zs : List ByteArray) (u : Value) (ds : List (Int × Int)) (w : World) (hw : WaysAt w) (hd : DirsAt w) (h : StrsAt w v zs) (hs : s.size ≤ 9223372036854775807) (hn : zs.length ≤ 9223372036854775807) (hz : ∀ z ∈ zs, z.size ≤ 9223372036854775807) (hu : DeedsAt w u ds) (hnn : ds.length ≤ 9223372036854775807) (hkn : ∀ d ∈ ds, -9223372036854775808 ≤ d.2 ∧ d.2 ≤ 9223372036854775807) :
    Calls Tryd.prog 6 #[.agg #[.string s, v], u] w fun e w' => e = .returned (.bool true) ∧ Below w.heap.size w w' := by
  have HSZ : Hid (∀ W, StrsAt W v zs → Calls Tryd.prog 22 #[.agg #[.string s, v], .int .i64 1048576] W fun e w' => e = .returned (.int .i64 (szDeskLeft 1048576 s zs)) ∧ Below W.heap.size W w') := fun W hW => szDesk_any s v zs 1048576 W hW (by omega) (by omega) hs hn hz
  obtain ⟨r, hr⟩ : ∃ r, szDeskLeft 1048576 s zs = r := ⟨_, rfl⟩
  rw [hr] at HSZ
  obtain ⟨q, hq⟩ : ∃ q, (if (ds.length : Int) ≤ r then r - (ds.length : Int) else -1) = q := ⟨_, rfl⟩
  have hr1 : r ≤ 1048576 := by
    rw [← hr]
    unfold szDeskLeft
    split
    · rcases szLeft_cases (1048576 - s.size) zs with h1 | h1
      · omega
      · omega
    · omega
  have hcase : (0 ≤ r ∧ 0 ≤ q) ∨ (0 ≤ r ∧ q < 0) ∨ r < 0 := by omega
  rcases hcase with ⟨h0, hq0⟩ | ⟨h0, hq0⟩ | h0
  · have hfew := szDesk_few (hr ▸ h0)
    have hbn := bulk_nonneg zs
    have hn2 : ds.length ≤ 1048576 := by
      by_cases h9 : (ds.length : Int) ≤ r
      · omega
      · rw [if_neg h9] at hq
        omega
    refine walk_few s v zs u ds w hw hd h hu (by omega) zs.length (Lib.hid rfl) (by omega) (Lib.hid (fun z hz' => ?_)) ds.length (Lib.hid rfl) hn2 (Lib.hid hkn) r q h0 hq0 HSZ (Lib.hid (fun W hW => szDeeds_left u ds W hW ds.length rfl hnn r q h0 hr1 hq))
    have := bulk_mem hz'
    omega
  all_goals
    have e0 : Ext w (w.alloc (.cells #[.string s, v] 35)) := (Ext.refl w).alloc _
    have r0 := heap_alloc_new w (.cells #[.string s, v] 35)
    obtain ⟨W0, hW0⟩ : ∃ W0, w.alloc (.cells #[.string s, v] 35) = W0 := ⟨_, rfl⟩
    rw [hW0] at e0 r0
    have HSD : Hid (0 ≤ r → ∀ W, DeedsAt W u ds → Calls Tryd.prog 30 #[u, .int .i64 r] W fun e w' => e = .returned (.int .i64 q) ∧ W = w') := fun h0 W hW => szDeeds_left u ds W hW ds.length rfl hnn r q h0 hr1 hq
    have HW0 := Lib.hid hW0
    have HST0 := Lib.hid (e0.strs h)
    have HDS0 := Lib.hid (hu.below' e0)
    have c00 := cell_of_row _ _ 0 _ _ _ r0
    have c01 := cell_of_row _ _ 1 _ _ _ r0
    clear hW0 r0 h hr hu hq hkn hz
    go_enter Tryd.func6, Tryd.ntmps6
    go_wp2_with fail
    rw [HW0.out]
    go_wp2_with (first
      | (go_at_call 22; refine (HSZ.out _ HST0.out).mono ?_; rintro e w1 ⟨rfl, hb1⟩)
      | (go_at_call 30; refine (HSD.out h0 _ (HDS0.out.below' hb1)).mono ?_; rintro e w' ⟨rfl, rfl⟩))
    go_ret
    exact ⟨rfl, e0.call hb1⟩

set_option maxRecDepth 100000 in
theorem own : ownKnob Tryd.prog.godebug = none := by kernel_rfl
set_option maxRecDepth 100000 in
theorem laidOut : laidOutB Tryd.prog = true := by kernel_rfl
set_option maxRecDepth 100000 in
theorem rowed : rowsOk Tryd.prog Tryd.f6.params.toList = true := by kernel_rfl
set_option maxRecDepth 100000 in
theorem varred : varsOk Tryd.prog Rows.fnExactDeskRunSpec.vars = true := by kernel_rfl
set_option maxRecDepth 100000 in
theorem resType : Tryd.f6.resultTypes = #[4] := by kernel_rfl

set_option maxRecDepth 100000 in
theorem contract (H : Type) (enc : TypeId × Value → H) (W : World) (base : Nat) (args : Array Value) (ds gs : List (DataW H)) (before : List MemPlace)
    (hval : ∀ (j : Nat) t v, Tryd.f6.params[j]? = some t → args[j]? = some v → Value.okWide Tryd.prog W .any base t v)
    (hW : DataW.Whole enc Tryd.prog Tryd.f6.params.toList Rows.fnExactDeskRunSpec.vars false W args.toList ds gs before) (hL : laidMetH Tryd.prog Rows.fnExactDeskRunRow.laid W) :
    Calls Tryd.prog 6 args W fun e W' => ∃ v, e = .returned v ∧ Rows.fnExactDeskRunSpec.post enc Tryd.prog Tryd.f6 false true false false W args v W' := by
  have hW' := hW
  obtain ⟨p, q, hA0, hV, rfl, hfz, hnd⟩ := hW
  have hA : DataW.TrodAll enc Tryd.prog W 0 (fun _ => true) true Tryd.f6.params.toList args.toList ds p := hA0
  rw [Tryd.params6] at hA hval
  obtain ⟨v0, vs0, d0, ds0, p0, q0, hargs, rfl, rfl, h0, r0⟩ := trodAll_cons hA
  obtain ⟨v1, vs1, d1, ds1, p1, q1, rfl, rfl, rfl, h1, r1⟩ := trodAll_cons r0
  obtain ⟨rfl, rfl, rfl⟩ := trodAll_nil r1
  obtain rfl : args = #[v0, v1] := by cases args; simp_all
  obtain ⟨g0, g1, rfl⟩ := trodVars_len2 hV
  obtain ⟨s0, vv0, zs0, rfl, hst0, hss0, hnn0, hzz0⟩ := open_desk (hval 0 35 v0 rfl rfl) h0
  obtain ⟨es1, hes1, hen1, hek1⟩ := open_deeds2 (hval 1 46 v1 rfl rfl) h1
  have t_ways : WaysAt W := waysAt (by kernel_rfl) hL (by simp [Rows.fnExactDeskRunRow])
  have t_dirs : DirsAt W := dirsAt (by kernel_rfl) hL (by simp [Rows.fnExactDeskRunRow])
  refine (walk s0 vv0 zs0 v1 es1 W t_ways t_dirs hst0 hss0 hnn0 hzz0 hes1 hen1 hek1).mono fun e W' ⟨he, hb⟩ => ?_
  subst he
  exact ⟨_, rfl, law_post laidOut rowed varred resType Tryd.underlying4 hW' ⟨rfl, rfl, rfl⟩ hb⟩

/-- A world for the witness: the settled one, the listed variables holding what their initialisers lay. -/
noncomputable def laidWorld (os : Os) : World := { World.holding Tryd.prog os ⟨#[], #[], []⟩ with heap := (((World.holding Tryd.prog os ⟨#[], #[], []⟩).heap.modify 1 fun
      | .cells _ t frozen => .cells #[.string ⟨#[101, 110, 119, 115]⟩, .string ⟨#[110, 119, 115, 101]⟩, .string ⟨#[119, 115, 101, 110]⟩, .string ⟨#[115, 101, 110, 119]⟩, .string ⟨#[101, 115, 119, 110]⟩, .string ⟨#[110, 101, 115, 119]⟩, .string ⟨#[119, 110, 101, 115]⟩, .string ⟨#[115, 119, 110, 101]⟩] t frozen
      | o => o).modify 2 fun
      | .cells _ t frozen => .cells #[.int .i64 1, .int .i64 0, .int .i64 0, .int .i64 1, .int .i64 (-1), .int .i64 0, .int .i64 0, .int .i64 (-1)] t frozen
      | o => o) }
set_option maxRecDepth 100000 in
theorem laid_met (os : Os) : laidMet Tryd.prog Rows.fnExactDeskRunRow.laid ((laidWorld os).forCall (fun _ _ => 0) ⟨#[], #[.agg #[.string ByteArray.empty, .slice none 0 0], .slice none 0 0], []⟩).memory := laidMet_of_run' 8 (by kernel_rfl) (by kernel_rfl)
set_option maxRecDepth 100000 in
theorem reads (os : Os) {H : Type} (enc : TypeId × Value → H) : ∃ places, DataW.whole enc Tryd.prog ((laidWorld os).forCall (fun _ _ => 0) ⟨#[], #[.agg #[.string ByteArray.empty, .slice none 0 0], .slice none 0 0], []⟩).memory Tryd.f6.params.toList Rows.fnExactDeskRunSpec.vars false (#[.agg #[.string ByteArray.empty, .slice none 0 0], .slice none 0 0] : Array Value).toList 8 = some ([.agg [.lit (.string []), .nil], .nil], [Rows.laid_loop_example_turtlewalks_impl_wayLetters, Rows.laid_loop_example_turtlewalks_impl_directions], places) := ⟨MemPlace.row ⟨1, 0, none⟩ 8 ++ MemPlace.row ⟨2, 0, none⟩ 8, by kernel_rfl⟩

set_option maxRecDepth 100000 in
theorem lifted (os : Os) (started : os.Started) (H : Type) (enc : TypeId × Value → H) (F : Stop.Interp) :
    ReturnsInHanded {} Tryd.checked os 6 .any ((OpenSpec.ofChange Rows.fnExactDeskRunSpec).preRow enc Tryd.prog Tryd.f6 Rows.fnExactDeskRunRow.domain false Rows.fnExactDeskRunRow.laid) (((OpenSpec.ofChange Rows.fnExactDeskRunSpec).at F).post enc Tryd.prog Tryd.f6 false true false false) := by
  obtain ⟨places, hx⟩ := reads os enc
  refine returnsInHanded_of_row (C := Tryd.checked) (s := OpenSpec.ofChange Rows.fnExactDeskRunSpec) own started (by kernel_rfl) Tryd.func6
    (witness_row_at (enc := enc) (C := Tryd.checked) false (laidWorld os) #[.agg #[.string ByteArray.empty, .slice none 0 0], .slice none 0 0] rfl (by kernel_rfl) (by kernel_rfl) (by kernel_rfl)
      (OpenSpec.preRow_of_cond 8 hx (by kernel_rfl) (fun k hk => by cases hk) (by kernel_rfl) (laid_met os))) ?_
  intro W base args ds gs before hval hW _ _ _ hL _ _
  exact contract H enc W base args ds gs before hval hW hL

set_option maxRecDepth 100000 in
theorem said : Rows.FnExactDeskRunSaid :=
  OpenClaim.holds_of_cond 6 Tryd.f6 rfl rfl rfl rfl rfl rfl rfl ⟨rfl, rfl, rfl, rfl, rfl⟩ rfl rfl rfl rfl rfl (by kernel_rfl) Tryd.func6 (by kernel_rfl)
    (of_decide_eq_true (by kernel_rfl)) (by unfold Func.isWrapper; first | (rw [if_pos (by decide +kernel)]; kernel_rfl) | (rw [if_neg (by decide +kernel)]; exact ⟨rfl, rfl⟩))
    (fun os started H enc _ F => by rw [OpenClaim.pre_eq_preRow]; exact lifted os started H enc F)

set_option maxRecDepth 100000 in
theorem plain (f : FuncId) (fn : Func) (hf : Tryd.pinned.checked.prog.funcNamed "loop.example/turtlewalks/laws.FnExactDeskRun" = some f) (hfn : Tryd.pinned.checked.prog.funcs[f]? = some fn) :
    false = Tryd.pinned.checked.prog.looks [] ∧ ∀ (j : Nat) t, fn.params[j]? = some t → Tryd.pinned.checked.prog.wantsStandIn t = false := by
  obtain rfl : f = 6 := Option.some.inj ((show Tryd.prog.funcNamed "loop.example/turtlewalks/laws.FnExactDeskRun" = some 6 by kernel_rfl).symm.trans hf) |>.symm
  obtain rfl : fn = Tryd.f6 := (Option.some.inj (Tryd.func6.symm.trans hfn)).symm
  refine ⟨by kernel_rfl, fun j t ht => ?_⟩
  rw [Tryd.params6] at ht
  have hm : t ∈ [35, 46] := by simpa using Array.mem_of_getElem? ht
  have hall : ([35, 46].all fun u => !Tryd.prog.wantsStandIn u) = true := by kernel_rfl
  exact (show Tryd.prog.wantsStandIn t = false by simpa using List.all_eq_true.1 hall t hm)

set_option maxRecDepth 100000 in
theorem card : Rows.FnExactDeskRunCardSaid :=
  Claim7.holds_tied_plain_at .later [] _ _ _ _ said (fun _ h => by cases h) (by kernel_rfl) (fun _ h => by cases h) fnExactDeskRun_row_tie rfl ⟨rfl, rfl⟩ (by kernel_rfl) rfl plain (by kernel_rfl)

end Go.Proofs.YtbaakapnbginoaaDoor.fnExactDeskRun
