/-
  FnExactDeskOk: for every desk the program's DeskOk returns what the reference's returns, and leaves the desk as it was. No condition beyond what the given statement itself bears.
-/
import Derived.Test.YtebljcpbdjemaaaDeskAt
import Derived.Test.YtebljcpbdjemaaaOpenDesk
import Derived.Lib.Builder
import Derived.Deep.RegionHeld3
namespace Go.Proofs.Ytebljcpbdjemaaa.fnExactDeskOk
open Go.ChangeShapes Go.WideShapes Go.ChangeAt Go.RowKit Go.WideMaps Go.WideElems
open Go.ChangeMaps (open_string shut_string)

theorem lt_heap {w : World} {b : Nat} {o : Obj} (h : w.heap[b]? = some o) : b < w.heap.size := (Array.getElem?_eq_some_iff.1 h).1

set_option maxHeartbeats 1600000 in
theorem walk (s : ByteArray) (v : Value) (zs : List ByteArray) (w : World) (h : StrsAt w v zs) (hs : s.size ≤ 9223372036854775807) (hn : zs.length ≤ 9223372036854775807) (hz : ∀ z ∈ zs, z.size ≤ 9223372036854775807) :
    Calls Try.prog 4 #[.agg #[.string s, v]] w fun e w' => e = .returned (.bool true) ∧ Below w.heap.size w w' := by
  have hcs : szDeskLeft 1048576 s zs < 0 ∨ (0 ≤ szDeskLeft 1048576 s zs ∧ (s.size : Int) + zs.length + bulk zs ≤ 1048576) := by
    by_cases h0 : 0 ≤ szDeskLeft 1048576 s zs
    · exact .inr ⟨h0, szDesk_few h0⟩
    · exact .inl (by omega)
  obtain ⟨r, hr⟩ : ∃ r, szDeskLeft 1048576 s zs = r := ⟨_, rfl⟩
  rw [hr] at hcs
  have HR := Lib.hid hr
  have HZ := Lib.hid hz
  clear hr hz
  have hb0 : ∀ o, Below w.heap.size w (w.alloc o) := fun o => (Below.refl _ _).alloc (Nat.le_refl _) o
  have HB0 := Lib.hid hb0
  clear hb0
  rcases hcs with hneg | ⟨hpos, hfew⟩
  · go_enter Try.func4, Try.ntmps4
    go_wp2_with (first
      | (go_at_call 10; refine (szDesk_any s v zs _ _ (h.below' (HB0.out _)) (by omega) (by omega) hs hn HZ.out).mono ?_; rw [HR.out]; rintro e w1 ⟨rfl, hb1⟩))
    go_ret
    exact ⟨rfl, (HB0.out _).trans (hb1.mono (by simp))⟩
  · have hbn := bulk_nonneg zs
    have hs2 : s.size ≤ 1048576 := by omega
    have hn2 : zs.length ≤ 1048576 := by omega
    have hz2 : ∀ z ∈ zs, z.size ≤ 1048576 := fun z hz => by
      have := bulk_mem hz
      omega
    have HZ2 := Lib.hid hz2
    clear hz2 hfew hbn
    go_enter Try.func4, Try.ntmps4
    go_wp2_with (first
      | (go_at_call 10; refine (szDesk_any s v zs _ _ (h.below' (HB0.out _)) (by omega) (by omega) hs hn HZ.out).mono ?_; rw [HR.out]; rintro e w1 ⟨rfl, hb1⟩; have hA1 := (hb1.block w.heap.size (by simp)).trans (heap_alloc_new w _); have hk1 := (HB0.out _).trans (hb1.mono (by simp)); obtain ⟨a0, a1⟩ := two_cells hA1; have HA1 := Lib.hid hA1; clear hA1)
      | (go_at_call 12; first
          | (have hq := hb3; refine (toDesk_any s v zs _ (h.below' hk3) hn2).mono ?_; rintro e w4 ⟨g2, rfl, hown4, hb4⟩; have hA4 := (hb4.block w.heap.size hl3).trans HA3.out; have hk4 := hk3.trans (hb4.mono hk3.size))
          | (refine (toDesk_any s v zs _ (h.below' hk1) hn2).mono ?_; rintro e w2 ⟨g1, rfl, hown2, hb2⟩; have hA2 := (hb2.block w.heap.size (lt_heap HA1.out)).trans HA1.out; have hk2 := hk1.trans (hb2.mono hk1.size); have hs2' := own_strs hown2 rfl (Nat.le_refl _)))
      | (go_at_call 11; refine (specDeskOk s _ zs _ hs2' hs2 hn2 HZ2.out).mono ?_; rintro e w3 ⟨rfl, hb3⟩; have hA3 := (hb3.block w.heap.size (lt_heap hA2)).trans hA2; have hk3 := hk2.trans (hb3.mono hk2.size); have hl3 := lt_heap hA3; obtain ⟨a0', a1'⟩ := two_cells hA3; have HA3 := Lib.hid hA3; clear hA3)
      | (go_at_call 13; refine (implDeskOk s _ zs _ (own_strs (hown4.alloc _) rfl (Nat.le_refl _)) hs2 hn2 HZ2.out).mono ?_; rintro e w6 ⟨rfl, hb6⟩))
    have hX6 := (hb6.block w4.heap.size (by simp)).trans (heap_alloc_new w4 _)
    have hA6 := (hb6.block w.heap.size (by have := lt_heap hA4; simp; omega)).trans ((Lib.alloc_old w4 _ _ (lt_heap hA4)).trans hA4)
    have hown6 := own_below (hown4.alloc _) hb6
    have hk6 := (hk4.alloc hk4.size _).trans (hb6.mono (by have := hk4.size; simp; omega))
    obtain ⟨x0, x1⟩ := two_cells hX6
    obtain ⟨y0, y1⟩ := two_cells hA6
    have hlX := lt_heap hX6
    have hlA := lt_heap hA6
    have hrow := own_strs hown6.drew rfl (Nat.le_refl _)
    have HROW := Lib.hid hrow
    clear hX6 hA6 hrow
    go_region_held3 (fun w' => w'.cell? ⟨w4.heap.size, 0, none⟩ = some (.string s) ∧ w'.cell? ⟨w4.heap.size, 1, none⟩ = some (.slice (some ⟨g2, 0, none⟩) zs.length zs.length) ∧ w'.cell? ⟨w.heap.size, 0, none⟩ = some (.string s) ∧ w'.cell? ⟨w.heap.size, 1, none⟩ = some v)
      (first | exact ⟨x0, x1, y0, y1⟩ | exact ⟨(hb7.cell (p := ⟨_, _, none⟩) hlX).trans x0, (hb7.cell (p := ⟨_, _, none⟩) hlX).trans x1, (hb7.cell (p := ⟨_, _, none⟩) hlA).trans y0, (hb7.cell (p := ⟨_, _, none⟩) hlA).trans y1⟩ | exact ⟨(hb78.cell (p := ⟨_, _, none⟩) hlX).trans x0, (hb78.cell (p := ⟨_, _, none⟩) hlX).trans x1, (hb78.cell (p := ⟨_, _, none⟩) hlA).trans y0, (hb78.cell (p := ⟨_, _, none⟩) hlA).trans y1⟩)
      (first
        | (go_at_call 12; refine (toDesk_any s v zs _ (h.below' hk6.drew) hn2).mono ?_; rintro e w7 ⟨g3, rfl, hown7, hb7⟩)
        | (go_at_call 7; refine (eqDesk_same s _ _ zs _ (HROW.out.below' hb7) (own_strs hown7 rfl (Nat.le_refl _)) (by omega)).mono ?_; rintro e w8 ⟨rfl, hb8⟩; have hb78 := hb7.trans (hb8.mono hb7.size)))
    go_wp2
    go_ret
    exact ⟨rfl, hk6.drew.trans (hb78.mono hk6.size)⟩

theorem own : ownKnob Try.prog.godebug = none := by kernel_rfl
theorem laidOut : laidOutB Try.prog = true := by kernel_rfl
theorem rowed : rowsOk Try.prog Try.f4.params.toList = true := by kernel_rfl
theorem varred : varsOk Try.prog Rows.fnExactDeskOkSpec.vars = true := by kernel_rfl
theorem resType : Try.f4.resultTypes = #[4] := by kernel_rfl

theorem contract (H : Type) (enc : TypeId × Value → H) (W : World) (base : Nat) (args : Array Value) (ds gs : List (DataW H)) (before : List MemPlace)
    (hval : ∀ (j : Nat) t v, Try.f4.params[j]? = some t → args[j]? = some v → Value.okWide Try.prog W .any base t v)
    (hW : DataW.Whole enc Try.prog Try.f4.params.toList Rows.fnExactDeskOkSpec.vars false W args.toList ds gs before) (_hL : laidMetH Try.prog Rows.fnExactDeskOkRow.laid W) :
    Calls Try.prog 4 args W fun e W' => ∃ v, e = .returned v ∧ Rows.fnExactDeskOkSpec.post enc Try.prog Try.f4 false true false false W args v W' := by
  have hW' := hW
  obtain ⟨p, q, hA0, hV, rfl, hfz, hnd⟩ := hW
  have hA : DataW.TrodAll enc Try.prog W 0 (fun _ => true) true Try.f4.params.toList args.toList ds p := hA0
  rw [Try.params4] at hA hval
  obtain ⟨v0, vs0, d0, ds0, p0, q0, hargs, rfl, rfl, h0, r0⟩ := trodAll_cons hA
  obtain ⟨rfl, rfl, rfl⟩ := trodAll_nil r0
  obtain rfl : args = #[v0] := by cases args; simp_all
  obtain ⟨rfl⟩ := trodVars_len0 hV
  obtain ⟨s0, vv0, zs0, rfl, hst0, hss0, hnn0, hzz0⟩ := open_desk (hval 0 30 v0 rfl rfl) h0
  refine (walk s0 vv0 zs0 W hst0 hss0 hnn0 hzz0).mono fun e W' ⟨he, hb⟩ => ?_
  subst he
  exact ⟨_, rfl, law_post laidOut rowed varred resType Try.underlying4 hW' ⟨rfl, rfl, rfl⟩ hb⟩

/-- A world for the witness: the settled one, the listed variables holding what their initialisers lay. -/
noncomputable def laidWorld (os : Os) : World := { World.holding Try.prog os ⟨#[], #[], []⟩ with heap := (World.holding Try.prog os ⟨#[], #[], []⟩).heap }
theorem laid_met (os : Os) : laidMet Try.prog Rows.fnExactDeskOkRow.laid ((laidWorld os).forCall (fun _ _ => 0) ⟨#[], #[.agg #[.string ByteArray.empty, .slice none 0 0]], []⟩).memory := ⟨[], rfl, List.nodup_nil, fun _ _ h => by cases h⟩
theorem reads (os : Os) {H : Type} (enc : TypeId × Value → H) : ∃ places, DataW.whole enc Try.prog ((laidWorld os).forCall (fun _ _ => 0) ⟨#[], #[.agg #[.string ByteArray.empty, .slice none 0 0]], []⟩).memory Try.f4.params.toList Rows.fnExactDeskOkSpec.vars false (#[.agg #[.string ByteArray.empty, .slice none 0 0]] : Array Value).toList 8 = some ([.agg [.lit (.string []), .nil]], [], places) := ⟨[], by kernel_rfl⟩

set_option maxRecDepth 100000 in
theorem lifted (os : Os) (started : os.Started) (H : Type) (enc : TypeId × Value → H) (F : Stop.Interp) :
    ReturnsInHanded {} Try.checked os 4 .any ((OpenSpec.ofChange Rows.fnExactDeskOkSpec).preRow enc Try.prog Try.f4 Rows.fnExactDeskOkRow.domain false Rows.fnExactDeskOkRow.laid) (((OpenSpec.ofChange Rows.fnExactDeskOkSpec).at F).post enc Try.prog Try.f4 false true false false) := by
  obtain ⟨places, hx⟩ := reads os enc
  refine returnsInHanded_of_row (C := Try.checked) (s := OpenSpec.ofChange Rows.fnExactDeskOkSpec) own started (by kernel_rfl) Try.func4
    (witness_row_at (enc := enc) (C := Try.checked) false (laidWorld os) #[.agg #[.string ByteArray.empty, .slice none 0 0]] rfl (by kernel_rfl) (by kernel_rfl) (by kernel_rfl)
      (OpenSpec.preRow_of_cond 8 hx (by kernel_rfl) (fun k hk => by cases hk) (by kernel_rfl) (laid_met os))) ?_
  intro W base args ds gs before hval hW _ _ _ hL _ _
  exact contract H enc W base args ds gs before hval hW hL

theorem said : Rows.FnExactDeskOkSaid :=
  OpenClaim.holds_of_cond 4 Try.f4 rfl rfl rfl rfl rfl rfl rfl ⟨rfl, rfl, rfl, rfl, rfl⟩ rfl rfl rfl rfl rfl (by kernel_rfl) Try.func4 (by kernel_rfl)
    (of_decide_eq_true (by kernel_rfl)) (by unfold Func.isWrapper; first | (rw [if_pos (by decide +kernel)]; kernel_rfl) | (rw [if_neg (by decide +kernel)]; exact ⟨rfl, rfl⟩))
    (fun os started H enc _ F => by rw [OpenClaim.pre_eq_preRow]; exact lifted os started H enc F)

end Go.Proofs.Ytebljcpbdjemaaa.fnExactDeskOk
