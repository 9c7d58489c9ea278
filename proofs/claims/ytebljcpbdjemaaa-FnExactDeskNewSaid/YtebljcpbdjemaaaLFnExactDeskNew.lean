/-
  FnExactDeskNew: for every text the program's DeskNew returns what the reference's returns, and what it returns shares no memory with a second call's. No condition beyond what the given statement itself bears.
-/
import Derived.Test.YtebljcpbdjemaaaDeskNew
import Derived.Test.YtebljcpbdjemaaaLaw
namespace Go.Proofs.Ytebljcpbdjemaaa.fnExactDeskNew
open Go.ChangeShapes Go.WideShapes Go.ChangeAt Go.RowKit Go.WideMaps Go.WideElems
open Go.ChangeMaps (open_string shut_string)

set_option maxHeartbeats 1600000 in
theorem walk (s : ByteArray) (w : World) :
    Calls Try.prog 3 #[.string s] w fun e w' => e = .returned (.bool true) ∧ Below w.heap.size w w' := by
  by_cases hs : s.size ≤ 1048576
  · obtain ⟨u, hu⟩ : ∃ u, deskNew s = u := ⟨_, rfl⟩
    obtain ⟨b, hb⟩ : ∃ b, Tw.walkOk s.data.toList = b := ⟨_, rfl⟩
    have h1 := fun W => specDeskNew s W hs
    have h2 := fun W => implDeskNew s W hs
    rw [hu, hb] at h1 h2
    have H1 := Lib.hid h1
    have H2 := Lib.hid h2
    clear h1 h2 hu hb
    cases b
    all_goals
      go_enter Try.func3, Try.ntmps3
      go_wp2_with (first
        | (go_at_call 5; refine (H1.out _).mono ?_; rintro e w1 ⟨rfl, hb1⟩; have hA1 := DeskAt.new w1 u)
        | (go_at_call 6; first
            | (have hq := hb5; refine (H2.out _).mono ?_; rintro e w6 ⟨rfl, hb6⟩; have hA6 := hA5.below hb6; have hB6 := hB5.below hb6; have hC6 := DeskAt.new w6 u; have a6 := fun o => (hA6.alloc o).cells)
            | (refine (H2.out _).mono ?_; rintro e w2 ⟨rfl, hb2⟩; have hA2 := hA1.below hb2; have hB2 := DeskAt.new w2 u; have a2 := fun o => (hA2.alloc o).cells))
        | (go_at_call 7; first
            | (have hq := hb6; refine (eqDesk_nil _ _).mono ?_; rintro e w7 ⟨rfl, hb7⟩; have hB7 := (hB6.alloc _).below hb7; have b7 := hB7.cells)
            | (refine (eqDesk_nil _ _).mono ?_; rintro e w3 ⟨rfl, hb3⟩; have hA3 := (hA2.alloc _).below hb3; have hB3 := hB2.below hb3; have b3 := hB3.cells))
        | (go_at_call 8; refine (markDesk_nil _ _ _).mono ?_; rintro e w4 ⟨rfl, hb4⟩; have hA4 := hA3.below hb4; have hB4 := hB3.below hb4; have b4 := hB4.cells)
        | (go_at_call 9; first
            | (have hq := hb7; refine (heldDesk_nil _ _).mono ?_; rintro e w8 ⟨rfl, hb8⟩)
            | (refine (heldDesk_nil _ _).mono ?_; rintro e w5 ⟨rfl, hb5⟩; have hA5 := hA4.below hb5; have hB5 := hB4.below hb5)))
      go_ret
      have k1 := hb1.size
      have k2 : Below w.heap.size w w2 := (hb1.alloc k1 _).trans (hb2.mono (by simp; omega))
      have k3 := (k2.alloc k2.size _).trans (hb3.mono (by have := k2.size; simp; omega))
      have k4 := k3.trans (hb4.mono k3.size)
      have k5 := k4.trans (hb5.mono k4.size)
      have k6 := k5.trans (hb6.mono k5.size)
      have k7 := (k6.alloc k6.size _).trans (hb7.mono (by have := k6.size; simp; omega))
      exact ⟨rfl, k7.trans (hb8.mono k7.size)⟩
  · have hs' : 1048576 < s.size := by omega
    go_enter Try.func3, Try.ntmps3
    go_wp2_with fail
    go_ret
    exact ⟨rfl, Below.refl _ _⟩

theorem own : ownKnob Try.prog.godebug = none := by kernel_rfl
theorem laidOut : laidOutB Try.prog = true := by kernel_rfl
theorem rowed : rowsOk Try.prog Try.f3.params.toList = true := by kernel_rfl
theorem varred : varsOk Try.prog Rows.fnExactDeskNewSpec.vars = true := by kernel_rfl
theorem resType : Try.f3.resultTypes = #[4] := by kernel_rfl

theorem contract (H : Type) (enc : TypeId × Value → H) (W : World) (base : Nat) (args : Array Value) (ds gs : List (DataW H)) (before : List MemPlace)
    (hval : ∀ (j : Nat) t v, Try.f3.params[j]? = some t → args[j]? = some v → Value.okWide Try.prog W .any base t v)
    (hW : DataW.Whole enc Try.prog Try.f3.params.toList Rows.fnExactDeskNewSpec.vars false W args.toList ds gs before) (_hL : laidMetH Try.prog Rows.fnExactDeskNewRow.laid W) :
    Calls Try.prog 3 args W fun e W' => ∃ v, e = .returned v ∧ Rows.fnExactDeskNewSpec.post enc Try.prog Try.f3 false true false false W args v W' := by
  have hW' := hW
  obtain ⟨p, q, hA0, hV, rfl, hfz, hnd⟩ := hW
  have hA : DataW.TrodAll enc Try.prog W 0 (fun _ => true) true Try.f3.params.toList args.toList ds p := hA0
  rw [Try.params3] at hA hval
  obtain ⟨v0, vs0, d0, ds0, p0, q0, hargs, rfl, rfl, h0, r0⟩ := trodAll_cons hA
  obtain ⟨rfl, rfl, rfl⟩ := trodAll_nil r0
  obtain rfl : args = #[v0] := by cases args; simp_all
  obtain ⟨rfl⟩ := trodVars_len0 hV
  obtain ⟨s0, rfl, rfl, rfl, z0⟩ := open_string Try.underlying9 (hval 0 9 v0 rfl rfl) h0
  refine (walk s0 W ).mono fun e W' ⟨he, hb⟩ => ?_
  subst he
  exact ⟨_, rfl, law_post laidOut rowed varred resType Try.underlying4 hW' ⟨rfl, rfl, rfl⟩ hb⟩

/-- A world for the witness: the settled one, the listed variables holding what their initialisers lay. -/
noncomputable def laidWorld (os : Os) : World := { World.holding Try.prog os ⟨#[], #[], []⟩ with heap := (World.holding Try.prog os ⟨#[], #[], []⟩).heap }
theorem laid_met (os : Os) : laidMet Try.prog Rows.fnExactDeskNewRow.laid ((laidWorld os).forCall (fun _ _ => 0) ⟨#[], #[.string ByteArray.empty], []⟩).memory := ⟨[], rfl, List.nodup_nil, fun _ _ h => by cases h⟩
theorem reads (os : Os) {H : Type} (enc : TypeId × Value → H) : ∃ places, DataW.whole enc Try.prog ((laidWorld os).forCall (fun _ _ => 0) ⟨#[], #[.string ByteArray.empty], []⟩).memory Try.f3.params.toList Rows.fnExactDeskNewSpec.vars false (#[.string ByteArray.empty] : Array Value).toList 8 = some ([.lit (.string [])], [], places) := ⟨[], by kernel_rfl⟩

set_option maxRecDepth 100000 in
theorem lifted (os : Os) (started : os.Started) (H : Type) (enc : TypeId × Value → H) (F : Stop.Interp) :
    ReturnsInHanded {} Try.checked os 3 .any ((OpenSpec.ofChange Rows.fnExactDeskNewSpec).preRow enc Try.prog Try.f3 Rows.fnExactDeskNewRow.domain false Rows.fnExactDeskNewRow.laid) (((OpenSpec.ofChange Rows.fnExactDeskNewSpec).at F).post enc Try.prog Try.f3 false true false false) := by
  obtain ⟨places, hx⟩ := reads os enc
  refine returnsInHanded_of_row (C := Try.checked) (s := OpenSpec.ofChange Rows.fnExactDeskNewSpec) own started (by kernel_rfl) Try.func3
    (witness_row_at (enc := enc) (C := Try.checked) false (laidWorld os) #[.string ByteArray.empty] rfl (by kernel_rfl) (by kernel_rfl) (by kernel_rfl)
      (OpenSpec.preRow_of_cond 8 hx (by kernel_rfl) (fun k hk => by cases hk) (by kernel_rfl) (laid_met os))) ?_
  intro W base args ds gs before hval hW _ _ _ hL _ _
  exact contract H enc W base args ds gs before hval hW hL

theorem said : Rows.FnExactDeskNewSaid :=
  OpenClaim.holds_of_cond 3 Try.f3 rfl rfl rfl rfl rfl rfl rfl ⟨rfl, rfl, rfl, rfl, rfl⟩ rfl rfl rfl rfl rfl (by kernel_rfl) Try.func3 (by kernel_rfl)
    (of_decide_eq_true (by kernel_rfl)) (by unfold Func.isWrapper; first | (rw [if_pos (by decide +kernel)]; kernel_rfl) | (rw [if_neg (by decide +kernel)]; exact ⟨rfl, rfl⟩))
    (fun os started H enc _ F => by rw [OpenClaim.pre_eq_preRow]; exact lifted os started H enc F)

end Go.Proofs.Ytebljcpbdjemaaa.fnExactDeskNew
