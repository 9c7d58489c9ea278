/-
  FnDeskOk: for every code: the drawn desk is one for the program exactly if it is one for the reference; a desk without its walks of before is one, and so is the empty desk. No condition beyond what the given statement itself bears.
-/
import Derived.Test.YtpkenccgjlhnlaaDrawDesks
import Derived.Test.YtpkenccgjlhnlaaDeskAt
import Derived.Test.YtpkenccgjlhnlaaAlive
import Derived.Test.YtpkenccgjlhnlaaOpenCode


namespace Go.Proofs.Ytpkenccgjlhnlaa.fnDeskOk
open Go.ChangeShapes Go.WideShapes Go.ChangeAt Go.RowKit Go.WideMaps Go.WideElems
open Go.ChangeMaps (open_string shut_string)

theorem specOk_is (s : ByteArray) (v : Value) (zs : List ByteArray) (w : World) (h : Desk41 w s v zs) (b : Bool) (hb : deskOk s zs = b) :
    Calls Try.prog 6 #[.agg #[.string s, v]] w fun e w' => e = .returned (.bool b) ∧ Below w.heap.size w w' := hb ▸ specDeskOk s v zs w h.past.strs (by have := h.hs; omega) (by have := h.hl; omega) (fun z hz => by have := h.hz z hz; omega)
theorem implOk_is (s : ByteArray) (v : Value) (zs : List ByteArray) (w : World) (h : Desk41 w s v zs) (b : Bool) (hb : deskOk s zs = b) :
    Calls Try.prog 5 #[.agg #[.string s, v]] w fun e w' => e = .returned (.bool b) ∧ Below w.heap.size w w' := hb ▸ implDeskOk s v zs w h.past.strs (by have := h.hs; omega) (by have := h.hl; omega) (fun z hz => by have := h.hz z hz; omega)
theorem deskOk_is (s : ByteArray) (w : World) (hs : s.size ≤ 41) (b : Bool) (h : deskOk s [] = b) :
    Calls Try.prog 5 #[.agg #[.string s, .slice none 0 0]] w fun e w' => e = .returned (.bool b) ∧ Below w.heap.size w w' := h ▸ implDeskOk s _ [] w (.inl ⟨rfl, rfl⟩) (by omega) (by simp) (by simp)
theorem ok_alone {s : ByteArray} {zs : List ByteArray} (h : deskOk s zs = true) : deskOk s [] = true := deskOk_mk (deskOk_parts h).1 (by simp) (by simp)

set_option maxRecDepth 100000 in
set_option maxHeartbeats 3200000 in
theorem walk (v : Value) (n : Nat) (w : World) (h : CodeAt w v n) :
    Calls Try.prog 3 #[v] w fun e w' => e = .returned (.bool true) ∧ Below w.heap.size w w' := by
  have hdraw := drawDeskOk v n w h
  obtain ⟨a, cap, rfl⟩ := code_value h
  have HD := Lib.hid hdraw
  clear hdraw h
  by_cases hn : n ≤ 1048576
  · go_enter Try.func3, Try.ntmps3
    go_wp2_with (go_at_call 4; refine HD.out.mono ?_; rintro e w1 ⟨s, u, zs, rfl, hk, hb1⟩; obtain ⟨aU, cU, hvU⟩ := past_slice hk.past (M := zs.length) rfl; subst hvU; have HK := Lib.hid hk; have hs := hk.hs; clear hk)
    obtain ⟨b, hb⟩ : ∃ b, deskOk s zs = b := ⟨_, rfl⟩
    have HB := Lib.hid hb
    obtain ⟨L, hL⟩ : ∃ L, zs.length = L := ⟨_, rfl⟩
    rw [hL] at HK ⊢
    clear hb hL
    have HE0 := Lib.hid (fun W => deskOk_is ⟨#[]⟩ W (by decide) true rfl)
    cases b
    · go_wp2_with (first
        | (go_at_call 5; first
            | (have hq := hb3; refine (HE0.out _).mono ?_; rintro e w4 ⟨rfl, hb4⟩)
            | (refine (implOk_is s _ zs _ (HK.out.ext ((Ext.refl _).alloc _)) false HB.out).mono ?_; rintro e w2 ⟨rfl, hb2⟩; have r2 := box_keep hb2; have c20 := cell_of_row _ _ 0 _ _ _ r2; have c21 := cell_of_row _ _ 1 _ _ _ r2; have K2 := Lib.hid ((HK.out.ext ((Ext.refl _).alloc _)).ext hb2); have B2 := Lib.hid ((hb1.alloc hb1.size _).trans (hb2.mono (hb1.alloc hb1.size _).size)); clear r2))
        | (go_at_call 6; refine (specOk_is s _ zs _ K2.out false HB.out).mono ?_; rintro e w3 ⟨rfl, hb3⟩)
        | (go_at_call 7; refine (alive_yes _).mono ?_; rintro e w' ⟨rfl, rfl⟩))
      go_ret
      exact ⟨rfl, (B2.out.trans (hb3.mono B2.out.size)).trans (hb4.mono (B2.out.trans (hb3.mono B2.out.size)).size)⟩
    · go_wp2_with (first
        | (go_at_call 5; first
            | (have hq := hb5; refine (HE0.out _).mono ?_; rintro e w4 ⟨rfl, hb4⟩)
            | (have hq := hb3; refine (deskOk_is s _ hs true (ok_alone HB.out)).mono ?_; rintro e w5 ⟨rfl, hb5⟩; have B5 := Lib.hid (B3.out.trans (hb5.mono B3.out.size)))
            | (refine (implOk_is s _ zs _ (HK.out.ext ((Ext.refl _).alloc _)) true HB.out).mono ?_; rintro e w2 ⟨rfl, hb2⟩; have r2 := box_keep hb2; have c20 := cell_of_row _ _ 0 _ _ _ r2; have c21 := cell_of_row _ _ 1 _ _ _ r2; have R2 := Lib.hid r2; have K2 := Lib.hid ((HK.out.ext ((Ext.refl _).alloc _)).ext hb2); have B2 := Lib.hid ((hb1.alloc hb1.size _).trans (hb2.mono (hb1.alloc hb1.size _).size)); clear r2))
        | (go_at_call 6; refine (specOk_is s _ zs _ K2.out true HB.out).mono ?_; rintro e w3 ⟨rfl, hb3⟩; have r3 := Ext.row hb3 R2.out; have c30 := cell_of_row _ _ 0 _ _ _ r3; have B3 := Lib.hid (B2.out.trans (hb3.mono B2.out.size)); clear r3)
        | (go_at_call 7; refine (alive_yes _).mono ?_; rintro e w' ⟨rfl, rfl⟩))
      go_ret
      exact ⟨rfl, B5.out.trans (hb4.mono B5.out.size)⟩
  · have hn' : 1048576 < n := by omega
    go_enter Try.func3, Try.ntmps3
    go_wp2_with fail
    go_ret
    exact ⟨rfl, Below.refl _ _⟩

set_option maxRecDepth 100000 in
theorem own : ownKnob Try.prog.godebug = none := by kernel_rfl
set_option maxRecDepth 100000 in
theorem laidOut : laidOutB Try.prog = true := by kernel_rfl
set_option maxRecDepth 100000 in
theorem rowed : rowsOk Try.prog Try.f3.params.toList = true := by kernel_rfl
set_option maxRecDepth 100000 in
theorem varred : varsOk Try.prog Rows.fnDeskOkSpec.vars = true := by kernel_rfl
set_option maxRecDepth 100000 in
theorem resType : Try.f3.resultTypes = #[4] := by kernel_rfl

set_option maxRecDepth 100000 in
theorem contract (H : Type) (enc : TypeId × Value → H) (W : World) (base : Nat) (args : Array Value) (ds gs : List (DataW H)) (before : List MemPlace)
    (hval : ∀ (j : Nat) t v, Try.f3.params[j]? = some t → args[j]? = some v → Value.okWide Try.prog W .any base t v)
    (hW : DataW.Whole enc Try.prog Try.f3.params.toList Rows.fnDeskOkSpec.vars false W args.toList ds gs before) (_hL : laidMetH Try.prog Rows.fnDeskOkRow.laid W) :
    Calls Try.prog 3 args W fun e W' => ∃ v, e = .returned v ∧ Rows.fnDeskOkSpec.post enc Try.prog Try.f3 false true false false W args v W' := by
  have hW' := hW
  obtain ⟨p, q, hA0, hV, rfl, hfz, hnd⟩ := hW
  have hA : DataW.TrodAll enc Try.prog W 0 (fun _ => true) true Try.f3.params.toList args.toList ds p := hA0
  rw [Try.params3] at hA hval
  obtain ⟨v0, vs0, d0, ds0, p0, q0, hargs, rfl, rfl, h0, r0⟩ := trodAll_cons hA
  obtain ⟨rfl, rfl, rfl⟩ := trodAll_nil r0
  obtain rfl : args = #[v0] := by cases args; simp_all
  obtain ⟨rfl⟩ := trodVars_len0 hV
  obtain ⟨n0, hcode0⟩ := open_code (hval 0 22 v0 rfl rfl) h0
  refine (walk v0 n0 W hcode0).mono fun e W' ⟨he, hb⟩ => ?_
  subst he
  exact ⟨_, rfl, law_post laidOut rowed varred resType Try.underlying4 hW' ⟨rfl, rfl, rfl⟩ hb⟩

/-- A world for the witness: the settled one, the listed variables holding what their initialisers lay. -/
noncomputable def laidWorld (os : Os) : World := { World.holding Try.prog os ⟨#[], #[], []⟩ with heap := (World.holding Try.prog os ⟨#[], #[], []⟩).heap }
set_option maxRecDepth 100000 in
theorem laid_met (os : Os) : laidMet Try.prog Rows.fnDeskOkRow.laid ((laidWorld os).forCall (fun _ _ => 0) ⟨#[], #[.slice none 0 0], []⟩).memory := ⟨[], rfl, List.nodup_nil, fun _ _ h => by cases h⟩
set_option maxRecDepth 100000 in
theorem reads (os : Os) {H : Type} (enc : TypeId × Value → H) : ∃ places, DataW.whole enc Try.prog ((laidWorld os).forCall (fun _ _ => 0) ⟨#[], #[.slice none 0 0], []⟩).memory Try.f3.params.toList Rows.fnDeskOkSpec.vars false (#[.slice none 0 0] : Array Value).toList 8 = some ([.nil], [], places) := ⟨[], by kernel_rfl⟩

set_option maxRecDepth 100000 in
theorem lifted (os : Os) (started : os.Started) (H : Type) (enc : TypeId × Value → H) (F : Stop.Interp) :
    ReturnsInHanded {} Try.checked os 3 .any ((OpenSpec.ofChange Rows.fnDeskOkSpec).preRow enc Try.prog Try.f3 Rows.fnDeskOkRow.domain false Rows.fnDeskOkRow.laid) (((OpenSpec.ofChange Rows.fnDeskOkSpec).at F).post enc Try.prog Try.f3 false true false false) := by
  obtain ⟨places, hx⟩ := reads os enc
  refine returnsInHanded_of_row (C := Try.checked) (s := OpenSpec.ofChange Rows.fnDeskOkSpec) own started (by kernel_rfl) Try.func3
    (witness_row_at (enc := enc) (C := Try.checked) false (laidWorld os) #[.slice none 0 0] rfl (by kernel_rfl) (by kernel_rfl) (by kernel_rfl)
      (OpenSpec.preRow_of_cond 8 hx (by kernel_rfl) (fun k hk => by cases hk) (by kernel_rfl) (laid_met os))) ?_
  intro W base args ds gs before hval hW _ _ _ hL _ _
  exact contract H enc W base args ds gs before hval hW hL

set_option maxRecDepth 100000 in
theorem said : Rows.FnDeskOkSaid :=
  OpenClaim.holds_of_cond 3 Try.f3 rfl rfl rfl rfl rfl rfl rfl ⟨rfl, rfl, rfl, rfl, rfl⟩ rfl rfl rfl rfl rfl (by kernel_rfl) Try.func3 (by kernel_rfl)
    (of_decide_eq_true (by kernel_rfl)) (by unfold Func.isWrapper; first | (rw [if_pos (by decide +kernel)]; kernel_rfl) | (rw [if_neg (by decide +kernel)]; exact ⟨rfl, rfl⟩))
    (fun os started H enc _ F => by rw [OpenClaim.pre_eq_preRow]; exact lifted os started H enc F)

end Go.Proofs.Ytpkenccgjlhnlaa.fnDeskOk
