/-
  FnExactUnfoldedOf: the program's UnfoldedOf returns what the reference's returns, for every text, place and way. No condition beyond what the given statement itself bears.
-/
import Derived.Test.YtebljcpbdjemaaaDoorUnfold
import Derived.Test.YtebljcpbdjemaaaDoorLaw
import Derived.Test.YtebljcpbdjemaaaDoorCards
import Derived.Test.YtebljcpbdjemaaaDoorTie
namespace Go.Proofs.YtebljcpbdjemaaaDoor.fnExactUnfoldedOf
open Go.ChangeShapes Go.WideShapes Go.ChangeAt Go.RowKit Go.WideMaps Go.WideElems
open Go.ChangeMaps (open_string shut_string)

set_option maxHeartbeats 800000 in
theorem walk (s : ByteArray) (p way : Int) (w : World) (hw : WaysAt w) (hd : DirsAt w) (hp : -9223372036854775808 ≤ p ∧ p ≤ 9223372036854775807) (hway : -9223372036854775808 ≤ way ∧ way ≤ 9223372036854775807) :
    Calls Tryd.prog 3 #[.string s, .int .i64 p, .int .i64 way] w fun e w' => e = .returned (.bool true) ∧ Below w.heap.size w w' := by
  by_cases hs : s.size ≤ 1048576
  · obtain ⟨u, hu⟩ : ∃ u, Tw.str (Tw.unfolded s.data.toList p way) = u := ⟨_, rfl⟩
    obtain ⟨b, hb⟩ : ∃ b, Tw.unfoldedOk s.data.toList p way = b := ⟨_, rfl⟩
    have h1 := fun W => specUnfolded s p way W hs hp hway
    have h2 := fun W => implUnfolded s p way W hs
    rw [hu, hb] at h1 h2
    have H1 := Lib.hid h1
    have H2 := Lib.hid h2
    clear h1 h2 hu hb
    cases b
    all_goals
      go_enter Tryd.func3, Tryd.ntmps3
      go_wp2_with (first
        | (go_at_call 8; refine (H1.out _).mono ?_; rintro e w1 ⟨rfl, hb1⟩)
        | (go_at_call 9; refine (H2.out _ (hw.below' hb1) (hd.below' hb1)).mono ?_; rintro e w2 ⟨rfl, hb2⟩))
      go_ret
      exact ⟨rfl, hb1.trans (hb2.mono hb1.size)⟩
  · have hs' : 1048576 < s.size := by omega
    go_enter Tryd.func3, Tryd.ntmps3
    go_wp2_with fail
    go_ret
    exact ⟨rfl, Below.refl _ _⟩

theorem own : ownKnob Tryd.prog.godebug = none := by kernel_rfl
theorem laidOut : laidOutB Tryd.prog = true := by kernel_rfl
theorem rowed : rowsOk Tryd.prog Tryd.f3.params.toList = true := by kernel_rfl
theorem varred : varsOk Tryd.prog Rows.fnExactUnfoldedOfSpec.vars = true := by kernel_rfl
theorem resType : Tryd.f3.resultTypes = #[4] := by kernel_rfl

theorem contract (H : Type) (enc : TypeId × Value → H) (W : World) (base : Nat) (args : Array Value) (ds gs : List (DataW H)) (before : List MemPlace)
    (hval : ∀ (j : Nat) t v, Tryd.f3.params[j]? = some t → args[j]? = some v → Value.okWide Tryd.prog W .any base t v)
    (hW : DataW.Whole enc Tryd.prog Tryd.f3.params.toList Rows.fnExactUnfoldedOfSpec.vars false W args.toList ds gs before) (hL : laidMetH Tryd.prog Rows.fnExactUnfoldedOfRow.laid W) :
    Calls Tryd.prog 3 args W fun e W' => ∃ v, e = .returned v ∧ Rows.fnExactUnfoldedOfSpec.post enc Tryd.prog Tryd.f3 false true false false W args v W' := by
  have hW' := hW
  obtain ⟨p, q, hA0, hV, rfl, hfz, hnd⟩ := hW
  have hA : DataW.TrodAll enc Tryd.prog W 0 (fun _ => true) true Tryd.f3.params.toList args.toList ds p := hA0
  rw [Tryd.params3] at hA hval
  obtain ⟨v0, vs0, d0, ds0, p0, q0, hargs, rfl, rfl, h0, r0⟩ := trodAll_cons hA
  obtain ⟨v1, vs1, d1, ds1, p1, q1, rfl, rfl, rfl, h1, r1⟩ := trodAll_cons r0
  obtain ⟨v2, vs2, d2, ds2, p2, q2, rfl, rfl, rfl, h2, r2⟩ := trodAll_cons r1
  obtain ⟨rfl, rfl, rfl⟩ := trodAll_nil r2
  obtain rfl : args = #[v0, v1, v2] := by cases args; simp_all
  obtain ⟨g0, g1, rfl⟩ := trodVars_len2 hV
  obtain ⟨s0, rfl, rfl, rfl, z0⟩ := open_string Tryd.underlying9 (hval 0 9 v0 rfl rfl) h0
  obtain ⟨x1, rfl, rfl, rfl, z1⟩ := open_int Tryd.underlying3 (hval 1 3 v1 rfl rfl) h1
  obtain ⟨x2, rfl, rfl, rfl, z2⟩ := open_int Tryd.underlying3 (hval 2 3 v2 rfl rfl) h2
  have t_ways : WaysAt W := waysAt (by kernel_rfl) hL (by simp [Rows.fnExactUnfoldedOfRow])
  have t_dirs : DirsAt W := dirsAt (by kernel_rfl) hL (by simp [Rows.fnExactUnfoldedOfRow])
  refine (walk s0 x1 x2 W t_ways t_dirs (bounds_i64 z1) (bounds_i64 z2)).mono fun e W' ⟨he, hb⟩ => ?_
  subst he
  exact ⟨_, rfl, law_post laidOut rowed varred resType Tryd.underlying4 hW' ⟨rfl, rfl, rfl⟩ hb⟩

/-- A world for the witness: the settled one, the listed variables holding what their initialisers lay. -/
noncomputable def laidWorld (os : Os) : World := { World.holding Tryd.prog os ⟨#[], #[], []⟩ with heap := (((World.holding Tryd.prog os ⟨#[], #[], []⟩).heap.modify 0 fun
      | .cells _ t frozen => .cells #[.string ⟨#[101, 110, 119, 115]⟩, .string ⟨#[110, 119, 115, 101]⟩, .string ⟨#[119, 115, 101, 110]⟩, .string ⟨#[115, 101, 110, 119]⟩, .string ⟨#[101, 115, 119, 110]⟩, .string ⟨#[110, 101, 115, 119]⟩, .string ⟨#[119, 110, 101, 115]⟩, .string ⟨#[115, 119, 110, 101]⟩] t frozen
      | o => o).modify 1 fun
      | .cells _ t frozen => .cells #[.int .i64 1, .int .i64 0, .int .i64 0, .int .i64 1, .int .i64 (-1), .int .i64 0, .int .i64 0, .int .i64 (-1)] t frozen
      | o => o) }
theorem laid_met (os : Os) : laidMet Tryd.prog Rows.fnExactUnfoldedOfRow.laid ((laidWorld os).forCall (fun _ _ => 0) ⟨#[], #[.string ByteArray.empty, .int .i64 0, .int .i64 0], []⟩).memory := laidMet_of_run' 8 (by kernel_rfl) (by kernel_rfl)
theorem reads (os : Os) {H : Type} (enc : TypeId × Value → H) : ∃ places, DataW.whole enc Tryd.prog ((laidWorld os).forCall (fun _ _ => 0) ⟨#[], #[.string ByteArray.empty, .int .i64 0, .int .i64 0], []⟩).memory Tryd.f3.params.toList Rows.fnExactUnfoldedOfSpec.vars false (#[.string ByteArray.empty, .int .i64 0, .int .i64 0] : Array Value).toList 8 = some ([.lit (.string []), .lit (.int .i64 0), .lit (.int .i64 0)], [Rows.laid_loop_example_turtlewalks_impl_directions, Rows.laid_loop_example_turtlewalks_impl_wayLetters], places) := ⟨MemPlace.row ⟨1, 0, none⟩ 8 ++ MemPlace.row ⟨0, 0, none⟩ 8, by kernel_rfl⟩

set_option maxRecDepth 100000 in
theorem lifted (os : Os) (started : os.Started) (H : Type) (enc : TypeId × Value → H) (F : Stop.Interp) :
    ReturnsInHanded {} Tryd.checked os 3 .any ((OpenSpec.ofChange Rows.fnExactUnfoldedOfSpec).preRow enc Tryd.prog Tryd.f3 Rows.fnExactUnfoldedOfRow.domain false Rows.fnExactUnfoldedOfRow.laid) (((OpenSpec.ofChange Rows.fnExactUnfoldedOfSpec).at F).post enc Tryd.prog Tryd.f3 false true false false) := by
  obtain ⟨places, hx⟩ := reads os enc
  refine returnsInHanded_of_row (C := Tryd.checked) (s := OpenSpec.ofChange Rows.fnExactUnfoldedOfSpec) own started (by kernel_rfl) Tryd.func3
    (witness_row_at (enc := enc) (C := Tryd.checked) false (laidWorld os) #[.string ByteArray.empty, .int .i64 0, .int .i64 0] rfl (by kernel_rfl) (by kernel_rfl) (by kernel_rfl)
      (OpenSpec.preRow_of_cond 8 hx (by kernel_rfl) (fun k hk => by cases hk) (by kernel_rfl) (laid_met os))) ?_
  intro W base args ds gs before hval hW _ _ _ hL _ _
  exact contract H enc W base args ds gs before hval hW hL

theorem said : Rows.FnExactUnfoldedOfSaid :=
  OpenClaim.holds_of_cond 3 Tryd.f3 rfl rfl rfl rfl rfl rfl rfl ⟨rfl, rfl, rfl, rfl, rfl⟩ rfl rfl rfl rfl rfl (by kernel_rfl) Tryd.func3 (by kernel_rfl)
    (of_decide_eq_true (by kernel_rfl)) (by unfold Func.isWrapper; first | (rw [if_pos (by decide +kernel)]; kernel_rfl) | (rw [if_neg (by decide +kernel)]; exact ⟨rfl, rfl⟩))
    (fun os started H enc _ F => by rw [OpenClaim.pre_eq_preRow]; exact lifted os started H enc F)

theorem plain (f : FuncId) (fn : Func) (hf : Tryd.pinned.checked.prog.funcNamed "loop.example/turtlewalks/laws.FnExactUnfoldedOf" = some f) (hfn : Tryd.pinned.checked.prog.funcs[f]? = some fn) :
    false = Tryd.pinned.checked.prog.looks [] ∧ ∀ (j : Nat) t, fn.params[j]? = some t → Tryd.pinned.checked.prog.wantsStandIn t = false := by
  obtain rfl : f = 3 := Option.some.inj ((show Tryd.prog.funcNamed "loop.example/turtlewalks/laws.FnExactUnfoldedOf" = some 3 by kernel_rfl).symm.trans hf) |>.symm
  obtain rfl : fn = Tryd.f3 := (Option.some.inj (Tryd.func3.symm.trans hfn)).symm
  refine ⟨by kernel_rfl, fun j t ht => ?_⟩
  rw [Tryd.params3] at ht
  have hm : t ∈ [9, 3, 3] := by simpa using Array.mem_of_getElem? ht
  have hall : ([9, 3, 3].all fun u => !Tryd.prog.wantsStandIn u) = true := by kernel_rfl
  exact (show Tryd.prog.wantsStandIn t = false by simpa using List.all_eq_true.1 hall t hm)

theorem card : Rows.FnExactUnfoldedOfCardSaid :=
  Claim7.holds_tied_plain_at .later [] _ _ _ _ said (fun _ h => by cases h) (by kernel_rfl) (fun _ h => by cases h) fnExactUnfoldedOf_row_tie rfl ⟨rfl, rfl⟩ (by kernel_rfl) rfl plain (by kernel_rfl)

end Go.Proofs.YtebljcpbdjemaaaDoor.fnExactUnfoldedOf
