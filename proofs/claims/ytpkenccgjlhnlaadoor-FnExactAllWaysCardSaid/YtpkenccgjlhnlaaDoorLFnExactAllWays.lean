/-
  FnExactAllWays: for every text the program's AllWays returns what the reference's returns, in memory of its own. No condition beyond what the given statement itself bears.
-/
import Derived.Test.YtpkenccgjlhnlaaDoorAllWaysSpec
import Derived.Test.YtpkenccgjlhnlaaDoorExt
import Derived.Test.YtpkenccgjlhnlaaDoorLaw
import Derived.Test.YtpkenccgjlhnlaaDoorCards
import Derived.Test.YtpkenccgjlhnlaaDoorTie
namespace Go.Proofs.YtpkenccgjlhnlaaDoor.fnExactAllWays
open Go.ChangeShapes Go.WideShapes Go.ChangeAt Go.RowKit Go.WideMaps Go.WideElems
open Go.ChangeMaps (open_string shut_string)

theorem allW_few (s : ByteArray) : (allW s).length ≤ 8 := by
  unfold allW
  split
  · have := (Tw.insAll_facts (Tw.waysUpTo s.data.toList 8)).2.2
    rw [Tw.waysUpTo_length] at this
    rw [List.length_map]
    exact this
  · exact Nat.zero_le _
theorem mark_one (v : Value) (zs : List ByteArray) (w : World) (h : PastAt w v zs) (L : Nat) (hL : zs.length = L) (hn : L ≤ 1048577) :
    Calls Tryd.prog 19 #[v, .int .i64 1] w fun e w' => e = .returned (.int .i64 (1 + (L : Int))) ∧ PastAt w' v (marksOf 1 L) ∧ But v w w' := by
  subst hL
  exact markStrings_any v zs 1 w h hn (by omega) (by omega)
theorem held_one (v : Value) (n : Nat) (w : World) (h : PastAt w v (marksOf 1 n)) (hn : n ≤ 1048577) :
    Calls Tryd.prog 20 #[v, .int .i64 1] w fun e w' => e = .returned (.int .i64 (1 + (n : Int))) ∧ Below w.heap.size w w' := heldStrings_any v n 1 w h hn (by omega) (by omega)
theorem eq_same (v u : Value) (zs : List ByteArray) (w : World) (h : StrsAt w v zs) (k : StrsAt w u zs) (hn : zs.length ≤ 1048577) :
    Calls Tryd.prog 18 #[v, u] w fun e w' => e = .returned (.bool true) ∧ Below w.heap.size w w' := by
  have := eqStrings_any v u zs zs w h k (by omega) (by omega)
  rwa [decide_eq_true rfl] at this

set_option maxRecDepth 100000 in
set_option maxHeartbeats 1600000 in
theorem walk (s : ByteArray) (w : World) (hw : WaysAt w) :
    Calls Tryd.prog 4 #[.string s] w fun e w' => e = .returned (.bool true) ∧ Below w.heap.size w w' := by
  by_cases hs : s.size ≤ 1048576
  · have hfew := allW_few s
    have hsp := fun W => specAllWays s W hs
    have him := fun W => implAllWays s W hs
    obtain ⟨zs, hzs⟩ : ∃ zs, allW s = zs := ⟨_, rfl⟩
    rw [hzs] at hfew hsp him
    obtain ⟨L, hL⟩ : ∃ L, zs.length = L := ⟨_, rfl⟩
    rw [hL] at hfew
    have HSP := Lib.hid hsp
    have HIM := Lib.hid him
    have HL := Lib.hid hL
    have HW := Lib.hid hw
    clear hsp him hL hw hzs
    go_enter Tryd.func4, Tryd.ntmps4
    go_wp2_with (first
      | (go_at_call 16; refine (HSP.out w).mono ?_; rintro e w1 ⟨v1, rfl, hp1, hf1, hb1⟩; obtain ⟨a1, c1, hv1⟩ := past_slice hp1 HL.out; subst hv1; have P1 := Lib.hid hp1; have hs1 := hb1.size; clear hp1)
      | (go_at_call 17; first
          | (have hq := B4; refine (HIM.out _ (HW.out.below' B4.out)).mono ?_; rintro e w5 ⟨v5, rfl, hp5, hf5, hb5⟩; obtain ⟨a5, c5, hv5⟩ := past_slice hp5 HL.out; subst hv5; have P5 := Lib.hid hp5; have B5 := Lib.hid (B4.out.trans (hb5.mono hs4)); have hs5 := B5.out.size; have Q5 := Lib.hid (Q4.out.below' hb5); have M5 := Lib.hid (M4.out.below hb5); clear hp5 hb5)
          | (refine (HIM.out _ (HW.out.below' hb1)).mono ?_; rintro e w2 ⟨v2, rfl, hp2, hf2, hb2⟩; obtain ⟨a2, c2, hv2⟩ := past_slice hp2 HL.out; subst hv2; have P2 := Lib.hid hp2; have B2 := Lib.hid (hb1.trans (hb2.mono hs1)); have hs2 := B2.out.size; have Q2 := Lib.hid (P1.out.below hb2).strs; have F2 : Hid (∀ b, (Value.slice a2 L c2).ownBlock = some b → (Value.slice a1 L c1).ownBlock ≠ some b) := (fun b hb h9 => by have h8 := hf2 b hb; have h7 := past_lt P1.out h9; omega); have G2 := Lib.hid (fresh_ext (a := w) hb1 hf2); clear hp2 hb2 hf2))
      | (go_at_call 18; first
          | (have hq := B5; refine (eq_same _ _ zs _ P5.out.strs Q5.out (by rw [HL.out]; omega)).mono ?_; rintro e w6 ⟨rfl, hb6⟩; have B6 := Lib.hid (B5.out.trans (hb6.mono hs5)); have hs6 := B6.out.size; have M6 := Lib.hid (M5.out.below hb6); clear hb6)
          | (refine (eq_same _ _ zs _ P2.out.strs Q2.out (by rw [HL.out]; omega)).mono ?_; rintro e w3 ⟨rfl, hb3⟩; have P3 := Lib.hid (P2.out.below hb3); have Q3 := Lib.hid (Q2.out.below' hb3); have B3 := Lib.hid (B2.out.trans (hb3.mono hs2)); have hs3 := B3.out.size; clear hb3))
      | (go_at_call 19; refine (mark_one _ zs _ P3.out L HL.out (by omega)).mono ?_; rintro e wm ⟨rfl, hpm, hbm⟩; have Mm := Lib.hid hpm; have Qm := Lib.hid (hbm.strs Q3.out (fun b hb => F2.out b hb)); have Bm := Lib.hid (B3.out.trans (hbm.below G2.out hs3)); have hsm := Bm.out.size; clear hpm hbm)
      | (go_at_call 20; first
          | (have hq := B6; refine (held_one _ L _ M6.out (by omega)).mono ?_; rintro e w7 ⟨rfl, hb7⟩; have B7 := Lib.hid (B6.out.trans (hb7.mono hs6)); clear hb7)
          | (refine (held_one _ L _ Mm.out (by omega)).mono ?_; rintro e w4 ⟨rfl, hb4⟩; have M4 := Lib.hid (Mm.out.below hb4); have Q4 := Lib.hid (Qm.out.below' hb4); have B4 := Lib.hid (Bm.out.trans (hb4.mono hsm)); have hs4 := B4.out.size; clear hb4)))
    go_ret
    exact ⟨rfl, B7.out⟩
  · have hs' : 1048576 < s.size := by omega
    go_enter Tryd.func4, Tryd.ntmps4
    go_wp2_with fail
    go_ret
    exact ⟨rfl, Below.refl _ _⟩

set_option maxRecDepth 100000 in
theorem own : ownKnob Tryd.prog.godebug = none := by kernel_rfl
set_option maxRecDepth 100000 in
theorem laidOut : laidOutB Tryd.prog = true := by kernel_rfl
set_option maxRecDepth 100000 in
theorem rowed : rowsOk Tryd.prog Tryd.f4.params.toList = true := by kernel_rfl
set_option maxRecDepth 100000 in
theorem varred : varsOk Tryd.prog Rows.fnExactAllWaysSpec.vars = true := by kernel_rfl
set_option maxRecDepth 100000 in
theorem resType : Tryd.f4.resultTypes = #[4] := by kernel_rfl

set_option maxRecDepth 100000 in
theorem contract (H : Type) (enc : TypeId × Value → H) (W : World) (base : Nat) (args : Array Value) (ds gs : List (DataW H)) (before : List MemPlace)
    (hval : ∀ (j : Nat) t v, Tryd.f4.params[j]? = some t → args[j]? = some v → Value.okWide Tryd.prog W .any base t v)
    (hW : DataW.Whole enc Tryd.prog Tryd.f4.params.toList Rows.fnExactAllWaysSpec.vars false W args.toList ds gs before) (hL : laidMetH Tryd.prog Rows.fnExactAllWaysRow.laid W) :
    Calls Tryd.prog 4 args W fun e W' => ∃ v, e = .returned v ∧ Rows.fnExactAllWaysSpec.post enc Tryd.prog Tryd.f4 false true false false W args v W' := by
  have hW' := hW
  obtain ⟨p, q, hA0, hV, rfl, hfz, hnd⟩ := hW
  have hA : DataW.TrodAll enc Tryd.prog W 0 (fun _ => true) true Tryd.f4.params.toList args.toList ds p := hA0
  rw [Tryd.params4] at hA hval
  obtain ⟨v0, vs0, d0, ds0, p0, q0, hargs, rfl, rfl, h0, r0⟩ := trodAll_cons hA
  obtain ⟨rfl, rfl, rfl⟩ := trodAll_nil r0
  obtain rfl : args = #[v0] := by cases args; simp_all
  obtain ⟨g0, rfl⟩ := trodVars_len1 hV
  obtain ⟨s0, rfl, rfl, rfl, z0⟩ := open_string Tryd.underlying9 (hval 0 9 v0 rfl rfl) h0
  have t_ways : WaysAt W := waysAt (by kernel_rfl) hL (by simp [Rows.fnExactAllWaysRow])
  refine (walk s0 W t_ways).mono fun e W' ⟨he, hb⟩ => ?_
  subst he
  exact ⟨_, rfl, law_post laidOut rowed varred resType Tryd.underlying4 hW' ⟨rfl, rfl, rfl⟩ hb⟩

/-- A world for the witness: the settled one, the listed variables holding what their initialisers lay. -/
noncomputable def laidWorld (os : Os) : World := { World.holding Tryd.prog os ⟨#[], #[], []⟩ with heap := ((World.holding Tryd.prog os ⟨#[], #[], []⟩).heap.modify 0 fun
      | .cells _ t frozen => .cells #[.string ⟨#[101, 110, 119, 115]⟩, .string ⟨#[110, 119, 115, 101]⟩, .string ⟨#[119, 115, 101, 110]⟩, .string ⟨#[115, 101, 110, 119]⟩, .string ⟨#[101, 115, 119, 110]⟩, .string ⟨#[110, 101, 115, 119]⟩, .string ⟨#[119, 110, 101, 115]⟩, .string ⟨#[115, 119, 110, 101]⟩] t frozen
      | o => o) }
set_option maxRecDepth 100000 in
theorem laid_met (os : Os) : laidMet Tryd.prog Rows.fnExactAllWaysRow.laid ((laidWorld os).forCall (fun _ _ => 0) ⟨#[], #[.string ByteArray.empty], []⟩).memory := laidMet_of_run' 8 (by kernel_rfl) (by kernel_rfl)
set_option maxRecDepth 100000 in
theorem reads (os : Os) {H : Type} (enc : TypeId × Value → H) : ∃ places, DataW.whole enc Tryd.prog ((laidWorld os).forCall (fun _ _ => 0) ⟨#[], #[.string ByteArray.empty], []⟩).memory Tryd.f4.params.toList Rows.fnExactAllWaysSpec.vars false (#[.string ByteArray.empty] : Array Value).toList 8 = some ([.lit (.string [])], [Rows.laid_loop_example_turtlewalks_impl_wayLetters], places) := ⟨MemPlace.row ⟨0, 0, none⟩ 8, by kernel_rfl⟩

set_option maxRecDepth 100000 in
theorem lifted (os : Os) (started : os.Started) (H : Type) (enc : TypeId × Value → H) (F : Stop.Interp) :
    ReturnsInHanded {} Tryd.checked os 4 .any ((OpenSpec.ofChange Rows.fnExactAllWaysSpec).preRow enc Tryd.prog Tryd.f4 Rows.fnExactAllWaysRow.domain false Rows.fnExactAllWaysRow.laid) (((OpenSpec.ofChange Rows.fnExactAllWaysSpec).at F).post enc Tryd.prog Tryd.f4 false true false false) := by
  obtain ⟨places, hx⟩ := reads os enc
  refine returnsInHanded_of_row (C := Tryd.checked) (s := OpenSpec.ofChange Rows.fnExactAllWaysSpec) own started (by kernel_rfl) Tryd.func4
    (witness_row_at (enc := enc) (C := Tryd.checked) false (laidWorld os) #[.string ByteArray.empty] rfl (by kernel_rfl) (by kernel_rfl) (by kernel_rfl)
      (OpenSpec.preRow_of_cond 8 hx (by kernel_rfl) (fun k hk => by cases hk) (by kernel_rfl) (laid_met os))) ?_
  intro W base args ds gs before hval hW _ _ _ hL _ _
  exact contract H enc W base args ds gs before hval hW hL

set_option maxRecDepth 100000 in
theorem said : Rows.FnExactAllWaysSaid :=
  OpenClaim.holds_of_cond 4 Tryd.f4 rfl rfl rfl rfl rfl rfl rfl ⟨rfl, rfl, rfl, rfl, rfl⟩ rfl rfl rfl rfl rfl (by kernel_rfl) Tryd.func4 (by kernel_rfl)
    (of_decide_eq_true (by kernel_rfl)) (by unfold Func.isWrapper; first | (rw [if_pos (by decide +kernel)]; kernel_rfl) | (rw [if_neg (by decide +kernel)]; exact ⟨rfl, rfl⟩))
    (fun os started H enc _ F => by rw [OpenClaim.pre_eq_preRow]; exact lifted os started H enc F)

set_option maxRecDepth 100000 in
theorem plain (f : FuncId) (fn : Func) (hf : Tryd.pinned.checked.prog.funcNamed "loop.example/turtlewalks/laws.FnExactAllWays" = some f) (hfn : Tryd.pinned.checked.prog.funcs[f]? = some fn) :
    false = Tryd.pinned.checked.prog.looks [] ∧ ∀ (j : Nat) t, fn.params[j]? = some t → Tryd.pinned.checked.prog.wantsStandIn t = false := by
  obtain rfl : f = 4 := Option.some.inj ((show Tryd.prog.funcNamed "loop.example/turtlewalks/laws.FnExactAllWays" = some 4 by kernel_rfl).symm.trans hf) |>.symm
  obtain rfl : fn = Tryd.f4 := (Option.some.inj (Tryd.func4.symm.trans hfn)).symm
  refine ⟨by kernel_rfl, fun j t ht => ?_⟩
  rw [Tryd.params4] at ht
  have hm : t ∈ [9] := by simpa using Array.mem_of_getElem? ht
  have hall : ([9].all fun u => !Tryd.prog.wantsStandIn u) = true := by kernel_rfl
  exact (show Tryd.prog.wantsStandIn t = false by simpa using List.all_eq_true.1 hall t hm)

set_option maxRecDepth 100000 in
theorem card : Rows.FnExactAllWaysCardSaid :=
  Claim7.holds_tied_plain_at .later [] _ _ _ _ said (fun _ h => by cases h) (by kernel_rfl) (fun _ h => by cases h) fnExactAllWays_row_tie rfl ⟨rfl, rfl⟩ (by kernel_rfl) rfl plain (by kernel_rfl)

end Go.Proofs.YtpkenccgjlhnlaaDoor.fnExactAllWays
