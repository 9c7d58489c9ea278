/-
  FnExactJournalText: for every list of deeds: the program's JournalText is the reference's, and leaves the deeds as they were. No condition beyond what the given statement itself bears.
-/
import Derived.Test.YtngfmkjhanlmaaaDoorJournal
import Derived.Test.YtngfmkjhanlmaaaDoorOpenDeeds
import Derived.Test.YtngfmkjhanlmaaaDoorLawWords
import Derived.Test.YtngfmkjhanlmaaaDoorCards
import Derived.Test.YtngfmkjhanlmaaaDoorTie
namespace Go.Proofs.YtngfmkjhanlmaaaDoor.fnExactJournalText
open Go.ChangeShapes Go.WideShapes Go.ChangeAt Go.RowKit Go.WideMaps Go.WideElems
open Go.ChangeMaps (open_string shut_string)

set_option maxHeartbeats 1600000 in
theorem walk (v : Value) (es : List (Int × Int)) (w : World) (hw : WordsAt w) (h : DeedsAt w v es) (hn : es.length ≤ 9223372036854775807) :
    Calls Tryd.prog 6 #[v] w fun e w' => e = .returned (.bool true) ∧ Below w.heap.size w w' := by
  obtain ⟨r, hr⟩ : ∃ r, (if (es.length : Int) ≤ 1048576 then 1048576 - (es.length : Int) else -1) = r := ⟨_, rfl⟩
  by_cases hl : es.length ≤ 1048576
  · have hr0 : 0 ≤ r := by
      rw [if_pos (by omega)] at hr
      omega
    have HR := Lib.hid hr
    clear hr
    obtain ⟨x, hx⟩ : ∃ x, Tw.str (journal es) = x := ⟨_, rfl⟩
    have hs1 : Hid (∀ (u : Value) (W : World), DeedsAt W u es → Calls Tryd.prog 22 #[u] W fun e w' => e = .returned (.string x) ∧ Below W.heap.size W w') := fun u W hW => hx ▸ specJournal u es W hW hl
    have hs2 : Hid (∀ (u : Value) (W : World), WordsAt W → DeedsAt W u es → Calls Tryd.prog 24 #[u] W fun e w' => e = .returned (.string x) ∧ Below W.heap.size W w') := fun u W hWd hW => hx ▸ implJournal u es W hWd hW hl
    clear hx
    go_enter Tryd.func6, Tryd.ntmps6
    go_wp2_with (first
      | (go_at_call 21; refine (szDeeds_any v es _ h hn r HR.out).mono ?_; rintro e w' ⟨rfl, rfl⟩)
      | (go_at_call 23; first
          | (have hq := hb4; refine (toDeeds_any v es _ (h.below' hb4) hl).mono ?_; rintro e w5 ⟨rfl, hown5, hb5'⟩; have hb5 := hb4.trans (hb5'.mono hb4.size); have hk5 := own_deeds hown5 rfl (Nat.le_refl _); have hx5 := (own_deeds (own_below hown3 (hb4'.trans (hb5'.mono hb4'.size))) rfl (Nat.le_refl _)))
          | (have hq := hb2; refine (toDeeds_any v es _ (h.below' hb2) hl).mono ?_; rintro e w3 ⟨rfl, hown3, hb3'⟩; have hb3 := hb2.trans (hb3'.mono hb2.size); have hk3 := own_deeds hown3 rfl (Nat.le_refl _))
          | (refine (toDeeds_any v es _ h hl).mono ?_; rintro e w1 ⟨rfl, hown1, hb1⟩; have hk1 := own_deeds hown1 rfl (Nat.le_refl _)))
      | (go_at_call 22; refine (hs1.out _ _ hk1).mono ?_; rintro e w2 ⟨rfl, hb2'⟩; have hb2 := hb1.trans (hb2'.mono hb1.size))
      | (go_at_call 24; refine (hs2.out _ _ (hw.below' hb3) hk3).mono ?_; rintro e w4 ⟨rfl, hb4'⟩; have hb4 := hb3.trans (hb4'.mono hb3.size))
      | (go_at_call 18; refine (eqDeeds_same _ _ es _ hx5 hk5 hl (by simp) (by simp)).mono ?_; rintro e w6 ⟨rfl, hb6'⟩; have hb6 := hb5.trans (hb6'.mono hb5.size)))
    go_ret
    exact ⟨rfl, hb6⟩
  · have hr0 : r < 0 := by
      rw [if_neg (by omega)] at hr
      omega
    have HR := Lib.hid hr
    clear hr
    go_enter Tryd.func6, Tryd.ntmps6
    go_wp2_with (first
      | (go_at_call 21; refine (szDeeds_any v es _ h hn r HR.out).mono ?_; rintro e w' ⟨rfl, rfl⟩))
    go_ret
    exact ⟨rfl, Below.refl _ _⟩

set_option maxRecDepth 100000 in
theorem own : ownKnob Tryd.prog.godebug = none := by kernel_rfl
set_option maxRecDepth 100000 in
theorem laidOut : laidOutB Tryd.prog = true := by kernel_rfl
set_option maxRecDepth 100000 in
theorem rowed : rowsOk Tryd.prog Tryd.f6.params.toList = true := by kernel_rfl
set_option maxRecDepth 100000 in
theorem varred : varsOk Tryd.prog Rows.fnExactJournalTextSpec.vars = true := by kernel_rfl
set_option maxRecDepth 100000 in
theorem resType : Tryd.f6.resultTypes = #[4] := by kernel_rfl

set_option maxRecDepth 100000 in
theorem contract (H : Type) (enc : TypeId × Value → H) (W : World) (base : Nat) (args : Array Value) (ds gs : List (DataW H)) (before : List MemPlace)
    (hval : ∀ (j : Nat) t v, Tryd.f6.params[j]? = some t → args[j]? = some v → Value.okWide Tryd.prog W .any base t v)
    (hW : DataW.Whole enc Tryd.prog Tryd.f6.params.toList Rows.fnExactJournalTextSpec.vars false W args.toList ds gs before) (hL : laidMetH Tryd.prog Rows.fnExactJournalTextRow.laid W) :
    Calls Tryd.prog 6 args W fun e W' => ∃ v, e = .returned v ∧ Rows.fnExactJournalTextSpec.post enc Tryd.prog Tryd.f6 false true false false W args v W' := by
  have hW' := hW
  obtain ⟨p, q, hA0, hV, rfl, hfz, hnd⟩ := hW
  have hA : DataW.TrodAll enc Tryd.prog W 0 (fun _ => true) true Tryd.f6.params.toList args.toList ds p := hA0
  rw [Tryd.params6] at hA hval
  obtain ⟨v0, vs0, d0, ds0, p0, q0, hargs, rfl, rfl, h0, r0⟩ := trodAll_cons hA
  obtain ⟨rfl, rfl, rfl⟩ := trodAll_nil r0
  obtain rfl : args = #[v0] := by cases args; simp_all
  obtain ⟨g0, rfl⟩ := trodVars_len1 hV
  obtain ⟨es0, hes0, hen0⟩ := open_deeds (hval 0 37 v0 rfl rfl) h0
  have t_words : WordsAt W := wordsAt (by kernel_rfl) hL (by simp [Rows.fnExactJournalTextRow])
  refine (walk v0 es0 W t_words hes0 hen0).mono fun e W' ⟨he, hb⟩ => ?_
  subst he
  exact ⟨_, rfl, law_post laidOut rowed varred resType Tryd.underlying4 hW' ⟨rfl, rfl, rfl⟩ hb⟩

/-- A world for the witness: the settled one, the listed variables holding what their initialisers lay. -/
noncomputable def laidWorld (os : Os) : World := { World.holding Tryd.prog os ⟨#[], #[], []⟩ with heap := (((((World.holding Tryd.prog os ⟨#[], #[], []⟩).heap.modify 5 fun
      | .cells _ t frozen => .cells #[.int .u8 0, .int .u8 1, .int .u8 28, .int .u8 2, .int .u8 29, .int .u8 14, .int .u8 24, .int .u8 3, .int .u8 30, .int .u8 22, .int .u8 20, .int .u8 15, .int .u8 25, .int .u8 17, .int .u8 4, .int .u8 8, .int .u8 31, .int .u8 27, .int .u8 13, .int .u8 23, .int .u8 21, .int .u8 19, .int .u8 16, .int .u8 7, .int .u8 26, .int .u8 12, .int .u8 18, .int .u8 6, .int .u8 11, .int .u8 5, .int .u8 10, .int .u8 9] t frozen
      | o => o).modify 6 fun
      | .cells _ t frozen => .cells #[.int .u8 0, .int .u8 1, .int .u8 56, .int .u8 2, .int .u8 57, .int .u8 49, .int .u8 28, .int .u8 3, .int .u8 61, .int .u8 58, .int .u8 42, .int .u8 50, .int .u8 38, .int .u8 29, .int .u8 17, .int .u8 4, .int .u8 62, .int .u8 47, .int .u8 59, .int .u8 36, .int .u8 45, .int .u8 43, .int .u8 51, .int .u8 22, .int .u8 53, .int .u8 39, .int .u8 33, .int .u8 30, .int .u8 24, .int .u8 18, .int .u8 12, .int .u8 5, .int .u8 63, .int .u8 55, .int .u8 48, .int .u8 27, .int .u8 60, .int .u8 41, .int .u8 37, .int .u8 16, .int .u8 46, .int .u8 35, .int .u8 44, .int .u8 21, .int .u8 52, .int .u8 32, .int .u8 23, .int .u8 11, .int .u8 54, .int .u8 26, .int .u8 40, .int .u8 15, .int .u8 34, .int .u8 20, .int .u8 31, .int .u8 10, .int .u8 25, .int .u8 14, .int .u8 19, .int .u8 9, .int .u8 13, .int .u8 8, .int .u8 7, .int .u8 6] t frozen
      | o => o).modify 3 fun
      | .cells _ t frozen => .cells #[.int .u64 1, .int .u64 10, .int .u64 100, .int .u64 1000, .int .u64 10000, .int .u64 100000, .int .u64 1000000, .int .u64 10000000, .int .u64 100000000, .int .u64 1000000000, .int .u64 10000000000, .int .u64 100000000000, .int .u64 1000000000000, .int .u64 10000000000000, .int .u64 100000000000000, .int .u64 1000000000000000, .int .u64 10000000000000000, .int .u64 100000000000000000, .int .u64 1000000000000000000, .int .u64 10000000000000000000] t frozen
      | o => o).modify 0 fun
      | .cells _ t frozen => .cells #[.string ⟨#[115, 116, 101, 112]⟩, .string ⟨#[100, 114, 111, 112]⟩, .string ⟨#[119, 97, 121]⟩, .string ⟨#[111, 110]⟩, .string ⟨#[102, 105, 114, 115, 116]⟩, .string ⟨#[98, 97, 99, 107]⟩] t frozen
      | o => o) }
set_option maxRecDepth 100000 in
theorem laid_met (os : Os) : laidMet Tryd.prog Rows.fnExactJournalTextRow.laid ((laidWorld os).forCall (fun _ _ => 0) ⟨#[], #[.slice none 0 0], []⟩).memory := laidMet_of_run' 8 (by kernel_rfl) (by kernel_rfl)
set_option maxRecDepth 100000 in
theorem reads (os : Os) {H : Type} (enc : TypeId × Value → H) : ∃ places, DataW.whole enc Tryd.prog ((laidWorld os).forCall (fun _ _ => 0) ⟨#[], #[.slice none 0 0], []⟩).memory Tryd.f6.params.toList Rows.fnExactJournalTextSpec.vars false (#[.slice none 0 0] : Array Value).toList 8 = some ([.nil], [Rows.laid_loop_example_turtlewalks_impl_deedWords], places) := ⟨MemPlace.row ⟨0, 0, none⟩ 6, by kernel_rfl⟩

set_option maxRecDepth 100000 in
theorem lifted (os : Os) (started : os.Started) (H : Type) (enc : TypeId × Value → H) (F : Stop.Interp) :
    ReturnsInHanded {} Tryd.checked os 6 .any ((OpenSpec.ofChange Rows.fnExactJournalTextSpec).preRow enc Tryd.prog Tryd.f6 Rows.fnExactJournalTextRow.domain false Rows.fnExactJournalTextRow.laid) (((OpenSpec.ofChange Rows.fnExactJournalTextSpec).at F).post enc Tryd.prog Tryd.f6 false true false false) := by
  obtain ⟨places, hx⟩ := reads os enc
  refine returnsInHanded_of_row (C := Tryd.checked) (s := OpenSpec.ofChange Rows.fnExactJournalTextSpec) own started (by kernel_rfl) Tryd.func6
    (witness_row_at (enc := enc) (C := Tryd.checked) false (laidWorld os) #[.slice none 0 0] rfl (by kernel_rfl) (by kernel_rfl) (by kernel_rfl)
      (OpenSpec.preRow_of_cond 8 hx (by kernel_rfl) (fun k hk => by cases hk) (by kernel_rfl) (laid_met os))) ?_
  intro W base args ds gs before hval hW _ _ _ hL _ _
  exact contract H enc W base args ds gs before hval hW hL

set_option maxRecDepth 100000 in
theorem said : Rows.FnExactJournalTextSaid :=
  OpenClaim.holds_of_cond 6 Tryd.f6 rfl rfl rfl rfl rfl rfl rfl ⟨rfl, rfl, rfl, rfl, rfl⟩ rfl rfl rfl rfl rfl (by kernel_rfl) Tryd.func6 (by kernel_rfl)
    (of_decide_eq_true (by kernel_rfl)) (by unfold Func.isWrapper; first | (rw [if_pos (by decide +kernel)]; kernel_rfl) | (rw [if_neg (by decide +kernel)]; exact ⟨rfl, rfl⟩))
    (fun os started H enc _ F => by rw [OpenClaim.pre_eq_preRow]; exact lifted os started H enc F)

set_option maxRecDepth 100000 in
theorem plain (f : FuncId) (fn : Func) (hf : Tryd.pinned.checked.prog.funcNamed "loop.example/turtlewalks/laws.FnExactJournalText" = some f) (hfn : Tryd.pinned.checked.prog.funcs[f]? = some fn) :
    false = Tryd.pinned.checked.prog.looks [] ∧ ∀ (j : Nat) t, fn.params[j]? = some t → Tryd.pinned.checked.prog.wantsStandIn t = false := by
  obtain rfl : f = 6 := Option.some.inj ((show Tryd.prog.funcNamed "loop.example/turtlewalks/laws.FnExactJournalText" = some 6 by kernel_rfl).symm.trans hf) |>.symm
  obtain rfl : fn = Tryd.f6 := (Option.some.inj (Tryd.func6.symm.trans hfn)).symm
  refine ⟨by kernel_rfl, fun j t ht => ?_⟩
  rw [Tryd.params6] at ht
  have hm : t ∈ [37] := by simpa using Array.mem_of_getElem? ht
  have hall : ([37].all fun u => !Tryd.prog.wantsStandIn u) = true := by kernel_rfl
  exact (show Tryd.prog.wantsStandIn t = false by simpa using List.all_eq_true.1 hall t hm)

set_option maxRecDepth 100000 in
theorem card : Rows.FnExactJournalTextCardSaid :=
  Claim7.holds_tied_plain_at .later [] _ _ _ _ said (fun _ h => by cases h) (by kernel_rfl) (fun _ h => by cases h) fnExactJournalText_row_tie rfl ⟨rfl, rfl⟩ (by kernel_rfl) rfl plain (by kernel_rfl)

end Go.Proofs.YtngfmkjhanlmaaaDoor.fnExactJournalText
