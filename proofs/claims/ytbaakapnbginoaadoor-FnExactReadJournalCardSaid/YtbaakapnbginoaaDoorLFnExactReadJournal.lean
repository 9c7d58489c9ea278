/-
  FnExactReadJournal: for every text the program's ReadJournal returns what the reference's returns, in memory of its own. No condition beyond what the given statement itself bears.
-/
import Derived.Test.YtbaakapnbginoaaDoorReadJournal
import Derived.Test.YtbaakapnbginoaaDoorJournal
import Derived.Test.YtbaakapnbginoaaDoorLaw
import Derived.Test.YtbaakapnbginoaaDoorLawWords
import Derived.Test.YtbaakapnbginoaaDoorCards
import Derived.Test.YtbaakapnbginoaaDoorTie
namespace Go.Proofs.YtbaakapnbginoaaDoor.fnExactReadJournal
open Go.ChangeShapes Go.WideShapes Go.ChangeAt Go.RowKit Go.WideMaps Go.WideElems
open Go.ChangeMaps (open_string shut_string)

theorem row_value {w : World} {v : Value} {ds : List (Int × Int)} (h : RowAt w v ds) {n : Nat} (hn : ds.length = n) : ∃ a c, v = .slice a n c := by
  subst hn
  rcases h with ⟨rfl, rfl⟩ | ⟨g, cap, _, rfl, _⟩
  · exact ⟨_, _, rfl⟩
  · exact ⟨_, _, rfl⟩
set_option maxHeartbeats 800000 in
theorem eq_none (a b : Option Addr) (c d : Nat) (w : World) :
    Calls Tryd.prog 19 #[.slice a 0 c, .slice b 0 d] w fun e w' => e = .returned (.bool true) ∧ Below w.heap.size w w' := by
  go_enter Tryd.func19, Tryd.ntmps19
  go_wp2
  refine wp_loop_rounds 1 ?_
  rw [rounds_succ]
  go_wp2
  go_ret
  exact ⟨rfl, Below.refl _ _⟩
theorem eq_rows (v u : Value) (ds : List (Int × Int)) (w : World) (h : RowAt w v ds) (k : RowAt w u ds) (hn : ds.length ≤ 1048576) :
    Calls Tryd.prog 19 #[v, u] w fun e w' => e = .returned (.bool true) ∧ Below w.heap.size w w' := by
  obtain ⟨a, c, rfl⟩ := row_value h rfl
  obtain ⟨b, d, rfl⟩ := row_value k rfl
  by_cases h0 : ds.length = 0
  · rw [h0]
    exact eq_none a b c d w
  · refine eqDeeds_same _ _ ds w h.deeds k.deeds hn ?_ ?_
    · intro e
      simp only [Value.slice.injEq] at e
      exact h0 e.2.1
    · intro e
      simp only [Value.slice.injEq] at e
      exact h0 e.2.1

theorem fresh_lt {w X : World} {v : Value} {ds : List (Int × Int)} (h : RowAt w v ds) (hX : w.heap.size ≤ X.heap.size) {u : Value} (hu : Fresh X.heap.size u) {b : Nat} (hb : v.ownBlock = some b) : u.ownBlock ≠ some b := fun e => by
  have := h.lt hb
  have := hu b e
  omega
theorem row_but' {w w' : World} {v u : Value} {ds : List (Int × Int)} (h : RowAt w v ds) (k : But u w w') (hne : ∀ b, v.ownBlock = some b → u.ownBlock ≠ some b) : RowAt w' v ds := by
  rcases h with h | ⟨g, cap, cur, rfl, hl, hg, hz, hc⟩
  · exact .inl h
  · exact .inr ⟨g, cap, cur, rfl, hl, (k.block g (lt_at hg) (hne g rfl)).trans hg, hz, hc⟩
theorem journal_few (l : List UInt8) : (journalOf l).1.length ≤ l.length := by
  have gen : ∀ (f : Nat) (l : List UInt8), (rj f l).1.length ≤ l.length := by
    intro f
    induction f with
    | zero => intro l; exact Nat.zero_le _
    | succ f ih =>
      intro l
      unfold rj
      split
      · rename_i hm
        split
        · have h1 := ih (l.drop ((l.takeWhile (· != 10)).length + 1))
          have h2 : 0 < l.length := List.length_pos_of_mem hm
          rw [List.length_drop] at h1
          simp only [List.length_cons]
          omega
        · exact Nat.zero_le _
      · exact Nat.zero_le _
  exact gen _ l

set_option maxRecDepth 100000 in
set_option maxHeartbeats 1600000 in
theorem walk (s : ByteArray) (w : World) (hw : WordsAt w) (hm : MaxAt w) :
    Calls Tryd.prog 4 #[.string s] w fun e w' => e = .returned (.bool true) ∧ Below w.heap.size w w' := by
  by_cases hs : s.size ≤ 1048576
  · have hfew := journal_few s.data.toList
    rw [size_data] at hfew
    obtain ⟨ds, hds⟩ : ∃ ds, (journalOf s.data.toList).1 = ds := ⟨_, rfl⟩
    obtain ⟨m, hmm⟩ : ∃ m, (journalOf s.data.toList).2 = m := ⟨_, rfl⟩
    have h1 := fun W => specReadJournal s W hs
    have h2 := fun W hw hm => implReadJournal s W hw hm hs
    unfold RjOut at h1 h2
    rw [hds, hmm] at h1 h2
    rw [hds] at hfew
    obtain ⟨n, hn⟩ : ∃ n, ds.length = n := ⟨_, rfl⟩
    rw [hn] at hfew
    have HN := Lib.hid hn
    have H1 := Lib.hid h1
    have H2 := Lib.hid h2
    clear hds hmm h1 h2 hn
    go_enter Tryd.func4, Tryd.ntmps4
    go_wp2_with (first
      | (go_at_call 17; refine (H1.out _).mono ?_; rintro e w1 ⟨v1, rfl, hr1, hf1, hb1⟩; have e1 : Ext w w1 := hb1; have R1 := Lib.hid hr1; clear hr1 hf1 hb1)
      | (go_at_call 18; first
          | (have hq := H5; refine (H2.out _ (hw.below' E5) (hm.below' E5)).mono ?_; rintro e w6 ⟨v6, rfl, hr6, hf6, hb6⟩; have E6 : Ext w w6 := Ext.call E5 hb6; have R6 := Lib.hid hr6; have W6 := Lib.hid ((show Ext w5 w6 from hb6) |> W5.out.ext); have G6 := Lib.hid (G5.out.ext (show Ext w5 w6 from hb6)); clear hr6 hf6 hb6)
          | (refine (H2.out _ (hw.below' e1) (hm.below' e1)).mono ?_; rintro e w2 ⟨v2, rfl, hr2, hf2, hb2⟩; have E2 : Ext w w2 := Ext.call e1 hb2; have e2 : Ext w1 w2 := hb2; have R2 := Lib.hid hr2; have F2 := Lib.hid hf2; clear hr2 hf2 hb2))
      | (go_at_call 19; first
          | (have hq := R6; refine (eq_rows _ _ ds _ R6.out W6.out (by rw [HN.out]; omega)).mono ?_; rintro e w7 ⟨rfl, hb7⟩; have E7 : Ext w w7 := Ext.call E6 hb7; have G7 := Lib.hid (G6.out.ext (show Ext w6 w7 from hb7)); clear hb7)
          | (refine (eq_rows _ _ ds _ R2.out (R1.out.ext e2) (by rw [HN.out]; omega)).mono ?_; rintro e w3 ⟨rfl, hb3⟩; have E3 : Ext w w3 := Ext.call E2 hb3; have R3 := Lib.hid (R2.out.ext (show Ext w2 w3 from hb3)); have W3 := Lib.hid ((R1.out.ext e2).ext (show Ext w2 w3 from hb3)); clear hb3))
      | (go_at_call 20; refine (markDeeds_any _ ds n HN.out 1 _ R3.out (by omega) (by omega) (by omega)).mono ?_; rintro e w4 ⟨rfl, hr4, hb4⟩; have E4 : Ext w w4 := E3.but hb4 F2.out e1.size; have G4 := Lib.hid hr4; have W4 := Lib.hid (row_but' W3.out hb4 (fun b hb => fresh_lt R1.out (Nat.le_refl _) F2.out hb)); clear hr4 hb4)
      | (go_at_call 21; first
          | (have hq := G7; refine (heldDeeds_any _ n 1 _ G7.out (by omega) (by omega) (by omega)).mono ?_; rintro e w' ⟨rfl, rfl⟩)
          | (refine (heldDeeds_any _ n 1 _ G4.out (by omega) (by omega) (by omega)).mono ?_; rintro e w5 ⟨rfl, rfl⟩; have H5 : True := trivial; obtain ⟨w5, rfl⟩ : ∃ w5 : World, w5 = w4 := ⟨_, rfl⟩; have E5 := E4; have G5 := G4; have W5 := W4)))
    go_ret
    exact ⟨rfl, E7⟩
  · go_enter Tryd.func4, Tryd.ntmps4
    go_wp2
    go_ret
    exact ⟨rfl, Below.refl _ _⟩

set_option maxRecDepth 100000 in
theorem own : ownKnob Tryd.prog.godebug = none := by kernel_rfl
set_option maxRecDepth 100000 in
theorem laidOut : laidOutB Tryd.prog = true := by kernel_rfl
set_option maxRecDepth 100000 in
theorem rowed : rowsOk Tryd.prog Tryd.f4.params.toList = true := by kernel_rfl
set_option maxRecDepth 100000 in
theorem varred : varsOk Tryd.prog Rows.fnExactReadJournalSpec.vars = true := by kernel_rfl
set_option maxRecDepth 100000 in
theorem resType : Tryd.f4.resultTypes = #[4] := by kernel_rfl

set_option maxRecDepth 100000 in
theorem contract (H : Type) (enc : TypeId × Value → H) (W : World) (base : Nat) (args : Array Value) (ds gs : List (DataW H)) (before : List MemPlace)
    (hval : ∀ (j : Nat) t v, Tryd.f4.params[j]? = some t → args[j]? = some v → Value.okWide Tryd.prog W .any base t v)
    (hW : DataW.Whole enc Tryd.prog Tryd.f4.params.toList Rows.fnExactReadJournalSpec.vars false W args.toList ds gs before) (hL : laidMetH Tryd.prog Rows.fnExactReadJournalRow.laid W) (hSh : W.ShapedOpen Tryd.prog) :
    Calls Tryd.prog 4 args W fun e W' => ∃ v, e = .returned v ∧ Rows.fnExactReadJournalSpec.post enc Tryd.prog Tryd.f4 false true false false W args v W' := by
  have hW' := hW
  obtain ⟨p, q, hA0, hV, rfl, hfz, hnd⟩ := hW
  have hA : DataW.TrodAll enc Tryd.prog W 0 (fun _ => true) true Tryd.f4.params.toList args.toList ds p := hA0
  rw [Tryd.params4] at hA hval
  obtain ⟨v0, vs0, d0, ds0, p0, q0, hargs, rfl, rfl, h0, r0⟩ := trodAll_cons hA
  obtain ⟨rfl, rfl, rfl⟩ := trodAll_nil r0
  obtain rfl : args = #[v0] := by cases args; simp_all
  obtain ⟨g0, rfl⟩ := trodVars_len1 hV
  obtain ⟨s0, rfl, rfl, rfl, z0⟩ := open_string Tryd.underlying9 (hval 0 9 v0 rfl rfl) h0
  have t_words : WordsAt W := wordsAt (by kernel_rfl) hL (by simp [Rows.fnExactReadJournalRow])
  have t_max : MaxAt W := maxAt hSh
  refine (walk s0 W t_words t_max).mono fun e W' ⟨he, hb⟩ => ?_
  subst he
  exact ⟨_, rfl, law_post laidOut rowed varred resType Tryd.underlying4 hW' ⟨rfl, rfl, rfl⟩ hb⟩

/-- A world for the witness: the settled one, the listed variables holding what their initialisers lay. -/
noncomputable def laidWorld (os : Os) : World := { World.holding Tryd.prog os ⟨#[], #[], []⟩ with heap := ((World.holding Tryd.prog os ⟨#[], #[], []⟩).heap.modify 0 fun
      | .cells _ t frozen => .cells #[.string ⟨#[115, 116, 101, 112]⟩, .string ⟨#[100, 114, 111, 112]⟩, .string ⟨#[119, 97, 121]⟩, .string ⟨#[111, 110]⟩, .string ⟨#[102, 105, 114, 115, 116]⟩, .string ⟨#[98, 97, 99, 107]⟩] t frozen
      | o => o) }
set_option maxRecDepth 100000 in
theorem laid_met (os : Os) : laidMet Tryd.prog Rows.fnExactReadJournalRow.laid ((laidWorld os).forCall (fun _ _ => 0) ⟨#[], #[.string ByteArray.empty], []⟩).memory := laidMet_of_run' 8 (by kernel_rfl) (by kernel_rfl)
set_option maxRecDepth 100000 in
theorem reads (os : Os) {H : Type} (enc : TypeId × Value → H) : ∃ places, DataW.whole enc Tryd.prog ((laidWorld os).forCall (fun _ _ => 0) ⟨#[], #[.string ByteArray.empty], []⟩).memory Tryd.f4.params.toList Rows.fnExactReadJournalSpec.vars false (#[.string ByteArray.empty] : Array Value).toList 8 = some ([.lit (.string [])], [Rows.laid_loop_example_turtlewalks_impl_deedWords], places) := ⟨MemPlace.row ⟨0, 0, none⟩ 6, by kernel_rfl⟩

set_option maxRecDepth 100000 in
theorem lifted (os : Os) (started : os.Started) (H : Type) (enc : TypeId × Value → H) (F : Stop.Interp) :
    ReturnsInHanded {} Tryd.checked os 4 .any ((OpenSpec.ofChange Rows.fnExactReadJournalSpec).preRow enc Tryd.prog Tryd.f4 Rows.fnExactReadJournalRow.domain false Rows.fnExactReadJournalRow.laid) (((OpenSpec.ofChange Rows.fnExactReadJournalSpec).at F).post enc Tryd.prog Tryd.f4 false true false false) := by
  obtain ⟨places, hx⟩ := reads os enc
  refine returnsInHanded_of_row (C := Tryd.checked) (s := OpenSpec.ofChange Rows.fnExactReadJournalSpec) own started (by kernel_rfl) Tryd.func4
    (witness_row_at (enc := enc) (C := Tryd.checked) false (laidWorld os) #[.string ByteArray.empty] rfl (by kernel_rfl) (by kernel_rfl) (by kernel_rfl)
      (OpenSpec.preRow_of_cond 8 hx (by kernel_rfl) (fun k hk => by cases hk) (by kernel_rfl) (laid_met os))) ?_
  intro W base args ds gs before hval hW _ _ _ hL hSh _
  exact contract H enc W base args ds gs before hval hW hL hSh

set_option maxRecDepth 100000 in
theorem said : Rows.FnExactReadJournalSaid :=
  OpenClaim.holds_of_cond 4 Tryd.f4 rfl rfl rfl rfl rfl rfl rfl ⟨rfl, rfl, rfl, rfl, rfl⟩ rfl rfl rfl rfl rfl (by kernel_rfl) Tryd.func4 (by kernel_rfl)
    (of_decide_eq_true (by kernel_rfl)) (by unfold Func.isWrapper; first | (rw [if_pos (by decide +kernel)]; kernel_rfl) | (rw [if_neg (by decide +kernel)]; exact ⟨rfl, rfl⟩))
    (fun os started H enc _ F => by rw [OpenClaim.pre_eq_preRow]; exact lifted os started H enc F)

set_option maxRecDepth 100000 in
theorem plain (f : FuncId) (fn : Func) (hf : Tryd.pinned.checked.prog.funcNamed "loop.example/turtlewalks/laws.FnExactReadJournal" = some f) (hfn : Tryd.pinned.checked.prog.funcs[f]? = some fn) :
    false = Tryd.pinned.checked.prog.looks [] ∧ ∀ (j : Nat) t, fn.params[j]? = some t → Tryd.pinned.checked.prog.wantsStandIn t = false := by
  obtain rfl : f = 4 := Option.some.inj ((show Tryd.prog.funcNamed "loop.example/turtlewalks/laws.FnExactReadJournal" = some 4 by kernel_rfl).symm.trans hf) |>.symm
  obtain rfl : fn = Tryd.f4 := (Option.some.inj (Tryd.func4.symm.trans hfn)).symm
  refine ⟨by kernel_rfl, fun j t ht => ?_⟩
  rw [Tryd.params4] at ht
  have hm : t ∈ [9] := by simpa using Array.mem_of_getElem? ht
  have hall : ([9].all fun u => !Tryd.prog.wantsStandIn u) = true := by kernel_rfl
  exact (show Tryd.prog.wantsStandIn t = false by simpa using List.all_eq_true.1 hall t hm)

set_option maxRecDepth 100000 in
theorem card : Rows.FnExactReadJournalCardSaid :=
  Claim7.holds_tied_plain_at .later [] _ _ _ _ said (fun _ h => by cases h) (by kernel_rfl) (fun _ h => by cases h) fnExactReadJournal_row_tie rfl ⟨rfl, rfl⟩ (by kernel_rfl) rfl plain (by kernel_rfl)

end Go.Proofs.YtbaakapnbginoaaDoor.fnExactReadJournal
