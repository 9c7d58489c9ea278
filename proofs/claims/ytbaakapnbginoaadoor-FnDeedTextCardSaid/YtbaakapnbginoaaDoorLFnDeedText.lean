/-
  FnDeedText: for every code: the text of a deed, if there is one, is read as the deed. No condition beyond what the given statement itself bears.
-/
import Derived.Test.YtbaakapnbginoaaDoorDrawDeeds
import Derived.Test.YtbaakapnbginoaaDoorReadDeed
import Derived.Test.YtbaakapnbginoaaDoorDeskDone
import Derived.Test.YtbaakapnbginoaaDoorAlive
import Derived.Test.YtbaakapnbginoaaDoorOpenCode
import Derived.Test.YtbaakapnbginoaaDoorLawWords
import Derived.Test.YtbaakapnbginoaaDoorCards
import Derived.Test.YtbaakapnbginoaaDoorTie
namespace Go.Proofs.YtbaakapnbginoaaDoor.fnDeedText
open Go.ChangeShapes Go.WideShapes Go.ChangeAt Go.RowKit Go.WideMaps Go.WideElems
open Go.ChangeMaps (open_string shut_string)

theorem text_size (k n : Int) : (Tw.str (deedText k n)).size ≤ 1048576 := by
  rw [Tw.str_size]
  rcases Decidable.em (deedText k n = []) with h | h
  · rw [h]
    simp
  · have t := told_of h
    rw [text_told t]
    obtain ⟨hk0, hk6⟩ := told_kind t
    have hw : (deedWord k.toNat).length ≤ 5 := by
      obtain h | h | h | h | h | h : k = 0 ∨ k = 1 ∨ k = 2 ∨ k = 3 ∨ k = 4 ∨ k = 5 := by omega
      all_goals
        rw [h]
        decide
    split
    · rename_i hk
      have hn : 0 ≤ n ∧ n ≤ 99 := by unfold told at t; omega
      have h2 := dec_few (i := n.toNat) (by omega)
      rw [Tw.str_size] at h2
      rw [List.length_append, List.length_cons]
      omega
    · omega
set_option maxRecDepth 100000 in
set_option maxHeartbeats 1600000 in
theorem walk (v : Value) (n : Nat) (w : World) (hw : WordsAt w) (hm : MaxAt w) (h : CodeAt w v n) :
    Calls Tryd.prog 10 #[v] w fun e w' => e = .returned (.bool true) ∧ Below w.heap.size w w' := by
  have hdraw := drawDeedText v n w h
  have hv : ∃ a cap, v = .slice a n cap := by
    rcases h with ⟨rfl, rfl⟩ | ⟨a, cap, rfl, _⟩
    · exact ⟨_, _, rfl⟩
    · exact ⟨_, _, rfl⟩
  obtain ⟨a, cap, rfl⟩ := hv
  have HD := Lib.hid hdraw
  clear hdraw h
  by_cases hn : n ≤ 1048576
  · go_enter Tryd.func10, Tryd.ntmps10
    go_upto_region 4 with (first
      | (go_at_call 48; refine HD.out.mono ?_; rintro e w1 ⟨K, M, rfl, hK0, hK1, hM0, hM1, hb1⟩))
    have hs := text_size K M
    obtain ⟨x, hx⟩ : ∃ x, Tw.str (deedText K M) = x := ⟨_, rfl⟩
    rw [hx] at hs
    have hxd : x.data.toList = deedText K M := by rw [← hx]; rfl
    have H1 : Hid (∀ W, WordsAt W → Calls Tryd.prog 49 #[.agg #[.int .i64 K, .int .i64 M]] W fun e w' => e = .returned (.string x) ∧ Below W.heap.size W w') := fun W hW => hx ▸ implDeedText K M W hW
    have H2 : Hid (∀ W, Calls Tryd.prog 50 #[.agg #[.int .i64 K, .int .i64 M]] W fun e w' => e = .returned (.string x) ∧ Below W.heap.size W w') := fun W => hx ▸ specDeedText K M W
    have hbw1 := hb1.alloc hb1.size (.cells #[.int .i64 K, .int .i64 M] 23)
    have hrow := heap_alloc_new w1 (.cells #[.int .i64 K, .int .i64 M] 23)
    obtain ⟨w2, hw2⟩ : ∃ w2, w1.alloc (.cells #[.int .i64 K, .int .i64 M] 23) = w2 := ⟨_, rfl⟩
    rw [hw2] at hbw1 hrow ⊢
    obtain ⟨N, hN⟩ : ∃ N, w1.heap.size = N := ⟨_, rfl⟩
    rw [hN] at hrow ⊢
    have c0 := cell_of_row _ _ 0 _ _ _ hrow
    have c1 := cell_of_row _ _ 1 _ _ _ hrow
    have HROW := Lib.hid hrow
    have HXD := Lib.hid hxd
    have hW2 := hw.below' hbw1
    have HW2 := Lib.hid hW2
    have hxx : (x.toList == x.toList) = true := by simp
    clear hrow hw2 hN hx hxd hW2
    by_cases h0 : x.size = 0
    · obtain rfl := nil_of_sizeR h0
      go_wp2_with (first
        | (go_at_call 49; refine (H1.out _ HW2.out).mono ?_; rintro e w3 ⟨rfl, hb3⟩; have hr3 := (hb3.block N (lt_at HROW.out)).trans HROW.out; have d0 := cell_of_row _ _ 0 _ _ _ hr3; have d1 := cell_of_row _ _ 1 _ _ _ hr3)
        | (go_at_call 50; refine (H2.out _).mono ?_; rintro e w4 ⟨rfl, hb4⟩)
        | (go_at_call 37; refine (alive_yes _).mono ?_; rintro e w' ⟨rfl, rfl⟩))
      go_ret
      exact ⟨rfl, (hbw1.trans (hb3.mono hbw1.size)).trans (hb4.mono (by have := hbw1.size; have := hb3.size; omega))⟩
    · have hne := notEmptyR (s := x) (by omega)
      have hro : readOf x.data.toList = ((K, M), true) := readOf_of (fun h9 => h0 (by rw [← size_data, h9]; rfl)) HXD.out.symm
      have hrd := fun W hw hm => implReadDeed x W hw hm hs
      unfold ReadOut at hrd
      rw [hro] at hrd
      have HRD := Lib.hid hrd
      clear hrd hro
      go_wp2_with (first
        | (go_at_call 49; refine (H1.out _ HW2.out).mono ?_; rintro e w3 ⟨rfl, hb3⟩; have hr3 := (hb3.block N (lt_at HROW.out)).trans HROW.out; have d0 := cell_of_row _ _ 0 _ _ _ hr3; have d1 := cell_of_row _ _ 1 _ _ _ hr3; have HR3 := Lib.hid hr3; clear hr3)
        | (go_at_call 50; refine (H2.out _).mono ?_; rintro e w4 ⟨rfl, hb4⟩; have hbw4 := (hbw1.trans (hb3.mono hbw1.size)).trans (hb4.mono (by have := hbw1.size; have := hb3.size; omega)); have hr4 := (hb4.block N (lt_at HR3.out)).trans HR3.out; have HR4 := Lib.hid hr4; clear hr4)
        | (go_at_call 15; refine (HRD.out _ (hw.below' hbw4) (hm.below' hbw4)).mono ?_; rintro e w5 ⟨rfl, hb5⟩; have hr5 := (hb5.block N (lt_at HR4.out)).trans HR4.out; have g0 := cell_of_row _ _ 0 _ _ _ hr5; have g1 := cell_of_row _ _ 1 _ _ _ hr5; have hlt5 := lt_at hr5; have ga0 := fun o => (cell_older (j := 0) hlt5 o).trans g0; have ga1 := fun o => (cell_older (j := 1) hlt5 o).trans g1; have hbw5 := hbw4.trans (hb5.mono hbw4.size)))
      go_ret
      exact ⟨rfl, hbw5.alloc hbw5.size _⟩
  · have hn' : 1048576 < n := by omega
    go_enter Tryd.func10, Tryd.ntmps10
    go_wp2_with fail
    go_ret
    exact ⟨rfl, Below.refl _ _⟩

set_option maxRecDepth 100000 in
theorem own : ownKnob Tryd.prog.godebug = none := by kernel_rfl
set_option maxRecDepth 100000 in
theorem laidOut : laidOutB Tryd.prog = true := by kernel_rfl
set_option maxRecDepth 100000 in
theorem rowed : rowsOk Tryd.prog Tryd.f10.params.toList = true := by kernel_rfl
set_option maxRecDepth 100000 in
theorem varred : varsOk Tryd.prog Rows.fnDeedTextSpec.vars = true := by kernel_rfl
set_option maxRecDepth 100000 in
theorem resType : Tryd.f10.resultTypes = #[4] := by kernel_rfl

set_option maxRecDepth 100000 in
theorem contract (H : Type) (enc : TypeId × Value → H) (W : World) (base : Nat) (args : Array Value) (ds gs : List (DataW H)) (before : List MemPlace)
    (hval : ∀ (j : Nat) t v, Tryd.f10.params[j]? = some t → args[j]? = some v → Value.okWide Tryd.prog W .any base t v)
    (hW : DataW.Whole enc Tryd.prog Tryd.f10.params.toList Rows.fnDeedTextSpec.vars false W args.toList ds gs before) (hL : laidMetH Tryd.prog Rows.fnDeedTextRow.laid W) (hSh : W.ShapedOpen Tryd.prog) :
    Calls Tryd.prog 10 args W fun e W' => ∃ v, e = .returned v ∧ Rows.fnDeedTextSpec.post enc Tryd.prog Tryd.f10 false true false false W args v W' := by
  have hW' := hW
  obtain ⟨p, q, hA0, hV, rfl, hfz, hnd⟩ := hW
  have hA : DataW.TrodAll enc Tryd.prog W 0 (fun _ => true) true Tryd.f10.params.toList args.toList ds p := hA0
  rw [Tryd.params10] at hA hval
  obtain ⟨v0, vs0, d0, ds0, p0, q0, hargs, rfl, rfl, h0, r0⟩ := trodAll_cons hA
  obtain ⟨rfl, rfl, rfl⟩ := trodAll_nil r0
  obtain rfl : args = #[v0] := by cases args; simp_all
  obtain ⟨g0, rfl⟩ := trodVars_len1 hV
  obtain ⟨n0, hcode0⟩ := open_code (hval 0 52 v0 rfl rfl) h0
  have t_words : WordsAt W := wordsAt (by kernel_rfl) hL (by simp [Rows.fnDeedTextRow])
  have t_max : MaxAt W := maxAt hSh
  refine (walk v0 n0 W t_words t_max hcode0).mono fun e W' ⟨he, hb⟩ => ?_
  subst he
  exact ⟨_, rfl, law_post laidOut rowed varred resType Tryd.underlying4 hW' ⟨rfl, rfl, rfl⟩ hb⟩

/-- A world for the witness: the settled one, the listed variables holding what their initialisers lay. -/
noncomputable def laidWorld (os : Os) : World := { World.holding Tryd.prog os ⟨#[], #[], []⟩ with heap := (((((World.holding Tryd.prog os ⟨#[], #[], []⟩).heap.modify 5 fun
      | .cells _ t frozen => .cells #[.int .u8 0, .int .u8 1, .int .u8 28, .int .u8 2, .int .u8 29, .int .u8 14, .int .u8 24, .int .u8 3, .int .u8 30, .int .u8 22, .int .u8 20, .int .u8 15, .int .u8 25, .int .u8 17, .int .u8 4, .int .u8 8, .int .u8 31, .int .u8 27, .int .u8 13, .int .u8 23, .int .u8 21, .int .u8 19, .int .u8 16, .int .u8 7, .int .u8 26, .int .u8 12, .int .u8 18, .int .u8 6, .int .u8 11, .int .u8 5, .int .u8 10, .int .u8 9] t frozen
      | o => o).modify 6 fun
      | .cells _ t frozen => .cells #[.int .u8 0, .int .u8 1, .int .u8 56, .int .u8 2, .int .u8 57, .int .u8 49, .int .u8 28, .int .u8 3, .int .u8 61, .int .u8 58, .int .u8 42, .int .u8 50, .int .u8 38, .int .u8 29, .int .u8 17, .int .u8 4, .int .u8 62, .int .u8 47, .int .u8 59, .int .u8 36, .int .u8 45, .int .u8 43, .int .u8 51, .int .u8 22, .int .u8 53, .int .u8 39, .int .u8 33, .int .u8 30, .int .u8 24, .int .u8 18, .int .u8 12, .int .u8 5, .int .u8 63, .int .u8 55, .int .u8 48, .int .u8 27, .int .u8 60, .int .u8 41, .int .u8 37, .int .u8 16, .int .u8 46, .int .u8 35, .int .u8 44, .int .u8 21, .int .u8 52, .int .u8 32, .int .u8 23, .int .u8 11, .int .u8 54, .int .u8 26, .int .u8 40, .int .u8 15, .int .u8 34, .int .u8 20, .int .u8 31, .int .u8 10, .int .u8 25, .int .u8 14, .int .u8 19, .int .u8 9, .int .u8 13, .int .u8 8, .int .u8 7, .int .u8 6] t frozen
      | o => o).modify 4 fun
      | .cells _ t frozen => .cells #[.int .u64 1, .int .u64 10, .int .u64 100, .int .u64 1000, .int .u64 10000, .int .u64 100000, .int .u64 1000000, .int .u64 10000000, .int .u64 100000000, .int .u64 1000000000, .int .u64 10000000000, .int .u64 100000000000, .int .u64 1000000000000, .int .u64 10000000000000, .int .u64 100000000000000, .int .u64 1000000000000000, .int .u64 10000000000000000, .int .u64 100000000000000000, .int .u64 1000000000000000000, .int .u64 10000000000000000000] t frozen
      | o => o).modify 0 fun
      | .cells _ t frozen => .cells #[.string ⟨#[115, 116, 101, 112]⟩, .string ⟨#[100, 114, 111, 112]⟩, .string ⟨#[119, 97, 121]⟩, .string ⟨#[111, 110]⟩, .string ⟨#[102, 105, 114, 115, 116]⟩, .string ⟨#[98, 97, 99, 107]⟩] t frozen
      | o => o) }
set_option maxRecDepth 100000 in
theorem laid_met (os : Os) : laidMet Tryd.prog Rows.fnDeedTextRow.laid ((laidWorld os).forCall (fun _ _ => 0) ⟨#[], #[.slice none 0 0], []⟩).memory := laidMet_of_run' 8 (by kernel_rfl) (by kernel_rfl)
set_option maxRecDepth 100000 in
theorem reads (os : Os) {H : Type} (enc : TypeId × Value → H) : ∃ places, DataW.whole enc Tryd.prog ((laidWorld os).forCall (fun _ _ => 0) ⟨#[], #[.slice none 0 0], []⟩).memory Tryd.f10.params.toList Rows.fnDeedTextSpec.vars false (#[.slice none 0 0] : Array Value).toList 8 = some ([.nil], [Rows.laid_loop_example_turtlewalks_impl_deedWords], places) := ⟨MemPlace.row ⟨0, 0, none⟩ 6, by kernel_rfl⟩

set_option maxRecDepth 100000 in
theorem lifted (os : Os) (started : os.Started) (H : Type) (enc : TypeId × Value → H) (F : Stop.Interp) :
    ReturnsInHanded {} Tryd.checked os 10 .any ((OpenSpec.ofChange Rows.fnDeedTextSpec).preRow enc Tryd.prog Tryd.f10 Rows.fnDeedTextRow.domain false Rows.fnDeedTextRow.laid) (((OpenSpec.ofChange Rows.fnDeedTextSpec).at F).post enc Tryd.prog Tryd.f10 false true false false) := by
  obtain ⟨places, hx⟩ := reads os enc
  refine returnsInHanded_of_row (C := Tryd.checked) (s := OpenSpec.ofChange Rows.fnDeedTextSpec) own started (by kernel_rfl) Tryd.func10
    (witness_row_at (enc := enc) (C := Tryd.checked) false (laidWorld os) #[.slice none 0 0] rfl (by kernel_rfl) (by kernel_rfl) (by kernel_rfl)
      (OpenSpec.preRow_of_cond 8 hx (by kernel_rfl) (fun k hk => by cases hk) (by kernel_rfl) (laid_met os))) ?_
  intro W base args ds gs before hval hW _ _ _ hL hSh _
  exact contract H enc W base args ds gs before hval hW hL hSh

set_option maxRecDepth 100000 in
theorem said : Rows.FnDeedTextSaid :=
  OpenClaim.holds_of_cond 10 Tryd.f10 rfl rfl rfl rfl rfl rfl rfl ⟨rfl, rfl, rfl, rfl, rfl⟩ rfl rfl rfl rfl rfl (by kernel_rfl) Tryd.func10 (by kernel_rfl)
    (of_decide_eq_true (by kernel_rfl)) (by unfold Func.isWrapper; first | (rw [if_pos (by decide +kernel)]; kernel_rfl) | (rw [if_neg (by decide +kernel)]; exact ⟨rfl, rfl⟩))
    (fun os started H enc _ F => by rw [OpenClaim.pre_eq_preRow]; exact lifted os started H enc F)

set_option maxRecDepth 100000 in
theorem plain (f : FuncId) (fn : Func) (hf : Tryd.pinned.checked.prog.funcNamed "loop.example/turtlewalks/laws.FnDeedText" = some f) (hfn : Tryd.pinned.checked.prog.funcs[f]? = some fn) :
    false = Tryd.pinned.checked.prog.looks [] ∧ ∀ (j : Nat) t, fn.params[j]? = some t → Tryd.pinned.checked.prog.wantsStandIn t = false := by
  obtain rfl : f = 10 := Option.some.inj ((show Tryd.prog.funcNamed "loop.example/turtlewalks/laws.FnDeedText" = some 10 by kernel_rfl).symm.trans hf) |>.symm
  obtain rfl : fn = Tryd.f10 := (Option.some.inj (Tryd.func10.symm.trans hfn)).symm
  refine ⟨by kernel_rfl, fun j t ht => ?_⟩
  rw [Tryd.params10] at ht
  have hm : t ∈ [52] := by simpa using Array.mem_of_getElem? ht
  have hall : ([52].all fun u => !Tryd.prog.wantsStandIn u) = true := by kernel_rfl
  exact (show Tryd.prog.wantsStandIn t = false by simpa using List.all_eq_true.1 hall t hm)

set_option maxRecDepth 100000 in
theorem card : Rows.FnDeedTextCardSaid :=
  Claim7.holds_tied_plain_at .later [] _ _ _ _ said (fun _ h => by cases h) (by kernel_rfl) (fun _ h => by cases h) fnDeedText_row_tie rfl ⟨rfl, rfl⟩ (by kernel_rfl) rfl plain (by kernel_rfl)

end Go.Proofs.YtbaakapnbginoaaDoor.fnDeedText
