/-
  FnReadDeed: for every code: the text of a deed that was read is the text, and with a space behind it it is refused. No condition beyond what the given statement itself bears.
-/
import Derived.Test.YtbaakapnbginoaaDoorDrawText
import Derived.Test.YtbaakapnbginoaaDoorReadSpec
import Derived.Test.YtbaakapnbginoaaDoorDeskDone
import Derived.Test.YtbaakapnbginoaaDoorAlive
import Derived.Test.YtbaakapnbginoaaDoorOpenCode
import Derived.Test.YtbaakapnbginoaaDoorLawWords
import Derived.Laws.StructEq
import Derived.Test.YtbaakapnbginoaaDoorCards
import Derived.Test.YtbaakapnbginoaaDoorTie
namespace Go.Proofs.YtbaakapnbginoaaDoor.fnReadDeed
open Go.ChangeShapes Go.WideShapes Go.ChangeAt Go.RowKit Go.WideMaps Go.WideElems
open Go.ChangeMaps (open_string shut_string)

theorem cell_row_old {w : World} {b : Nat} {r : Obj} (h : w.heap[b]? = some r) (o : Obj) : (w.alloc o).heap[b]? = some r := (Below.heap_alloc w o b (lt_at h)).trans h
theorem spaced {s : List UInt8} (h : (readOf s).2 = true) : readOf (s ++ [32]) = ((0, 0), false) := by
  obtain ⟨h0, ht⟩ := readOf_text h
  refine readOf_none fun k n _ h2 => ?_
  clear h
  generalize (readOf s).1.1 = K at ht
  generalize (readOf s).1.2 = M at ht
  have t := told_of (ht ▸ h0)
  obtain ⟨hk0, hk6⟩ := told_kind t
  have hw := word_clean (k := K.toNat) (by omega)
  have hne : s ++ [32] ≠ [] := by simp
  rw [text_told t] at ht
  split at ht
  · rename_i hk
    have hc : Cutting 32 (s ++ [32]) (deedWord K.toNat) (Lib.decDigits M.toNat ++ [32]) true := .inl ⟨rfl, by rw [← ht]; simp, hw.1⟩
    obtain ⟨_, _, _, _, h3, _⟩ := text_cut hc hne h2
    obtain ⟨hn0, hn9, e⟩ := h3 rfl
    have := (num_dec (n := n.toNat) (by omega)).2.2.1
    rw [← e] at this
    exact this (by simp)
  · have hc : Cutting 32 (s ++ [32]) (deedWord K.toNat) [] true := .inl ⟨rfl, by rw [ht], hw.1⟩
    obtain ⟨_, _, _, _, h3, _⟩ := text_cut hc hne h2
    obtain ⟨hn0, hn9, e⟩ := h3 rfl
    exact (num_dec (n := n.toNat) (by omega)).2.2.2 e.symm

set_option maxRecDepth 100000 in
set_option maxHeartbeats 1600000 in
theorem walk (v : Value) (n : Nat) (w : World) (hw : WordsAt w) (hm : MaxAt w) (h : CodeAt w v n) :
    Calls Tryd.prog 11 #[v] w fun e w' => e = .returned (.bool true) ∧ Below w.heap.size w w' := by
  have hdraw := drawReadDeed v n w h
  have hv : ∃ a cap, v = .slice a n cap := by
    rcases h with ⟨rfl, rfl⟩ | ⟨a, cap, rfl, _⟩
    · exact ⟨_, _, rfl⟩
    · exact ⟨_, _, rfl⟩
  obtain ⟨a, cap, rfl⟩ := hv
  have HD := Lib.hid hdraw
  clear hdraw h
  by_cases hn : n ≤ 1048576
  · go_enter Tryd.func11, Tryd.ntmps11
    go_upto_region 4 with (first
      | (go_at_call 51; refine HD.out.mono ?_; rintro e w1 ⟨s, rfl, hs, hb1⟩))
    obtain ⟨K, hK⟩ : ∃ k, (readOf s.data.toList).1.1 = k := ⟨_, rfl⟩
    obtain ⟨M, hM⟩ : ∃ n, (readOf s.data.toList).1.2 = n := ⟨_, rfl⟩
    obtain ⟨b, hb⟩ : ∃ b, (readOf s.data.toList).2 = b := ⟨_, rfl⟩
    have h1 := fun W => specReadDeed s W (by omega)
    have h2 := fun W hw hm => implReadDeed s W hw hm (by omega)
    unfold ReadOut at h1 h2
    rw [hK, hM, hb] at h1 h2
    have H1 := Lib.hid h1
    have H2 := Lib.hid h2
    have hkk : (K == K) = true := beq_self_eq_true K
    have hmm : (M == M) = true := beq_self_eq_true M
    cases b
    · have hz := (readOf_not hb).1
      have hK' : K = 0 := by rw [← hK, hz]
      have hM' : M = 0 := by rw [← hM, hz]
      clear h1 h2 hK hM hb hz
      subst hK' hM'
      go_wp2_with (first
        | (go_at_call 15; refine (H2.out _ (hw.below' hb1) (hm.below' hb1)).mono ?_; rintro e w2 ⟨rfl, hb2⟩; have hbw2 := (hb1.trans (hb2.mono hb1.size)).alloc (by have := hb1.size; have := hb2.size; omega) (.cells #[.int .i64 0, .int .i64 0] 23); have hr2 := heap_alloc_new w2 (.cells #[.int .i64 0, .int .i64 0] 23); have HR2 := Lib.hid hr2; clear hr2)
        | (go_at_call 14; refine (H1.out _).mono ?_; rintro e w3 ⟨rfl, hb3⟩; have hr3 := (hb3.block w2.heap.size (by simp)).trans HR2.out; have c0 := cell_of_row _ _ 0 _ _ _ hr3; have c1 := cell_of_row _ _ 1 _ _ _ hr3; have hlt3 := lt_at hr3; have d0 := fun o => (cell_older (j := 0) hlt3 o).trans c0; have d1 := fun o => (cell_older (j := 1) hlt3 o).trans c1; have hbw3 := hbw2.trans (hb3.mono hbw2.size); clear hr3)
        | (go_at_call 37; refine (alive_yes _).mono ?_; rintro e w' ⟨rfl, rfl⟩))
      go_ret
      exact ⟨rfl, hbw3.alloc hbw3.size _⟩
    · obtain ⟨h00, htx⟩ := readOf_text hb
      have hsp := spaced hb
      rw [hK, hM] at htx
      obtain ⟨x, hx⟩ : ∃ x, s ++ (⟨#[32]⟩ : ByteArray) = x := ⟨_, rfl⟩
      have hxd : x.data.toList = s.data.toList ++ [32] := by rw [← hx]; simp
      have hxs : x.size ≤ 1048576 := by rw [← size_data, hxd, List.length_append, size_data]; simp; omega
      have h3 := fun W hw hm => implReadDeed x W hw hm hxs
      unfold ReadOut at h3
      rw [hxd, hsp] at h3
      have hdt : Tw.str (deedText K M) = s := by rw [htx]; exact Tw.str_of s
      have H3 := Lib.hid h3
      have H4 : Hid (∀ W, WordsAt W → Calls Tryd.prog 49 #[.agg #[.int .i64 K, .int .i64 M]] W fun e w' => e = .returned (.string s) ∧ Below W.heap.size W w') := fun W hW => hdt ▸ implDeedText K M W hW
      have hss : (s.toList == s.toList) = true := by simp
      have HX := Lib.hid hx
      clear h1 h2 hK hM hb h3 hdt htx h00 hsp hxd hx
      go_upto_region 10 with (first
        | (go_at_call 15; refine (H2.out _ (hw.below' hb1) (hm.below' hb1)).mono ?_; rintro e w2 ⟨rfl, hb2⟩; have hbw2 := (hb1.trans (hb2.mono hb1.size)).alloc (by have := hb1.size; have := hb2.size; omega) (.cells #[.int .i64 K, .int .i64 M] 23); have hr2 := heap_alloc_new w2 (.cells #[.int .i64 K, .int .i64 M] 23); have HR2 := Lib.hid hr2; clear hr2)
        | (go_at_call 14; refine (H1.out _).mono ?_; rintro e w3 ⟨rfl, hb3⟩; have hr3 := (hb3.block w2.heap.size (by simp)).trans HR2.out; have c0 := cell_of_row _ _ 0 _ _ _ hr3; have c1 := cell_of_row _ _ 1 _ _ _ hr3; have hlt3 := lt_at hr3; have d0 := fun o => (cell_older (j := 0) hlt3 o).trans c0; have d1 := fun o => (cell_older (j := 1) hlt3 o).trans c1; have hbw3 := hbw2.trans (hb3.mono hbw2.size); have HR3 := Lib.hid hr3; clear hr3))
      have hbw4 := hbw3.alloc hbw3.size (.cells #[.int .i64 K, .int .i64 M] 23)
      have hr4 := (cell_row_old (w := w3) HR3.out (.cells #[.int .i64 K, .int .i64 M] 23))
      obtain ⟨w4, hw4⟩ : ∃ w4, w3.alloc (.cells #[.int .i64 K, .int .i64 M] 23) = w4 := ⟨_, rfl⟩
      rw [hw4] at hbw4 hr4 ⊢
      have HR4 := Lib.hid hr4
      clear hr4 hw4 d0 d1
      have hxx : s ++ (⟨#[32]⟩ : ByteArray) = x := HX.out
      go_wp2_with (first
        | (go_at_call 15; refine (H3.out _ (hw.below' hbw4) (hm.below' hbw4)).mono ?_; rintro e w5 ⟨rfl, hb5⟩; have hbw5 := (hbw4.trans (hb5.mono hbw4.size)).alloc (by have := hbw4.size; have := hb5.size; omega) (.cells #[.int .i64 0, .int .i64 0] 23); have hr5 := (hb5.block w2.heap.size (lt_at HR4.out)).trans HR4.out; have hlt5 := lt_at hr5; have g0 := fun o => (cell_older (j := 0) hlt5 o).trans (cell_of_row _ _ 0 _ _ _ hr5); have g1 := fun o => (cell_older (j := 1) hlt5 o).trans (cell_of_row _ _ 1 _ _ _ hr5); clear hr5)
        | (go_at_call 49; refine (H4.out _ (hw.below' hbw5)).mono ?_; rintro e w6 ⟨rfl, hb6⟩))
      go_ret
      exact ⟨rfl, hbw5.trans (hb6.mono hbw5.size)⟩
  · have hn' : 1048576 < n := by omega
    go_enter Tryd.func11, Tryd.ntmps11
    go_wp2_with fail
    go_ret
    exact ⟨rfl, Below.refl _ _⟩

set_option maxRecDepth 100000 in
theorem own : ownKnob Tryd.prog.godebug = none := by kernel_rfl
set_option maxRecDepth 100000 in
theorem laidOut : laidOutB Tryd.prog = true := by kernel_rfl
set_option maxRecDepth 100000 in
theorem rowed : rowsOk Tryd.prog Tryd.f11.params.toList = true := by kernel_rfl
set_option maxRecDepth 100000 in
theorem varred : varsOk Tryd.prog Rows.fnReadDeedSpec.vars = true := by kernel_rfl
set_option maxRecDepth 100000 in
theorem resType : Tryd.f11.resultTypes = #[4] := by kernel_rfl

set_option maxRecDepth 100000 in
theorem contract (H : Type) (enc : TypeId × Value → H) (W : World) (base : Nat) (args : Array Value) (ds gs : List (DataW H)) (before : List MemPlace)
    (hval : ∀ (j : Nat) t v, Tryd.f11.params[j]? = some t → args[j]? = some v → Value.okWide Tryd.prog W .any base t v)
    (hW : DataW.Whole enc Tryd.prog Tryd.f11.params.toList Rows.fnReadDeedSpec.vars false W args.toList ds gs before) (hL : laidMetH Tryd.prog Rows.fnReadDeedRow.laid W) (hSh : W.ShapedOpen Tryd.prog) :
    Calls Tryd.prog 11 args W fun e W' => ∃ v, e = .returned v ∧ Rows.fnReadDeedSpec.post enc Tryd.prog Tryd.f11 false true false false W args v W' := by
  have hW' := hW
  obtain ⟨p, q, hA0, hV, rfl, hfz, hnd⟩ := hW
  have hA : DataW.TrodAll enc Tryd.prog W 0 (fun _ => true) true Tryd.f11.params.toList args.toList ds p := hA0
  rw [Tryd.params11] at hA hval
  obtain ⟨v0, vs0, d0, ds0, p0, q0, hargs, rfl, rfl, h0, r0⟩ := trodAll_cons hA
  obtain ⟨rfl, rfl, rfl⟩ := trodAll_nil r0
  obtain rfl : args = #[v0] := by cases args; simp_all
  obtain ⟨g0, rfl⟩ := trodVars_len1 hV
  obtain ⟨n0, hcode0⟩ := open_code (hval 0 52 v0 rfl rfl) h0
  have t_words : WordsAt W := wordsAt (by kernel_rfl) hL (by simp [Rows.fnReadDeedRow])
  have t_max : MaxAt W := maxAt hSh
  refine (walk v0 n0 W t_words t_max hcode0).mono fun e W' ⟨he, hb⟩ => ?_
  subst he
  exact ⟨_, rfl, law_post laidOut rowed varred resType Tryd.underlying4 hW' ⟨rfl, rfl, rfl⟩ hb⟩

/-- A world for the witness: the settled one, the listed variables holding what their initialisers lay. -/
noncomputable def laidWorld (os : Os) : World := { World.holding Tryd.prog os ⟨#[], #[], []⟩ with heap := (((((World.holding Tryd.prog os ⟨#[], #[], []⟩).heap.modify 5 fun
      | .cells _ t frozen => .cells #[.int .u8 0, .int .u8 1, .int .u8 28, .int .u8 2, .int .u8 29, .int .u8 14, .int .u8 24, .int .u8 3, .int .u8 30, .int .u8 22, .int .u8 20, .int .u8 15, .int .u8 25, .int .u8 17, .int .u8 4, .int .u8 8, .int .u8 31, .int .u8 27, .int .u8 13, .int .u8 23, .int .u8 21, .int .u8 19, .int .u8 16, .int .u8 7, .int .u8 26, .int .u8 12, .int .u8 18, .int .u8 6, .int .u8 11, .int .u8 5, .int .u8 10, .int .u8 9] t frozen
      | o => o).modify 6 fun
      | .cells _ t frozen => .cells #[.int .u8 0, .int .u8 1, .int .u8 56, .int .u8 2, .int .u8 57, .int .u8 49, .int .u8 28, .int .u8 3, .int .u8 61, .int .u8 58, .int .u8 42, .int .u8 50, .int .u8 38, .int .u8 29, .int .u8 17, .int .u8 4, .int .u8 62, .int .u8 47, .int .u8 59, .int .u8 36, .int .u8 45, .int .u8 43, .int .u8 51, .int .u8 22, .int .u8 53, .int .u8 39, .int .u8 33, .int .u8 30, .int .u8 24, .int .u8 18, .int .u8 12, .int .u8 5, .int .u8 63, .int .u8 55, .int .u8 48, .int .u8 27, .int .u8 60, .int .u8 41, .int .u8 37, .int .u8 16, .int .u8 46, .int .u8 35, .int .u8 44, .int .u8 21, .int .u8 52, .int .u8 32, .int .u8 23, .int .u8 11, .int .u8 54, .int .u8 26, .int .u8 40, .int .u8 15, .int .u8 34, .int .u8 20, .int .u8 31, .int .u8 10, .int .u8 25, .int .u8 14, .int .u8 19, .int .u8 9, .int .u8 13, .int .u8 8, .int .u8 7, .int .u8 6] t frozen
      | o => o).modify 4 fun
      | .cells _ t frozen => .cells #[.int .u64 1, .int .u64 10, .int .u64 100, .int .u64 1000, .int .u64 10000, .int .u64 100000, .int .u64 1000000, .int .u64 10000000, .int .u64 100000000, .int .u64 1000000000, .int .u64 10000000000, .int .u64 100000000000, .int .u64 1000000000000, .int .u64 10000000000000, .int .u64 100000000000000, .int .u64 1000000000000000, .int .u64 10000000000000000, .int .u64 100000000000000000, .int .u64 1000000000000000000, .int .u64 10000000000000000000] t frozen
      | o => o).modify 0 fun
      | .cells _ t frozen => .cells #[.string ⟨#[115, 116, 101, 112]⟩, .string ⟨#[100, 114, 111, 112]⟩, .string ⟨#[119, 97, 121]⟩, .string ⟨#[111, 110]⟩, .string ⟨#[102, 105, 114, 115, 116]⟩, .string ⟨#[98, 97, 99, 107]⟩] t frozen
      | o => o) }
set_option maxRecDepth 100000 in
theorem laid_met (os : Os) : laidMet Tryd.prog Rows.fnReadDeedRow.laid ((laidWorld os).forCall (fun _ _ => 0) ⟨#[], #[.slice none 0 0], []⟩).memory := laidMet_of_run' 8 (by kernel_rfl) (by kernel_rfl)
set_option maxRecDepth 100000 in
theorem reads (os : Os) {H : Type} (enc : TypeId × Value → H) : ∃ places, DataW.whole enc Tryd.prog ((laidWorld os).forCall (fun _ _ => 0) ⟨#[], #[.slice none 0 0], []⟩).memory Tryd.f11.params.toList Rows.fnReadDeedSpec.vars false (#[.slice none 0 0] : Array Value).toList 8 = some ([.nil], [Rows.laid_loop_example_turtlewalks_impl_deedWords], places) := ⟨MemPlace.row ⟨0, 0, none⟩ 6, by kernel_rfl⟩

set_option maxRecDepth 100000 in
theorem lifted (os : Os) (started : os.Started) (H : Type) (enc : TypeId × Value → H) (F : Stop.Interp) :
    ReturnsInHanded {} Tryd.checked os 11 .any ((OpenSpec.ofChange Rows.fnReadDeedSpec).preRow enc Tryd.prog Tryd.f11 Rows.fnReadDeedRow.domain false Rows.fnReadDeedRow.laid) (((OpenSpec.ofChange Rows.fnReadDeedSpec).at F).post enc Tryd.prog Tryd.f11 false true false false) := by
  obtain ⟨places, hx⟩ := reads os enc
  refine returnsInHanded_of_row (C := Tryd.checked) (s := OpenSpec.ofChange Rows.fnReadDeedSpec) own started (by kernel_rfl) Tryd.func11
    (witness_row_at (enc := enc) (C := Tryd.checked) false (laidWorld os) #[.slice none 0 0] rfl (by kernel_rfl) (by kernel_rfl) (by kernel_rfl)
      (OpenSpec.preRow_of_cond 8 hx (by kernel_rfl) (fun k hk => by cases hk) (by kernel_rfl) (laid_met os))) ?_
  intro W base args ds gs before hval hW _ _ _ hL hSh _
  exact contract H enc W base args ds gs before hval hW hL hSh

set_option maxRecDepth 100000 in
theorem said : Rows.FnReadDeedSaid :=
  OpenClaim.holds_of_cond 11 Tryd.f11 rfl rfl rfl rfl rfl rfl rfl ⟨rfl, rfl, rfl, rfl, rfl⟩ rfl rfl rfl rfl rfl (by kernel_rfl) Tryd.func11 (by kernel_rfl)
    (of_decide_eq_true (by kernel_rfl)) (by unfold Func.isWrapper; first | (rw [if_pos (by decide +kernel)]; kernel_rfl) | (rw [if_neg (by decide +kernel)]; exact ⟨rfl, rfl⟩))
    (fun os started H enc _ F => by rw [OpenClaim.pre_eq_preRow]; exact lifted os started H enc F)

set_option maxRecDepth 100000 in
theorem plain (f : FuncId) (fn : Func) (hf : Tryd.pinned.checked.prog.funcNamed "loop.example/turtlewalks/laws.FnReadDeed" = some f) (hfn : Tryd.pinned.checked.prog.funcs[f]? = some fn) :
    false = Tryd.pinned.checked.prog.looks [] ∧ ∀ (j : Nat) t, fn.params[j]? = some t → Tryd.pinned.checked.prog.wantsStandIn t = false := by
  obtain rfl : f = 11 := Option.some.inj ((show Tryd.prog.funcNamed "loop.example/turtlewalks/laws.FnReadDeed" = some 11 by kernel_rfl).symm.trans hf) |>.symm
  obtain rfl : fn = Tryd.f11 := (Option.some.inj (Tryd.func11.symm.trans hfn)).symm
  refine ⟨by kernel_rfl, fun j t ht => ?_⟩
  rw [Tryd.params11] at ht
  have hm : t ∈ [52] := by simpa using Array.mem_of_getElem? ht
  have hall : ([52].all fun u => !Tryd.prog.wantsStandIn u) = true := by kernel_rfl
  exact (show Tryd.prog.wantsStandIn t = false by simpa using List.all_eq_true.1 hall t hm)

set_option maxRecDepth 100000 in
theorem card : Rows.FnReadDeedCardSaid :=
  Claim7.holds_tied_plain_at .later [] _ _ _ _ said (fun _ h => by cases h) (by kernel_rfl) (fun _ h => by cases h) fnReadDeed_row_tie rfl ⟨rfl, rfl⟩ (by kernel_rfl) rfl plain (by kernel_rfl)

end Go.Proofs.YtbaakapnbginoaaDoor.fnReadDeed
