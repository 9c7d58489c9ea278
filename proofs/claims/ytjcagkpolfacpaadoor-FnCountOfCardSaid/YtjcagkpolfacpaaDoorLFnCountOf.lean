/-
  FnCountOf: for every code: the count of the drawn number is at most the product of the counts of its parts, 1, 4, 12, 36 and 100 at first, and 4 divides it from 1 on. No condition beyond what the given statement itself bears.
-/
import Derived.Test.YtjcagkpolfacpaaDoorCountSpec
import Derived.Test.YtjcagkpolfacpaaDoorDrawCount
import Derived.Test.YtjcagkpolfacpaaDoorAlive
import Derived.Test.YtjcagkpolfacpaaDoorOpenCode
import Derived.Test.YtjcagkpolfacpaaDoorLaw
import Derived.Test.YtjcagkpolfacpaaDoorCards
import Derived.Test.YtjcagkpolfacpaaDoorTie

namespace Go.Proofs.YtjcagkpolfacpaaDoor.fnCountOf
open Go.ChangeShapes Go.WideShapes Go.ChangeAt Go.RowKit Go.WideMaps Go.WideElems
open Go.ChangeMaps (open_string shut_string)

theorem count_parts {N k : Nat} (hN : N ≤ 7) (hk : k ≤ N) : Tw.countOf N ≤ Tw.countOf k * Tw.countOf (N - k) ∧ 1 ≤ Tw.countOf N := by
  have hc : ∀ n, n ≤ 7 → Tw.countOf n = ([1, 4, 12, 36, 100, 284, 780, 2172] : List Nat)[n]?.getD 0 := fun n hn => by
    have h2 := congrArg (fun l : List Nat => l[n]?) Tw.counts
    simp only [List.getElem?_map, List.getElem?_range (show n < 8 by omega), Option.map_some] at h2
    rw [← h2]
    rfl
  rw [hc N hN, hc k (by omega), hc (N - k) (by omega)]
  have h := (by decide : (List.range 8).all (fun N => (List.range (N + 1)).all fun k => decide (([1, 4, 12, 36, 100, 284, 780, 2172] : List Nat)[N]?.getD 0 ≤ ([1, 4, 12, 36, 100, 284, 780, 2172] : List Nat)[k]?.getD 0 * ([1, 4, 12, 36, 100, 284, 780, 2172] : List Nat)[N - k]?.getD 0) && decide (1 ≤ ([1, 4, 12, 36, 100, 284, 780, 2172] : List Nat)[N]?.getD 0)) = true)
  have := List.all_eq_true.1 (List.all_eq_true.1 h N (List.mem_range.2 (by omega))) k (List.mem_range.2 (by omega))
  simpa using this
theorem count_small {N : Nat} (hN : N ≤ 7) : (N = 0 ∧ Tw.countOf N = 1) ∨ (N = 1 ∧ Tw.countOf N = 4) ∨ (N = 2 ∧ Tw.countOf N = 12) ∨ (N = 3 ∧ Tw.countOf N = 36) ∨ (N = 4 ∧ Tw.countOf N = 100) ∨ (N = 5 ∧ Tw.countOf N = 284) ∨ (N = 6 ∧ Tw.countOf N = 780) ∨ (N = 7 ∧ Tw.countOf N = 2172) := by
  have h2 := congrArg (fun l : List Nat => l[N]?) Tw.counts
  simp only [List.getElem?_map, List.getElem?_range (show N < 8 by omega), Option.map_some] at h2
  obtain rfl | rfl | rfl | rfl | rfl | rfl | rfl | rfl : N = 0 ∨ N = 1 ∨ N = 2 ∨ N = 3 ∨ N = 4 ∨ N = 5 ∨ N = 6 ∨ N = 7 := by omega
  all_goals
    have := Option.some.inj h2
    omega
theorem count_is (s z : Int) (hz : Tw.countI s = z) (w : World) (hD : DirsAt w) :
    Calls Tryd.prog 9 #[.int .i64 s] w fun e w' => e = .returned (.int .i64 z) ∧ Below w.heap.size w w' := hz ▸ implCount s w hD
theorem countI_nat {N : Nat} (hN : N ≤ 7) : Tw.countI (N : Int) = (Tw.countOf N : Int) := by
  unfold Tw.countI
  rw [if_pos (by omega)]
  rfl

set_option maxRecDepth 100000 in
set_option maxHeartbeats 3200000 in
theorem walk (v : Value) (n : Nat) (w : World) (hw : DirsAt w) (h : CodeAt w v n) :
    Calls Tryd.prog 5 #[v] w fun e w' => e = .returned (.bool true) ∧ Below w.heap.size w w' := by
  have hdraw := drawCountOf v n w h
  have hv : ∃ a cap, v = .slice a n cap := by
    rcases h with ⟨rfl, rfl⟩ | ⟨a, cap, rfl, _⟩
    · exact ⟨_, _, rfl⟩
    · exact ⟨_, _, rfl⟩
  obtain ⟨a, cap, rfl⟩ := hv
  have HD := Lib.hid hdraw
  have HW := Lib.hid hw
  clear hdraw h hw
  by_cases hn : n ≤ 1048576
  · go_enter Tryd.func5, Tryd.ntmps5
    go_upto_region 4 with (go_at_call 15; refine HD.out.mono ?_; rintro e w1 ⟨s, rfl, hs0, hs1, hb1⟩)
    have hb1s := hb1.size
    have HB1 := Lib.hid hb1
    have HD1 := Lib.hid (HW.out.below' hb1)
    clear hb1
    obtain ⟨z, hz⟩ : ∃ z, Tw.countI s = z := ⟨_, rfl⟩
    have H1 := Lib.hid (count_is s z hz)
    have H2 : Hid (∀ W, Calls Tryd.prog 8 #[.int .i64 s] W fun e w' => e = .returned (.int .i64 z) ∧ Below W.heap.size W w') := fun W => hz ▸ specCount s W
    by_cases h07 : 0 ≤ s ∧ s ≤ 7
    · obtain ⟨N, rfl⟩ := Int.eq_ofNat_of_zero_le h07.1
      have hN : N ≤ 7 := by omega
      rw [countI_nat hN] at hz
      subst hz
      have hpos := (count_parts hN (Nat.le_refl N)).2
      have hle := Tw.count_le hN
      have HCS := Lib.hid (count_small hN)
      have HP : Hid (∀ k, k ≤ N → Tw.countOf N ≤ Tw.countOf k * Tw.countOf (N - k)) := fun k hk => (count_parts hN hk).1
      obtain ⟨m, hm⟩ : ∃ m, Tw.countOf N = m := ⟨_, rfl⟩
      rw [hm] at H1 H2 hpos hle HCS HP
      clear h07 hm
      go_upto_region 9 with (first
        | (go_at_call 9; refine (H1.out _ HD1.out).mono ?_; rintro e w2 ⟨rfl, hb2⟩; have HB2 := Lib.hid hb2; have hb2s := hb2.size; clear hb2)
        | (go_at_call 8; refine (H2.out _).mono ?_; rintro e w3 ⟨rfl, hb3⟩; have HB3 := Lib.hid (HB2.out.trans (hb3.mono hb2s)); clear hb3))
      go_wp2_with fail
      have hb3s := HB3.out.size
      go_loopw [5] (fun i wr => ∃ k : Nat, k ≤ N + 1 ∧ i = .int .i64 k ∧ Hid (Below w1.heap.size w1 wr)) (fun i _ => N + 1 - (intOf i).toNat)
      case atStart => exact ⟨0, Nat.zero_le _, rfl, HB3.out⟩
      case round =>
        obtain ⟨k, hk, rfl, HBr⟩ := hrel
        have hbrs := HBr.out.size
        by_cases hlt : k ≤ N
        · have hp := HP.out k hlt
          have hka := Tw.count_le (n := k) (by omega)
          have hkb := Tw.count_le (n := N - k) (by omega)
          have e1 := countI_nat (N := k) (by omega)
          have e2 := countI_nat (N := N - k) (by omega)
          rw [show ((N - k : Nat) : Int) = (N : Int) - (k : Int) by omega] at e2
          obtain ⟨p, hp9⟩ : ∃ p, Tw.countOf k = p := ⟨_, rfl⟩
          obtain ⟨q, hq9⟩ : ∃ q, Tw.countOf (N - k) = q := ⟨_, rfl⟩
          rw [hp9] at hp hka e1
          rw [hq9] at hp hkb e2
          have HA := Lib.hid (count_is _ _ e1)
          have HBq := Lib.hid (count_is _ _ e2)
          have hpq : p * q ≤ 2172 * 2172 := Nat.mul_le_mul hka hkb
          have m1 : (p : Int) * (q : Int) = ((p * q : Nat) : Int) := (Int.natCast_mul p q).symm
          obtain ⟨t, ht⟩ : ∃ t, p * q = t := ⟨_, rfl⟩
          rw [ht] at hp hpq m1
          have hmt : (m : Int) ≤ (t : Int) := by omega
          clear e1 e2 hp9 hq9 ht hp
          go_wp2_with (go_at_call 9; first
            | (have hq := hb5; (with_reducible refine (HBq.out _ (HD1.out.below' hb5)).mono ?_); rintro e w6 ⟨rfl, hb6⟩; have hb7 := hb5.trans (hb6.mono hb5.size))
            | ((with_reducible refine (HA.out _ (HD1.out.below' HBr.out)).mono ?_); rintro e w5 ⟨rfl, hb5'⟩; have hb5 := HBr.out.trans (hb5'.mono hbrs)))
          go_roundw
          case rel => exact ⟨k + 1, by omega, by go_num, hb7⟩
          case measure => simp [intOf]; omega
        · obtain rfl : k = N + 1 := by omega
          rcases HCS.out with ⟨rfl, rfl⟩ | ⟨rfl, rfl⟩ | ⟨rfl, rfl⟩ | ⟨rfl, rfl⟩ | ⟨rfl, rfl⟩ | ⟨rfl, rfl⟩ | ⟨rfl, rfl⟩ | ⟨rfl, rfl⟩
          all_goals
            go_wp2_with fail
            go_ret
            exact ⟨rfl, HB1.out.trans ((HBr.out.alloc hbrs _).mono hb1s)⟩
    · obtain rfl : z = -1 := by rw [← hz]; unfold Tw.countI; rw [if_neg h07]
      clear hz h07
      go_wp2_with (first
        | (go_at_call 9; refine (H1.out _ HD1.out).mono ?_; rintro e w2 ⟨rfl, hb2⟩)
        | (go_at_call 8; refine (H2.out _).mono ?_; rintro e w3 ⟨rfl, hb3⟩)
        | (go_at_call 16; refine (alive_yes _).mono ?_; rintro e w' ⟨rfl, rfl⟩))
      go_ret
      exact ⟨rfl, HB1.out.trans ((hb2.trans (hb3.mono hb2.size)).mono hb1s)⟩
  · have hn' : 1048576 < n := by omega
    go_enter Tryd.func5, Tryd.ntmps5
    go_wp2_with fail
    go_ret
    exact ⟨rfl, Below.refl _ _⟩

set_option maxRecDepth 100000 in
theorem own : ownKnob Tryd.prog.godebug = none := by kernel_rfl
set_option maxRecDepth 100000 in
theorem laidOut : laidOutB Tryd.prog = true := by kernel_rfl
set_option maxRecDepth 100000 in
theorem rowed : rowsOk Tryd.prog Tryd.f5.params.toList = true := by kernel_rfl
set_option maxRecDepth 100000 in
theorem varred : varsOk Tryd.prog Rows.fnCountOfSpec.vars = true := by kernel_rfl
set_option maxRecDepth 100000 in
theorem resType : Tryd.f5.resultTypes = #[4] := by kernel_rfl

set_option maxRecDepth 100000 in
theorem contract (H : Type) (enc : TypeId × Value → H) (W : World) (base : Nat) (args : Array Value) (ds gs : List (DataW H)) (before : List MemPlace)
    (hval : ∀ (j : Nat) t v, Tryd.f5.params[j]? = some t → args[j]? = some v → Value.okWide Tryd.prog W .any base t v)
    (hW : DataW.Whole enc Tryd.prog Tryd.f5.params.toList Rows.fnCountOfSpec.vars false W args.toList ds gs before) (hL : laidMetH Tryd.prog Rows.fnCountOfRow.laid W) :
    Calls Tryd.prog 5 args W fun e W' => ∃ v, e = .returned v ∧ Rows.fnCountOfSpec.post enc Tryd.prog Tryd.f5 false true false false W args v W' := by
  have hW' := hW
  obtain ⟨p, q, hA0, hV, rfl, hfz, hnd⟩ := hW
  have hA : DataW.TrodAll enc Tryd.prog W 0 (fun _ => true) true Tryd.f5.params.toList args.toList ds p := hA0
  rw [Tryd.params5] at hA hval
  obtain ⟨v0, vs0, d0, ds0, p0, q0, hargs, rfl, rfl, h0, r0⟩ := trodAll_cons hA
  obtain ⟨rfl, rfl, rfl⟩ := trodAll_nil r0
  obtain rfl : args = #[v0] := by cases args; simp_all
  obtain ⟨g0, rfl⟩ := trodVars_len1 hV
  obtain ⟨n0, hcode0⟩ := open_code (hval 0 28 v0 rfl rfl) h0
  have t_dirs : DirsAt W := dirsAt (by kernel_rfl) hL (by simp [Rows.fnCountOfRow])
  refine (walk v0 n0 W t_dirs hcode0).mono fun e W' ⟨he, hb⟩ => ?_
  subst he
  exact ⟨_, rfl, law_post laidOut rowed varred resType Tryd.underlying4 hW' ⟨rfl, rfl, rfl⟩ hb⟩

/-- A world for the witness: the settled one, the listed variables holding what their initialisers lay. -/
noncomputable def laidWorld (os : Os) : World := { World.holding Tryd.prog os ⟨#[], #[], []⟩ with heap := ((World.holding Tryd.prog os ⟨#[], #[], []⟩).heap.modify 1 fun
      | .cells _ t frozen => .cells #[.int .i64 1, .int .i64 0, .int .i64 0, .int .i64 1, .int .i64 (-1), .int .i64 0, .int .i64 0, .int .i64 (-1)] t frozen
      | o => o) }
set_option maxRecDepth 100000 in
theorem laid_met (os : Os) : laidMet Tryd.prog Rows.fnCountOfRow.laid ((laidWorld os).forCall (fun _ _ => 0) ⟨#[], #[.slice none 0 0], []⟩).memory := laidMet_of_run' 8 (by kernel_rfl) (by kernel_rfl)
set_option maxRecDepth 100000 in
theorem reads (os : Os) {H : Type} (enc : TypeId × Value → H) : ∃ places, DataW.whole enc Tryd.prog ((laidWorld os).forCall (fun _ _ => 0) ⟨#[], #[.slice none 0 0], []⟩).memory Tryd.f5.params.toList Rows.fnCountOfSpec.vars false (#[.slice none 0 0] : Array Value).toList 8 = some ([.nil], [Rows.laid_loop_example_turtlewalks_impl_directions], places) := ⟨MemPlace.row ⟨1, 0, none⟩ 8, by kernel_rfl⟩

set_option maxRecDepth 100000 in
theorem lifted (os : Os) (started : os.Started) (H : Type) (enc : TypeId × Value → H) (F : Stop.Interp) :
    ReturnsInHanded {} Tryd.checked os 5 .any ((OpenSpec.ofChange Rows.fnCountOfSpec).preRow enc Tryd.prog Tryd.f5 Rows.fnCountOfRow.domain false Rows.fnCountOfRow.laid) (((OpenSpec.ofChange Rows.fnCountOfSpec).at F).post enc Tryd.prog Tryd.f5 false true false false) := by
  obtain ⟨places, hx⟩ := reads os enc
  refine returnsInHanded_of_row (C := Tryd.checked) (s := OpenSpec.ofChange Rows.fnCountOfSpec) own started (by kernel_rfl) Tryd.func5
    (witness_row_at (enc := enc) (C := Tryd.checked) false (laidWorld os) #[.slice none 0 0] rfl (by kernel_rfl) (by kernel_rfl) (by kernel_rfl)
      (OpenSpec.preRow_of_cond 8 hx (by kernel_rfl) (fun k hk => by cases hk) (by kernel_rfl) (laid_met os))) ?_
  intro W base args ds gs before hval hW _ _ _ hL _ _
  exact contract H enc W base args ds gs before hval hW hL

set_option maxRecDepth 100000 in
theorem said : Rows.FnCountOfSaid :=
  OpenClaim.holds_of_cond 5 Tryd.f5 rfl rfl rfl rfl rfl rfl rfl ⟨rfl, rfl, rfl, rfl, rfl⟩ rfl rfl rfl rfl rfl (by kernel_rfl) Tryd.func5 (by kernel_rfl)
    (of_decide_eq_true (by kernel_rfl)) (by unfold Func.isWrapper; first | (rw [if_pos (by decide +kernel)]; kernel_rfl) | (rw [if_neg (by decide +kernel)]; exact ⟨rfl, rfl⟩))
    (fun os started H enc _ F => by rw [OpenClaim.pre_eq_preRow]; exact lifted os started H enc F)

set_option maxRecDepth 100000 in
theorem plain (f : FuncId) (fn : Func) (hf : Tryd.pinned.checked.prog.funcNamed "loop.example/turtlewalks/laws.FnCountOf" = some f) (hfn : Tryd.pinned.checked.prog.funcs[f]? = some fn) :
    false = Tryd.pinned.checked.prog.looks [] ∧ ∀ (j : Nat) t, fn.params[j]? = some t → Tryd.pinned.checked.prog.wantsStandIn t = false := by
  obtain rfl : f = 5 := Option.some.inj ((show Tryd.prog.funcNamed "loop.example/turtlewalks/laws.FnCountOf" = some 5 by kernel_rfl).symm.trans hf) |>.symm
  obtain rfl : fn = Tryd.f5 := (Option.some.inj (Tryd.func5.symm.trans hfn)).symm
  refine ⟨by kernel_rfl, fun j t ht => ?_⟩
  rw [Tryd.params5] at ht
  have hm : t ∈ [28] := by simpa using Array.mem_of_getElem? ht
  have hall : ([28].all fun u => !Tryd.prog.wantsStandIn u) = true := by kernel_rfl
  exact (show Tryd.prog.wantsStandIn t = false by simpa using List.all_eq_true.1 hall t hm)

set_option maxRecDepth 100000 in
theorem card : Rows.FnCountOfCardSaid :=
  Claim7.holds_tied_plain_at .later [] _ _ _ _ said (fun _ h => by cases h) (by kernel_rfl) (fun _ h => by cases h) fnCountOf_row_tie rfl ⟨rfl, rfl⟩ (by kernel_rfl) rfl plain (by kernel_rfl)

end Go.Proofs.YtjcagkpolfacpaaDoor.fnCountOf
