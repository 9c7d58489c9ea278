/-
  FnRunsOf: for every code: the drawn block has at most as many runs as cells, the whole square has one, and a row of cells one and as many as steps from an odd to an even place. No condition beyond what the given statement itself bears.
-/
import Derived.Test.YtjcagkpolfacpaaRunsImpl
import Derived.Test.YtjcagkpolfacpaaDrawRuns
import Derived.Test.YtjcagkpolfacpaaAlive
import Derived.Test.YtjcagkpolfacpaaOpenCode
import Derived.Test.YtjcagkpolfacpaaLaw

namespace Go.Proofs.Ytjcagkpolfacpaa.fnRunsOf
open Go.ChangeShapes Go.WideShapes Go.ChangeAt Go.RowKit Go.WideMaps Go.WideElems
open Go.ChangeMaps (open_string shut_string)

theorem runs_is (h l lo r hi z : Int) (hz : Rn.runsOf h l lo r hi = z) (w : World) :
    Calls Try.prog 6 #[.int .i64 h, .int .i64 l, .int .i64 lo, .int .i64 r, .int .i64 hi] w fun e w' => e = .returned (.int .i64 z) ∧ Below w.heap.size w w' := hz ▸ implRuns h l lo r hi w

set_option maxRecDepth 100000 in
set_option maxHeartbeats 3200000 in
theorem walk (v : Value) (n : Nat) (w : World) (h : CodeAt w v n) :
    Calls Try.prog 4 #[v] w fun e w' => e = .returned (.bool true) ∧ Below w.heap.size w w' := by
  have hdraw := drawRunsOf v n w h
  have hv : ∃ a cap, v = .slice a n cap := by
    rcases h with ⟨rfl, rfl⟩ | ⟨a, cap, rfl, _⟩
    · exact ⟨_, _, rfl⟩
    · exact ⟨_, _, rfl⟩
  obtain ⟨a, cap, rfl⟩ := hv
  have HD := Lib.hid hdraw
  clear hdraw h
  by_cases hn : n ≤ 1048576
  · go_enter Try.func4, Try.ntmps4
    go_upto_region 4 with (go_at_call 7; refine HD.out.mono ?_; rintro e w1 ⟨x, l, lo, r, hi, rfl, hb1⟩)
    have hb1s := hb1.size
    have HB1 := Lib.hid hb1
    clear hb1
    obtain ⟨z, hz⟩ : ∃ z, Rn.runsOf x l lo r hi = z := ⟨_, rfl⟩
    have H1 := Lib.hid (runs_is x l lo r hi z hz)
    have H2 : Hid (∀ W, Calls Try.prog 5 #[.int .i64 x, .int .i64 l, .int .i64 lo, .int .i64 r, .int .i64 hi] W fun e w' => e = .returned (.int .i64 z) ∧ W = w') := fun W => by
      have := specRuns x l lo r hi W
      rwa [hz] at this
    cases hok : Rn.okB x l lo r hi
    · obtain rfl : z = -1 := by rw [← hz]; unfold Rn.runsOf; rw [hok]; rfl
      clear hz hok
      go_wp2_with (first
        | (go_at_call 6; refine (H1.out _).mono ?_; rintro e w2 ⟨rfl, hb2⟩)
        | (go_at_call 5; refine (H2.out _).mono ?_; rintro e w' ⟨rfl, rfl⟩)
        | (go_at_call 8; refine (alive_yes _).mono ?_; rintro e w' ⟨rfl, rfl⟩))
      go_ret
      exact ⟨rfl, HB1.out.trans (hb2.mono hb1s)⟩
    · have hzz : z = (Rn.blockRuns x.toNat l.toNat lo.toNat r.toNat hi.toNat : Int) := by rw [← hz]; unfold Rn.runsOf; rw [hok]; rfl
      unfold Rn.okB at hok
      have hyes := of_decide_eq_true hok
      clear hok hz
      obtain ⟨x, rfl⟩ := Int.eq_ofNat_of_zero_le (show 0 ≤ x by omega)
      obtain ⟨l, rfl⟩ := Int.eq_ofNat_of_zero_le (show 0 ≤ l by omega)
      obtain ⟨lo, rfl⟩ := Int.eq_ofNat_of_zero_le (show 0 ≤ lo by omega)
      obtain ⟨r, rfl⟩ := Int.eq_ofNat_of_zero_le (show 0 ≤ r by omega)
      obtain ⟨hi, rfl⟩ := Int.eq_ofNat_of_zero_le (show 0 ≤ hi by omega)
      have e : ((2 ^ x : Nat) : Int) = (2 : Int) ^ x := by push_cast; rfl
      simp only [Int.toNat_natCast, ← e] at hyes hzz
      have hx4 : x ≤ 4 := by omega
      have hp := Rn.pow_le hx4
      have g1 : l ≤ r := by omega
      have g2 : lo ≤ hi := by omega
      have g3 : r < 16 := by omega
      have g4 : hi < 16 := by omega
      have hbd := Rn.block_bounds hx4 g1 g2 (show r < 2 ^ x by omega) (show hi < 2 ^ x by omega)
      have hrow : lo = hi → Rn.blockRuns x l lo r hi = Rn.rowRuns l (r - l) := fun h9 => by subst h9; exact Rn.row_runs hx4 g1 (by omega) (by omega)
      obtain ⟨k, hk⟩ : ∃ k, Rn.blockRuns x l lo r hi = k := ⟨_, rfl⟩
      rw [hk] at hzz hbd hrow
      subst hzz
      have hbig : (r + 1 - l) * (hi + 1 - lo) ≤ 16 * 16 := Nat.mul_le_mul (by omega) (by omega)
      have m1 : ((r : Int) - (l : Int) + 1) * ((hi : Int) - (lo : Int) + 1) = (((r + 1 - l) * (hi + 1 - lo) : Nat) : Int) := by
        rw [Int.natCast_mul]
        congr 1 <;> omega
      obtain ⟨q, hq⟩ : ∃ q, (r + 1 - l) * (hi + 1 - lo) = q := ⟨_, rfl⟩
      rw [hq] at hbd hbig m1
      have hkq : (k : Int) ≤ (q : Int) := by omega
      have hk1 : 1 ≤ k := hbd.1
      have hk256 : k ≤ 256 := by omega
      have HROW := Lib.hid hrow
      have HFULL : Hid (Rn.runsOf (x : Int) 0 0 ((2 ^ x - 1 : Nat) : Int) ((2 ^ x - 1 : Nat) : Int) = 1) := by
        show _ = _
        have hpos := Nat.pow_pos (a := 2) (n := x) (by omega)
        have hok : Rn.okB (x : Int) 0 0 ((2 ^ x - 1 : Nat) : Int) ((2 ^ x - 1 : Nat) : Int) = true := by
          unfold Rn.okB
          simp only [Int.toNat_natCast, ← e, decide_eq_true_eq]
          omega
        unfold Rn.runsOf
        rw [if_pos hok]
        simp only [Int.toNat_natCast, Int.toNat_zero]
        rw [Rn.whole_square hx4]
        rfl
      clear e hyes hk hq hbd hrow hp
      obtain rfl | rfl | rfl | rfl | rfl : x = 0 ∨ x = 1 ∨ x = 2 ∨ x = 3 ∨ x = 4 := by omega
      all_goals
        go_upto_region 11 with (first
          | (go_at_call 6; refine (H1.out _).mono ?_; rintro e w2 ⟨rfl, hb2⟩; have HB2 := Lib.hid hb2; have hb2s := hb2.size; clear hb2)
          | (go_at_call 5; refine (H2.out _).mono ?_; rintro e w' ⟨rfl, rfl⟩))
        have hfull := HFULL.out
        simp only [Nat.reducePow, Nat.reduceSub] at hfull
        have H3 := Lib.hid (runs_is _ 0 0 _ _ 1 hfull)
        clear hfull
        go_wp2_with fail
        go_loop [10, 11] (fun a i => ∃ y : Nat, l + 1 ≤ y ∧ y ≤ r + 1 ∧ a = .int .i64 (Rn.rowRuns l (y - 1 - l)) ∧ i = .int .i64 y) (fun _ i => r + 1 - (intOf i).toNat)
        case atStart => exact ⟨l + 1, Nat.le_refl _, by omega, by rw [show l + 1 - 1 - l = 0 by omega]; rfl, by go_num⟩
        case round =>
          obtain ⟨y, hy1, hy2, rfl, rfl⟩ := hrel
          have hle := Rn.rowRuns_le l (y - 1 - l)
          by_cases hlt : y < r + 1
          · have hnext := Rn.rowRuns_next l y hy1
            obtain ⟨c, hc⟩ : ∃ c, Rn.rowRuns l (y - 1 - l) = c := ⟨_, rfl⟩
            rw [hc] at hle hnext ⊢
            have hyr : y ≤ r := by omega
            have HN := Lib.hid hnext
            clear hnext hc hlt
            by_cases hev : y % 2 = 0
            · have he : ((y : Int) % 2 == 0) = true := by simp; omega
              go_wp2_with fail
              go_round
              case rel => exact ⟨y + 1, by omega, by omega, by rw [HN.out, if_pos hev]; go_num, by go_num⟩
              case measure => simp [intOf]; omega
            · have he : ((y : Int) % 2 == 0) = false := by simp; omega
              go_wp2_with fail
              go_round
              case rel => exact ⟨y + 1, by omega, by omega, by rw [HN.out, if_neg hev]; go_num, by go_num⟩
              case measure => simp [intOf]; omega
          · obtain rfl : y = r + 1 := by omega
            rw [show r + 1 - 1 - l = r - l by omega] at hle ⊢
            obtain ⟨c, hc⟩ : ∃ c, Rn.rowRuns l (r - l) = c := ⟨_, rfl⟩
            rw [hc] at hle ⊢
            have hrw := HROW.out
            rw [hc] at hrw
            clear hc
            by_cases heq : lo = hi
            · obtain rfl : k = c := hrw heq
              subst heq
              clear hrw
              go_wp2_with (first
                | (go_at_call 6; refine (H3.out _).mono ?_; rintro e w5 ⟨rfl, hb5⟩))
              go_ret
              exact ⟨rfl, (HB1.out.trans (HB2.out.mono hb1s)).trans (hb5.mono (by omega))⟩
            · have hne : ((lo : Int) != (hi : Int)) = true := by simp; omega
              have hne2 : ((lo : Int) == (hi : Int)) = false := by simp; omega
              clear hrw
              go_wp2_with (first
                | (go_at_call 6; refine (H3.out _).mono ?_; rintro e w5 ⟨rfl, hb5⟩))
              go_ret
              exact ⟨rfl, (HB1.out.trans (HB2.out.mono hb1s)).trans (hb5.mono (by omega))⟩
  · have hn' : 1048576 < n := by omega
    go_enter Try.func4, Try.ntmps4
    go_wp2_with fail
    go_ret
    exact ⟨rfl, Below.refl _ _⟩

set_option maxRecDepth 100000 in
theorem own : ownKnob Try.prog.godebug = none := by kernel_rfl
set_option maxRecDepth 100000 in
theorem laidOut : laidOutB Try.prog = true := by kernel_rfl
set_option maxRecDepth 100000 in
theorem rowed : rowsOk Try.prog Try.f4.params.toList = true := by kernel_rfl
set_option maxRecDepth 100000 in
theorem varred : varsOk Try.prog Rows.fnRunsOfSpec.vars = true := by kernel_rfl
set_option maxRecDepth 100000 in
theorem resType : Try.f4.resultTypes = #[4] := by kernel_rfl

set_option maxRecDepth 100000 in
theorem contract (H : Type) (enc : TypeId × Value → H) (W : World) (base : Nat) (args : Array Value) (ds gs : List (DataW H)) (before : List MemPlace)
    (hval : ∀ (j : Nat) t v, Try.f4.params[j]? = some t → args[j]? = some v → Value.okWide Try.prog W .any base t v)
    (hW : DataW.Whole enc Try.prog Try.f4.params.toList Rows.fnRunsOfSpec.vars false W args.toList ds gs before) (_hL : laidMetH Try.prog Rows.fnRunsOfRow.laid W) :
    Calls Try.prog 4 args W fun e W' => ∃ v, e = .returned v ∧ Rows.fnRunsOfSpec.post enc Try.prog Try.f4 false true false false W args v W' := by
  have hW' := hW
  obtain ⟨p, q, hA0, hV, rfl, hfz, hnd⟩ := hW
  have hA : DataW.TrodAll enc Try.prog W 0 (fun _ => true) true Try.f4.params.toList args.toList ds p := hA0
  rw [Try.params4] at hA hval
  obtain ⟨v0, vs0, d0, ds0, p0, q0, hargs, rfl, rfl, h0, r0⟩ := trodAll_cons hA
  obtain ⟨rfl, rfl, rfl⟩ := trodAll_nil r0
  obtain rfl : args = #[v0] := by cases args; simp_all
  obtain ⟨rfl⟩ := trodVars_len0 hV
  obtain ⟨n0, hcode0⟩ := open_code (hval 0 24 v0 rfl rfl) h0
  refine (walk v0 n0 W hcode0).mono fun e W' ⟨he, hb⟩ => ?_
  subst he
  exact ⟨_, rfl, law_post laidOut rowed varred resType Try.underlying4 hW' ⟨rfl, rfl, rfl⟩ hb⟩

/-- A world for the witness: the settled one, the listed variables holding what their initialisers lay. -/
noncomputable def laidWorld (os : Os) : World := { World.holding Try.prog os ⟨#[], #[], []⟩ with heap := (World.holding Try.prog os ⟨#[], #[], []⟩).heap }
set_option maxRecDepth 100000 in
theorem laid_met (os : Os) : laidMet Try.prog Rows.fnRunsOfRow.laid ((laidWorld os).forCall (fun _ _ => 0) ⟨#[], #[.slice none 0 0], []⟩).memory := ⟨[], rfl, List.nodup_nil, fun _ _ h => by cases h⟩
set_option maxRecDepth 100000 in
theorem reads (os : Os) {H : Type} (enc : TypeId × Value → H) : ∃ places, DataW.whole enc Try.prog ((laidWorld os).forCall (fun _ _ => 0) ⟨#[], #[.slice none 0 0], []⟩).memory Try.f4.params.toList Rows.fnRunsOfSpec.vars false (#[.slice none 0 0] : Array Value).toList 8 = some ([.nil], [], places) := ⟨[], by kernel_rfl⟩

set_option maxRecDepth 100000 in
theorem lifted (os : Os) (started : os.Started) (H : Type) (enc : TypeId × Value → H) (F : Stop.Interp) :
    ReturnsInHanded {} Try.checked os 4 .any ((OpenSpec.ofChange Rows.fnRunsOfSpec).preRow enc Try.prog Try.f4 Rows.fnRunsOfRow.domain false Rows.fnRunsOfRow.laid) (((OpenSpec.ofChange Rows.fnRunsOfSpec).at F).post enc Try.prog Try.f4 false true false false) := by
  obtain ⟨places, hx⟩ := reads os enc
  refine returnsInHanded_of_row (C := Try.checked) (s := OpenSpec.ofChange Rows.fnRunsOfSpec) own started (by kernel_rfl) Try.func4
    (witness_row_at (enc := enc) (C := Try.checked) false (laidWorld os) #[.slice none 0 0] rfl (by kernel_rfl) (by kernel_rfl) (by kernel_rfl)
      (OpenSpec.preRow_of_cond 8 hx (by kernel_rfl) (fun k hk => by cases hk) (by kernel_rfl) (laid_met os))) ?_
  intro W base args ds gs before hval hW _ _ _ hL _ _
  exact contract H enc W base args ds gs before hval hW hL

set_option maxRecDepth 100000 in
theorem said : Rows.FnRunsOfSaid :=
  OpenClaim.holds_of_cond 4 Try.f4 rfl rfl rfl rfl rfl rfl rfl ⟨rfl, rfl, rfl, rfl, rfl⟩ rfl rfl rfl rfl rfl (by kernel_rfl) Try.func4 (by kernel_rfl)
    (of_decide_eq_true (by kernel_rfl)) (by unfold Func.isWrapper; first | (rw [if_pos (by decide +kernel)]; kernel_rfl) | (rw [if_neg (by decide +kernel)]; exact ⟨rfl, rfl⟩))
    (fun os started H enc _ F => by rw [OpenClaim.pre_eq_preRow]; exact lifted os started H enc F)

end Go.Proofs.Ytjcagkpolfacpaa.fnRunsOf
