/-
  The walk of FnDeskNew: for every code: a new desk is a desk, has the walk, and none of before; of a text that is no walk there is none. No condition beyond what the given statement itself bears.
-/
import Derived.Test.YtaafaangfocbcaaDrawWalks
import Derived.Test.YtaafaangfocbcaaAlive
import Derived.Test.YtaafaangfocbcaaDeskNew
import Derived.Test.YtaafaangfocbcaaDeskAt
import Derived.Test.YtaafaangfocbcaaOpenCode
namespace Go.Proofs.Ytaafaangfocbcaa.fnDeskNew
open Go.ChangeShapes Go.WideShapes Go.ChangeAt Go.RowKit Go.WideMaps Go.WideElems
open Go.ChangeMaps (open_string shut_string)

theorem implNew_is (s : ByteArray) (w : World) (hs : s.size ≤ 1048576) (x : ByteArray) (b : Bool) (hx : deskNew s = x) (hb : Tw.walkOk s.data.toList = b) :
    Calls Try.prog 6 #[.string s] w fun e w' => e = .returned (.tuple #[.agg #[.string x, .slice none 0 0], .bool b]) ∧ Below w.heap.size w w' := hx ▸ hb ▸ implDeskNew s w hs
theorem specNew_is (s : ByteArray) (w : World) (hs : s.size ≤ 1048576) (x : ByteArray) (b : Bool) (hx : deskNew s = x) (hb : Tw.walkOk s.data.toList = b) :
    Calls Try.prog 7 #[.string s] w fun e w' => e = .returned (.tuple #[.agg #[.string x, .slice none 0 0], .bool b]) ∧ Below w.heap.size w w' := hx ▸ hb ▸ specDeskNew s w hs

theorem deskOk_is (s : ByteArray) (w : World) (hs : s.size ≤ 1048576) (b : Bool) (h : deskOk s [] = b) :
    Calls Try.prog 12 #[.agg #[.string s, .slice none 0 0]] w fun e w' => e = .returned (.bool b) ∧ Below w.heap.size w w' := h ▸ implDeskOk s _ [] w (.inl ⟨rfl, rfl⟩) hs (by simp) (by simp)

set_option maxHeartbeats 400000 in
theorem sameTexts_nil (w : World) :
    Calls Try.prog 18 #[.slice none 0 0, .slice none 0 0] w fun e w' => e = .returned (.bool true) ∧ w = w' := by
  go_enter Try.func18, Try.ntmps18
  go_wp2
  refine wp_loop_rounds 1 ?_
  rw [rounds_succ]
  go_wp2
  go_ret
  exact ⟨rfl, rfl⟩
set_option maxHeartbeats 400000 in
theorem sameDesk_nil (s : ByteArray) (w : World) :
    Calls Try.prog 8 #[.agg #[.string s, .slice none 0 0], .agg #[.string s, .slice none 0 0]] w fun e w' => e = .returned (.bool true) ∧ Below w.heap.size w w' := by
  go_enter Try.func8, Try.ntmps8
  go_wp2_with (first | (go_at_call 18; refine (sameTexts_nil _).mono ?_; rintro e w' ⟨rfl, rfl⟩))
  go_ret
  exact ⟨rfl, ((Below.refl _ _).alloc (Nat.le_refl _) _).alloc (by simp) _⟩
set_option maxHeartbeats 400000 in
theorem noDesk_nil (w : World) :
    Calls Try.prog 9 #[.agg #[.string ByteArray.empty, .slice none 0 0]] w fun e w' => e = .returned (.bool true) ∧ Below w.heap.size w w' := by
  go_enter Try.func9, Try.ntmps9
  go_wp2_with (first | (go_at_call 8; refine (sameDesk_nil _ _).mono ?_; rintro e w1 ⟨rfl, hb1⟩))
  go_ret
  exact ⟨rfl, ((Below.refl _ _).alloc (Nat.le_refl _) _).trans (hb1.mono (by simp))⟩

set_option maxHeartbeats 3200000 in
theorem walk (v : Value) (n : Nat) (w : World) (h : CodeAt w v n) :
    Calls Try.prog 3 #[v] w fun e w' => e = .returned (.bool true) ∧ Below w.heap.size w w' := by
  have hdraw := drawDeskNew v n w h
  have hv : ∃ a cap, v = .slice a n cap := by
    rcases h with ⟨rfl, rfl⟩ | ⟨a, cap, rfl, _⟩
    · exact ⟨_, _, rfl⟩
    · exact ⟨_, _, rfl⟩
  obtain ⟨a, cap, rfl⟩ := hv
  have HD := Lib.hid hdraw
  clear hdraw h
  by_cases hn : n ≤ 1048576
  · go_enter Try.func3, Try.ntmps3
    go_wp2_with (go_at_call 5; refine HD.out.mono ?_; rintro e w1 ⟨s, rfl, hs, hb1⟩)
    have hs1 : s.size ≤ 1048576 := by omega
    cases hok : Tw.walkOk s.data.toList
    · have hx : deskNew s = ByteArray.empty := by unfold deskNew; rw [hok]; rfl
      have HX := Lib.hid hx
      have HOK := Lib.hid hok
      clear hx hok
      go_wp2_with (first
        | (go_at_call 6; refine (implNew_is s _ hs1 _ _ HX.out HOK.out).mono ?_; rintro e w2 ⟨rfl, hb2'⟩; have hb2 := hb1.trans (hb2'.mono hb1.size))
        | (go_at_call 7; refine (specNew_is s _ hs1 _ _ HX.out HOK.out).mono ?_; rintro e w3 ⟨rfl, hb3'⟩; have hb3 := (hb2.alloc hb2.size _).trans (hb3'.mono (hb2.alloc hb2.size _).size); have k0 := (DeskAt.new w2 ByteArray.empty).below hb3'; have k1 := k0.alloc (.cells #[.string ByteArray.empty, .slice none 0 0] 26); obtain ⟨c0, c1⟩ := k1.cells; obtain ⟨d0, d1⟩ := (DeskAt.new w3 ByteArray.empty).cells)
        | (go_at_call 8; refine (sameDesk_nil ByteArray.empty _).mono ?_; rintro e w4 ⟨rfl, hb4'⟩; have hb4 := (hb3.alloc hb3.size _).trans (hb4'.mono (hb3.alloc hb3.size _).size); have k2 := k1.below hb4'; obtain ⟨e0, e1⟩ := k2.cells)
        | (go_at_call 9; refine (noDesk_nil _).mono ?_; rintro e w5 ⟨rfl, hb5'⟩; have hb5 := hb4.trans (hb5'.mono hb4.size))
        | (go_at_call 10; refine (implWalkOk_is s _ hs1 false HOK.out).mono ?_; rintro e w' ⟨rfl, rfl⟩)
        | (go_at_call 11; refine (alive_yes _).mono ?_; rintro e w' ⟨rfl, rfl⟩))
      go_ret
      exact ⟨rfl, hb5⟩
    · have hx : deskNew s = s := by unfold deskNew; rw [hok]; rfl
      have hdk : deskOk s [] = true := by unfold deskOk; simp [hok, walksOk]
      have HDK := Lib.hid hdk
      clear hdk
      have HX := Lib.hid hx
      have HOK := Lib.hid hok
      clear hx hok
      go_wp2_with (first
        | (go_at_call 6; refine (implNew_is s _ hs1 _ _ HX.out HOK.out).mono ?_; rintro e w2 ⟨rfl, hb2'⟩; have hb2 := hb1.trans (hb2'.mono hb1.size))
        | (go_at_call 7; refine (specNew_is s _ hs1 _ _ HX.out HOK.out).mono ?_; rintro e w3 ⟨rfl, hb3'⟩; have hb3 := (hb2.alloc hb2.size _).trans (hb3'.mono (hb2.alloc hb2.size _).size); have k0 := (DeskAt.new w2 s).below hb3'; have k1 := k0.alloc (.cells #[.string s, .slice none 0 0] 26); obtain ⟨c0, c1⟩ := k1.cells; obtain ⟨d0, d1⟩ := (DeskAt.new w3 s).cells)
        | (go_at_call 8; refine (sameDesk_nil s _).mono ?_; rintro e w4 ⟨rfl, hb4'⟩; have hb4 := (hb3.alloc hb3.size _).trans (hb4'.mono (hb3.alloc hb3.size _).size); have k2 := k1.below hb4'; obtain ⟨e0, e1⟩ := k2.cells)
        | (go_at_call 12; refine (deskOk_is s _ hs1 true HDK.out).mono ?_; rintro e w5 ⟨rfl, hb5'⟩; have hb5 := hb4.trans (hb5'.mono hb4.size); have k3 := k2.below hb5'; obtain ⟨f0, f1⟩ := k3.cells)
        | (go_at_call 11; refine (alive_yes _).mono ?_; rintro e w' ⟨rfl, rfl⟩))
      go_ret
      exact ⟨rfl, hb5⟩
  · have hn' : 1048576 < n := by omega
    go_enter Try.func3, Try.ntmps3
    go_wp2_with fail
    go_ret
    exact ⟨rfl, Below.refl _ _⟩

end Go.Proofs.Ytaafaangfocbcaa.fnDeskNew
