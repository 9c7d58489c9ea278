/-
  Contracts of FirstOf (both).
-/
import Derived.Test.YtccdfndnjjjgfaaGreatDoorFirst
namespace Go.Proofs.YtccdfndnjjjgfaaGreatDoor
open Go.RowKit

theorem best_cons {b l : List UInt8} {C : List (List UInt8)} (h : Tw.Best b (l :: C)) : Tw.minL b l = b := by
  have h1 := Tw.best_unique (Tw.best_min (c := l) h) h (fun x => ⟨fun hx => (List.mem_append.1 hx).elim id (fun hx => by rw [List.mem_singleton.1 hx]; exact List.mem_cons_self ..), fun hx => List.mem_append.2 (.inl hx)⟩)
  exact h1

set_option maxRecDepth 100000 in
set_option maxHeartbeats 3200000 in
theorem implFirstOf_yes (s : ByteArray) (w : World) (hs : s.size ≤ 1048576) (hw : WaysAt w) (hd : DirsAt w) (hcl : Tw.closed s.data.toList = true) :
    Calls Tryz.prog 120 #[.string s] w fun e w' => e = .returned (.tuple #[.string (Tw.str (Tw.firstOf s.data.toList)), .bool true]) ∧ Below w.heap.size w w' := by
  have hmf : ∀ (fn : Fn) (first cap : Array Value) (w : World), (Instr.makeFunc fn first cap).run Tryz.prog w = .ok (.func fn first cap) w := fun _ _ _ _ => rfl
  obtain ⟨l, hl⟩ : ∃ l, s.data.toList = l := ⟨_, rfl⟩
  have hsl : s = Tw.str l := by rw [← hl, Tw.str_of]
  have hlen : l.length = s.size := by rw [← hl, size_data]
  have hc := implClosedOk s w hs hd
  rw [hcl] at hc
  rw [hl] at hcl ⊢
  have HC := Lib.hid hc
  have HSL := Lib.hid hsl
  have HCL := Lib.hid hcl
  have HLEN := Lib.hid hlen
  have HOK := Lib.hid (Tw.closed_ok hcl)
  have HBC := Lib.hid (Tw.closed_back hcl)
  have HBO := Lib.hid (Tw.closed_ok (Tw.closed_back hcl))
  have h40 : s.size ≤ 40 := by rw [← hlen]; exact Tw.walkOk_len (Tw.closed_ok hcl)
  clear hc hl hsl hcl hlen
  go_enter Tryz.func120, Tryz.ntmps120
  go_wp2_with (first
    | (go_at_call 123; refine HC.out.mono ?_; rintro e w1 ⟨rfl, hb1⟩)
    | (go_at_call 144; refine (firstKept_any _ _).mono ?_; rintro e w2 ⟨rfl, rfl⟩)
    | (go_at_call 145; refine (implBack_at HOK.out _ HSL.out _).mono ?_; rintro e w3 ⟨rfl, hb3⟩))
  obtain ⟨g, hg⟩ : ∃ g, w1.heap.size = g := ⟨_, rfl⟩
  have hs1 := hb1.size
  have hk3 : KeptAt w3 g l := by
    refine KeptAt.below (B := w1.heap.size + 1) ?_ (hb3.mono (by simp)) (by omega)
    rw [← hg]
    unfold KeptAt
    rw [← HSL.out]
    exact heap_alloc_new w1 _
  have hb03 : Below w.heap.size w w3 := (hb1.alloc hs1 _).trans (hb3.mono (by simp; omega))
  have hwg : w.heap.size ≤ g := by omega
  rw [hg]
  clear hb1 hb3 hg hs1
  go_loopw [6, 7, 8, 9, 17, 27, 28] (fun _ _ _ _ i _ _ wr => ∃ way : Nat, way ≤ 8 ∧ i = .int .i64 way ∧ Below w.heap.size w wr ∧ ∃ b, Hid (KeptAt wr g b ∧ Tw.Best b (l :: Tw.vis1 l way 0))) (fun _ _ _ _ i _ _ _ => 8 - (intOf i).toNat)
  case atStart => exact ⟨0, Nat.zero_le _, rfl, hb03, l, hk3, by rw [show Tw.vis1 l 0 0 = [] from rfl]; exact Tw.best_one l⟩
  case round =>
    obtain ⟨way, hway, rfl, hb, bst, HB⟩ := hrel
    by_cases hlt : way < 8
    · have hsr := hb.size
      go_wp2_with (first
        | (go_at_call 118; first | (have hq := hb4.size; refine (implWay_at HBO.out hlt _ rfl _ (hw.below' hb4)).mono ?_; rintro e w5 ⟨rfl, hb5⟩) | (refine (implWay_at HOK.out hlt _ HSL.out _ (hw.below' hb)).mono ?_; rintro e w4 ⟨rfl, hb4'⟩; have hb4 := hb.trans (hb4'.mono hsr)))
        )
      have hb45 := hb4.trans (hb5.mono hb4.size)
      have hx := Lib.hid (Tw.closed_way (way : Int) (by omega) (by omega) HCL.out)
      have hy := Lib.hid (Tw.closed_way (way : Int) (by omega) (by omega) HBC.out)
      have hxl : (Tw.wayList way l).length = s.size := by rw [Tw.length_way, HLEN.out]
      have hyl : (Tw.wayList way (Tw.backList l)).length = s.size := by rw [Tw.length_way, Tw.length_back, HLEN.out]
      have hk4 := HB.out.1.below hb4' HB.out.1.lt
      have hk5 : KeptAt w5 g bst := hk4.below hb5 hk4.lt
      have hbe := Lib.hid HB.out.2
      clear HB hb hb4 hb5 hsr hb4' hk4
      obtain ⟨wo, hwo⟩ : ∃ wo : World, wo = w5 := ⟨_, rfl⟩
      subst hwo
      go_loopw [9, 28] (fun _ i wr => ∃ k : Nat, k ≤ s.size ∧ i = .int .i64 k ∧ Below w.heap.size w wr ∧ ∃ b, Hid (KeptAt wr g b ∧ Tw.Best b (l :: Tw.vis1 l way k))) (fun _ i _ => s.size - (intOf i).toNat)
      case atStart => exact ⟨0, Nat.zero_le _, rfl, hb45, bst, hk5, hbe.out⟩
      case round =>
        obtain ⟨k, hk, rfl, hb, b, HB⟩ := hrel
        by_cases hlk : k < s.size
        · have hs0 := hb.size
          have hgr := HB.out.1.lt
          have HBK := Lib.hid HB.out.1
          go_wp2_with (first
            | (go_at_call 119; first | (have hq := hb9; refine (implMoved_at hy.out (by rw [hyl]; exact hlk) _ rfl _ (hd.below' hb9)).mono ?_; rintro e w10 ⟨rfl, hb10'⟩; have hb10 := hb9.trans (hb10'.mono hb9.size)) | (refine (implMoved_at hx.out (by rw [hxl]; exact hlk) _ rfl _ (hd.below' hb)).mono ?_; rintro e w8 ⟨rfl, hb8⟩))
            | (go_at_call 167; first
                | (have hq := hb10; have hkk := hk9.below hb10' hk9.lt; refine (keptFirst_any g _ _ _ hkk).mono ?_; rintro e w11 ⟨rfl, rfl⟩; have hb11 := hb10.setCell (p := ⟨g, 0, none⟩) hwg (.string (Tw.str (Tw.minL (Tw.minL b (Tw.moved (Tw.wayList way l) k)) (Tw.moved (Tw.wayList way (Tw.backList l)) k)))); have hk11 := hkk.set (Tw.minL (Tw.minL b (Tw.moved (Tw.wayList way l) k)) (Tw.moved (Tw.wayList way (Tw.backList l)) k)))
                | (have hk8 := HBK.out.below hb8 hgr; refine (keptFirst_any g b _ _ hk8).mono ?_; rintro e w9 ⟨rfl, rfl⟩; have hb9 := (hb.trans (hb8.mono hs0)).setCell (p := ⟨g, 0, none⟩) hwg (.string (Tw.str (Tw.minL b (Tw.moved (Tw.wayList way l) k)))); have hk9 := hk8.set (Tw.minL b (Tw.moved (Tw.wayList way l) k)))))
          go_roundw
          case rel =>
            refine ⟨k + 1, by omega, by go_num, hb11, _, hk11, ?_⟩
            rw [Tw.vis1_succ, Tw.moved_way, Tw.moved_way]
            exact Tw.best_min (Tw.best_min HB.out.2)
          case measure => simp [intOf]; omega
        · obtain rfl : k = s.size := by omega
          go_wp2_with fail
          go_roundw
          case rel =>
            refine ⟨way + 1, by omega, by go_num, hb, b, HB.out.1, ?_⟩
            have hv := HB.out.2
            rw [← HLEN.out, Tw.vis1_next] at hv
            exact hv
          case measure => simp [intOf]; omega
    · obtain rfl : way = 8 := by omega
      have HBK := Lib.hid HB.out.1
      go_wp2_with (first
        | (go_at_call 167; rw [HSL.out]; refine (keptFirst_any g bst l _ HBK.out).mono ?_; rintro e w5 ⟨rfl, rfl⟩))
      go_ret2
      refine ⟨pair_ret ?_ rfl, hb.setCell (p := ⟨g, 0, none⟩) hwg _⟩
      rw [best_cons HB.out.2, Tw.first_of_vis1 HB.out.2]

set_option maxHeartbeats 400000 in
theorem implFirstOf (s : ByteArray) (w : World) (hs : s.size ≤ 1048576) (hw : WaysAt w) (hd : DirsAt w) :
    Calls Tryz.prog 120 #[.string s] w fun e w' => e = .returned (.tuple #[.string (Tw.str (firstRes s.data.toList)), .bool (Tw.closed s.data.toList)]) ∧ Below w.heap.size w w' := by
  cases hcl : Tw.closed s.data.toList
  · have hc := implClosedOk s w hs hd
    rw [hcl] at hc
    have HC := Lib.hid hc
    have HCL := Lib.hid hcl
    clear hc hcl
    go_enter Tryz.func120, Tryz.ntmps120
    go_wp2_with (first | (go_at_call 123; refine HC.out.mono ?_; rintro e w1 ⟨rfl, hb1⟩))
    go_ret2
    exact ⟨pair_ret (by rw [firstRes_no HCL.out]; rfl) rfl, hb1⟩
  · rw [firstRes_yes hcl]
    exact implFirstOf_yes s w hs hw hd hcl

end Go.Proofs.YtccdfndnjjjgfaaGreatDoor
