/-
  The draw of a walk that has grown: a short text, and nothing that was there has turned but the reader.
-/
import Derived.Test.YtccdfndnjjjgfaaGreatDoorBase
import Derived.Test.YtccdfndnjjjgfaaGreatDoorSteps
import Derived.BigQuiet
import Derived.Deep.QuietTactic
import Derived.Laws.BitsAllLaws
import Derived.IntWalk
import Derived.Test.YtccdfndnjjjgfaaGreatDoorLFnDeskSayC
import Derived.Test.YtccdfndnjjjgfaaGreatDoorWaysImpl
import Derived.Test.YtccdfndnjjjgfaaGreatDoorAvoidPure
import Derived.Test.YtccdfndnjjjgfaaGreatDoorArea
import Derived.Test.YtccdfndnjjjgfaaGreatDoorPlacesOf
import Derived.Maps.OwnOps
import Derived.WideKeyEntry
import Derived.Maps.RangeWalk
import Derived.Deep.RegionHeld3
import Derived.Test.YtccdfndnjjjgfaaGreatDoorClosed
import Derived.Test.YtccdfndnjjjgfaaGreatDoorShapeLaw
import Derived.Maps.OwnSet
import Derived.Test.YtccdfndnjjjgfaaGreatDoorEnd
import Derived.StringKeys
import Derived.Shelf.Abstract
import Derived.Test.YtccdfndnjjjgfaaGreatDoorTurning
import Derived.Test.YtccdfndnjjjgfaaGreatDoorPlacesSpec

namespace Go.Proofs.YtccdfndnjjjgfaaGreatDoor
open Go.RowKit

theorem xor_nat (a b : Nat) (ha : a < 9223372036854775808) (hb : b < 9223372036854775808) : 0 ≤ bits .xor .i64 (a : Int) (b : Int) := by
  have hx : a ^^^ b < 2 ^ 63 := Nat.xor_lt_two_pow (by omega) (by omega)
  show 0 ≤ IntKind.i64.wrap ((BitVec.ofInt 64 (a : Int) ^^^ BitVec.ofInt 64 (b : Int)).toNat : Int)
  rw [BitVec.toNat_xor, ofInt_u64 a (by omega), ofInt_u64 b (by omega)]
  simp [IntKind.wrap, IntKind.bits, IntKind.signed]
  omega
theorem xor_pos (x y : Int) (h0 : 0 ≤ x) (h1 : x < 9223372036854775808) (k0 : 0 ≤ y) (k1 : y < 9223372036854775808) : 0 ≤ bits .xor .i64 x y := by
  obtain ⟨a, rfl⟩ := Int.eq_ofNat_of_zero_le h0
  obtain ⟨b, rfl⟩ := Int.eq_ofNat_of_zero_le k0
  exact xor_nat a b (by omega) (by omega)

/-- The bytes of a code, as they lie. -/
def CodeAt (w : World) (v : Value) (n : Nat) : Prop :=
  (v = .slice none 0 0 ∧ n = 0) ∨ ∃ a cap, v = .slice (some a) n cap ∧ n ≤ cap ∧ ∀ j : Nat, j < n → ∃ b : Int, 0 ≤ b ∧ b ≤ 255 ∧ w.cell? (a.add j) = some (.int .u8 b)
/-- A reader: its code, and how much of it has been read. -/
structure ReaderAt (w : World) (R : Nat) (v : Value) (n : Nat) (p : Nat) : Prop where
  cells : w.heap[R]? = some (.cells #[v, .int .i64 p] 105 (0, 0))
  code : CodeAt w v n
  few : n ≤ 2000
  off : ∀ a cap, v = .slice (some a) n cap → 0 < n → a.block ≠ R
theorem code_grown {w w' : World} {R n : Nat} {v : Value} (h : CodeAt w v n) (hoff : ∀ a cap, v = .slice (some a) n cap → 0 < n → a.block ≠ R) (hg : w.grownBy w' (some R)) : CodeAt w' v n := by
  rcases h with h | ⟨a, cap, hv, hl, hc⟩
  · exact .inl h
  · refine .inr ⟨a, cap, hv, hl, fun j hj => ?_⟩
    obtain ⟨b, h0, h1, h2⟩ := hc j hj
    refine ⟨b, h0, h1, ?_⟩
    have hlt := World.block_lt_of_cell? w _ h2
    have hne := hoff a cap hv (by omega)
    rw [hg.cell_far (a.add j) hlt (by rw [show (a.add j).block = a.block by unfold Addr.add; split <;> rfl]; exact fun e => hne (Option.some.inj e))]
    exact h2
theorem tmod_range (x y : Int) (h0 : 0 ≤ x) (hy : 0 < y) : 0 ≤ x.tmod y ∧ x.tmod y < y := by
  rw [Int.tmod_eq_emod_of_nonneg h0]
  exact ⟨Int.emod_nonneg _ (by omega), Int.emod_lt_of_pos _ hy⟩

/-- The world behind one reading. -/
def readWorld (w : World) (R p : Nat) : World := w.setCell ⟨R, 1, none⟩ (.int .i64 ((p : Int) + 1))
theorem read_grown (w : World) (R p nq : Nat) : w.grownBy ((readWorld w R p).drewN nq) (some R) :=
  ⟨rfl, rfl, rfl, by simp [readWorld], fun k _ hk => heap_setCell_other w ⟨R, 1, none⟩ k _ (fun e => hk (by simp [e]))⟩
theorem read_reader {w : World} {R n p : Nat} {v : Value} (h : ReaderAt w R v n p) (nq : Nat) : ReaderAt ((readWorld w R p).drewN nq) R v n (p + 1) := by
  refine ⟨?_, code_grown h.code h.off (read_grown w R p nq), h.few, h.off⟩
  show (w.setCell ⟨R, 1, none⟩ (.int .i64 ((p : Int) + 1))).heap[R]? = _
  simp [World.setCell, Array.getElem?_modify, h.cells]

set_option maxRecDepth 100000 in
set_option maxHeartbeats 3200000 in
theorem pick_any (R n p : Nat) (v : Value) (N : Int) (w : World) (h : ReaderAt w R v n p) (hp : p ≤ 1000000) (hN : 1 ≤ N) (hN2 : N ≤ 1000000) :
    Calls Tryz.prog 68 #[.pointer (some ⟨R, 0, none⟩), .int .i64 N] w fun e w' => ∃ x : Int, (e = .returned (.int .i64 x) ∧ 0 ≤ x ∧ x < N) ∧ ReaderAt w' R v n (p + 1) ∧ w.grownBy w' (some R) := by
  have hr := fun nq => read_reader h nq
  have hgr := fun nq => read_grown w R p nq
  have hfew := h.few
  have c0 : w.cell? ⟨R, 0, none⟩ = some v := cell_of_row _ _ _ _ _ _ h.cells
  have c1 : w.cell? ⟨R, 1, none⟩ = some (.int .i64 p) := cell_of_row _ _ _ _ _ _ h.cells
  have f1 : w.frozen? ⟨R, 1, none⟩ = false := frozen_of_row _ _ 1 _ _ h.cells
  have d0 : (w.setCell ⟨R, 1, none⟩ (.int .i64 ((p : Int) + 1))).cell? ⟨R, 0, none⟩ = some v := cell_of_row _ _ _ _ _ _ (hr 0).cells
  have d1 : (w.setCell ⟨R, 1, none⟩ (.int .i64 ((p : Int) + 1))).cell? ⟨R, 1, none⟩ = some (.int .i64 ((p : Int) + 1)) := cell_of_row _ _ _ _ _ _ (hr 0).cells
  have hcode : CodeAt (w.setCell ⟨R, 1, none⟩ (.int .i64 ((p : Int) + 1))) v n := (hr 0).code
  have HR := Lib.hid hr
  have HG := Lib.hid hgr
  clear hr hgr h
  rcases hcode with ⟨rfl, rfl⟩ | ⟨a, cap, rfl, hl, hc⟩
  · go_enter Tryz.func68, Tryz.ntmps68
    go_wp2
    go_ret
    exact ⟨0, ⟨rfl, Int.le_refl _, by omega⟩, HR.out 0, HG.out 0⟩
  · have HC := Lib.hid hc
    clear hc
    by_cases hn : n = 0
    · subst hn
      go_enter Tryz.func68, Tryz.ntmps68
      go_wp2
      go_ret
      exact ⟨0, ⟨rfl, Int.le_refl _, by omega⟩, HR.out 0, HG.out 0⟩
    · have hn' : ((n : Int) == 0) = false := by simpa using hn
      by_cases hk : p < n
      · obtain ⟨b, hb0, hb1, hb2⟩ := HC.out p hk
        have k0 : (0 : Int) ≤ (p : Int) := by omega
        have k1 : (p : Int) < (n : Int) := by omega
        have hm : 0 ≤ b % N ∧ b % N < N := ⟨Int.emod_nonneg _ (by omega), Int.emod_lt_of_pos _ (by omega)⟩
        go_enter Tryz.func68, Tryz.ntmps68
        go_wp2
        go_ret
        exact ⟨_, ⟨rfl, hm.1, hm.2⟩, HR.out 0, HG.out 0⟩
      · have hn0 : (0 : Int) < (n : Int) := by omega
        have r1 := tmod_range (p : Int) (n : Int) (by omega) hn0
        have r2 := tmod_range ((p : Int) * 7 + 3) (n : Int) (by omega) hn0
        obtain ⟨b1, b10, b11, b12⟩ := HC.out ((p : Int).tmod n).toNat (by omega)
        obtain ⟨b2, b20, b21, b22⟩ := HC.out (((p : Int) * 7 + 3).tmod n).toNat (by omega)
        have q0 : 0 ≤ (p : Int) / (n : Int) ∧ (p : Int) / (n : Int) ≤ p := ⟨Int.ediv_nonneg (by omega) (by omega), Int.ediv_le_self _ (by omega)⟩
        have w1 : IntKind.i64.wrap ((p : Int) * 7) = (p : Int) * 7 := IntWalk.i64_in _ ⟨by omega, by omega⟩
        have w2 : IntKind.i64.wrap ((p : Int) * 7 + 3) = (p : Int) * 7 + 3 := IntWalk.i64_in _ ⟨by omega, by omega⟩
        have w6 : IntKind.i64.wrap ((p : Int) * 29) = (p : Int) * 29 := IntWalk.i64_in _ ⟨by omega, by omega⟩
        have hx : ∃ x, IntKind.i64.wrap (IntKind.i64.wrap (IntKind.i64.wrap (IntKind.i64.wrap (IntKind.i64.wrap b1 * 131) + IntKind.i64.wrap (IntKind.i64.wrap b2 * 1117)) + (p : Int) * 29) + IntKind.i64.wrap (IntKind.i64.wrap ((p : Int) / (n : Int)) * 53)) = x ∧ 0 ≤ x ∧ x ≤ 1000000000 := by
          obtain ⟨d, hd⟩ : ∃ d, (p : Int) / (n : Int) = d := ⟨_, rfl⟩
          rw [hd] at q0 ⊢
          rw [IntWalk.i64_in b1 ⟨by omega, by omega⟩, IntWalk.i64_in b2 ⟨by omega, by omega⟩, IntWalk.i64_in d ⟨by omega, by omega⟩, IntWalk.i64_in (b1 * 131) ⟨by omega, by omega⟩, IntWalk.i64_in (b2 * 1117) ⟨by omega, by omega⟩, IntWalk.i64_in (d * 53) ⟨by omega, by omega⟩,
            IntWalk.i64_in (b1 * 131 + b2 * 1117) ⟨by omega, by omega⟩, IntWalk.i64_in (b1 * 131 + b2 * 1117 + (p : Int) * 29) ⟨by omega, by omega⟩, IntWalk.i64_in (b1 * 131 + b2 * 1117 + (p : Int) * 29 + d * 53) ⟨by omega, by omega⟩]
          exact ⟨_, rfl, by omega, by omega⟩
        obtain ⟨x, hx, hx0, hx1⟩ := hx
        have HX := Lib.hid hx
        clear hx
        have hz := xor_pos x (x / 64) hx0 (by omega) (by omega) (by omega)
        obtain ⟨z, hz1⟩ : ∃ z, z = bits .xor .i64 x (x / 64) := ⟨_, rfl⟩
        rw [← hz1] at hz
        have hm : 0 ≤ z % N ∧ z % N < N := ⟨Int.emod_nonneg _ (by omega), Int.emod_lt_of_pos _ (by omega)⟩
        have HZ := Lib.hid hz1.symm
        clear hz1
        go_enter Tryz.func68, Tryz.ntmps68
        go_wp2_with fail
        go_quiet (fail)
        rw [HX.out]
        clear w1 w2 w6
        have HZ' := HZ.out
        go_wp2
        go_ret
        exact ⟨_, ⟨rfl, hm.1, hm.2⟩, HR.out _, HG.out _⟩

set_option maxHeartbeats 800000 in
theorem odd_any (R n p : Nat) (v : Value) (N : Int) (w : World) (h : ReaderAt w R v n p) (hp : p ≤ 1000000) (hN : 0 ≤ N) (hN2 : N ≤ 1000000) :
    Calls Tryz.prog 69 #[.pointer (some ⟨R, 0, none⟩), .int .i64 N] w fun e w' => ∃ (b : Bool) (p' : Nat), e = .returned (.bool b) ∧ p' ≤ p + 1 ∧ ReaderAt w' R v n p' ∧ w.grownBy w' (some R) := by
  by_cases h0 : N = 0
  · subst h0
    go_enter Tryz.func69, Tryz.ntmps69
    go_wp2
    go_ret
    exact ⟨_, p, rfl, by omega, h, ⟨rfl, rfl, rfl, Nat.le_refl _, fun _ _ _ => rfl⟩⟩
  · have h1 : 1 ≤ N := by omega
    go_enter Tryz.func69, Tryz.ntmps69
    go_wp2_with (first | (go_at_call 68; refine (pick_any R n p v N _ h hp h1 hN2).mono ?_; rintro e w1 ⟨x, ⟨rfl, hx0, hx1⟩, hr1, hg1⟩))
    go_ret
    exact ⟨_, p + 1, rfl, Nat.le_refl _, hr1, hg1⟩

set_option maxHeartbeats 800000 in
theorem open_any (v : Value) (n : Nat) (w : World) (h : CodeAt w v n) :
    Calls Tryz.prog 41 #[v] w fun e w' => e = .returned (.pointer (some ⟨w.heap.size, 0, none⟩)) ∧ (∃ v' n', ReaderAt w' w.heap.size v' n' 0) ∧ Below w.heap.size w w' := by
  rcases h with ⟨rfl, rfl⟩ | ⟨a, cap, rfl, hl, hc⟩
  · go_enter Tryz.func41, Tryz.ntmps41
    go_wp2
    go_ret
    exact ⟨rfl, ⟨_, 0, ⟨heap_alloc_new w _, .inl ⟨rfl, rfl⟩, by omega, fun a cap e => by cases e⟩⟩, (Below.refl _ _).alloc (Nat.le_refl _) _⟩
  · have HC := Lib.hid hc
    clear hc
    have hkeep : ∀ (o : Obj) (m : Nat), m ≤ n → CodeAt (w.alloc o) (.slice (some a) m cap) m := fun o m hm => .inr ⟨a, cap, rfl, by omega, fun j hj => by
      obtain ⟨b, h0, h1, h2⟩ := HC.out j (by omega)
      exact ⟨b, h0, h1, (((Below.refl w.heap.size w).alloc (Nat.le_refl _) o).cell (p := a.add j) (World.block_lt_of_cell? w _ h2)).trans h2⟩⟩
    have hoff : 0 < n → a.block ≠ w.heap.size := fun hn e => by
      obtain ⟨b, _, _, h2⟩ := HC.out 0 hn
      have := World.block_lt_of_cell? w _ h2
      rw [show (a.add 0).block = a.block from rfl] at this
      omega
    have HK := Lib.hid hkeep
    have HO := Lib.hid hoff
    clear hkeep hoff
    by_cases h2 : n ≤ 2000
    · go_enter Tryz.func41, Tryz.ntmps41
      go_wp2
      go_ret
      refine ⟨rfl, ⟨_, n, ⟨heap_alloc_new w _, HK.out _ n (Nat.le_refl _), h2, fun a' cap' e hn => ?_⟩⟩, (Below.refl _ _).alloc (Nat.le_refl _) _⟩
      cases e
      exact HO.out hn
    · have h3 : (2000 : Int) < (n : Int) := by omega
      have h4 : (2000 : Int) ≤ (cap : Int) := by omega
      go_enter Tryz.func41, Tryz.ntmps41
      go_wp2
      go_ret
      refine ⟨rfl, ⟨_, 2000, ⟨heap_alloc_new w _, HK.out _ 2000 (by omega), by omega, fun a' cap' e hn => ?_⟩⟩, (Below.refl _ _).alloc (Nat.le_refl _) _⟩
      cases e
      exact HO.out (by omega)

end Go.Proofs.YtccdfndnjjjgfaaGreatDoor

namespace Go.Proofs.YtccdfndnjjjgfaaGreatDoor
open Go.RowKit

theorem implAvoidsOk_is (s : ByteArray) (w : World) (hs : s.size ≤ 1048576) (hw : DirsAt w) (b : Bool) (h : Tw.avoids s.data.toList = b) :
    Calls Tryz.prog 125 #[.string s] w fun e w' => e = .returned (.bool b) ∧ Below w.heap.size w w' := h ▸ implAvoidsOk s w hs hw
theorem specAvoidsOk_is (s : ByteArray) (w : World) (hs : s.size ≤ 1048576) (b : Bool) (h : Tw.avoids s.data.toList = b) :
    Calls Tryz.prog 55 #[.string s] w fun e w' => e = .returned (.bool b) ∧ Below w.heap.size w w' := h ▸ specAvoidsOk s w hs

theorem implInWay_is (s : ByteArray) (way : Int) (w : World) (hs : s.size ≤ 1048576) (hw : WaysAt w) (x : ByteArray) (h : Tw.str (Tw.inWay s.data.toList way) = x) :
    Calls Tryz.prog 118 #[.string s, .int .i64 way] w fun e w' => e = .returned (.string x) ∧ Below w.heap.size w w' := h ▸ implInWay s way w hs hw
theorem inWay_len (l : List UInt8) (way : Int) : (Tw.inWay l way).length ≤ l.length := by
  unfold Tw.inWay
  split <;> simp
theorem ret_textB {a b : ByteArray} {x y : Bool} (h : a = b) (k : x = y) : Ending.returned (.tuple #[.string a, .bool x]) = .returned (.tuple #[.string b, .bool y]) := by rw [h, k]
theorem unfold_no {l : List UInt8} {p way : Int} (h : Tw.unfolds l p way = false) : Tw.unfolded l p way = [] ∧ Tw.unfoldedOk l p way = false := by simp [Tw.unfolded, Tw.unfoldedOk, h]
theorem unfold_yes {l : List UInt8} {p way : Int} (h : Tw.unfolds l p way = true) : Tw.unfolded l p way = (if Tw.avoids (Tw.unfoldAt l p.toNat way) then Tw.unfoldAt l p.toNat way else []) ∧ Tw.unfoldedOk l p way = Tw.avoids (Tw.unfoldAt l p.toNat way) := by simp [Tw.unfolded, Tw.unfoldedOk, h]
theorem unfold_str (s : ByteArray) (p : Nat) (way : Int) : s.extract 0 p ++ Tw.str (Tw.inWay (s.extract p s.size).data.toList way) = Tw.str (Tw.unfoldAt s.data.toList p way) := by
  rw [← Tw.str_of (s.extract 0 p), Tw.str_append, Lib.extract_data, Lib.extract_data, List.drop_zero, Nat.sub_zero, List.take_of_length_le (l := s.data.toList.drop p) (by simp)]
  rfl

/-- What the two share: the cases, and what is known in each. -/
structure UnfoldYes (s : ByteArray) (p : Nat) (way : Int) (x u : ByteArray) : Prop where
  part : (s.extract p s.size).size ≤ 1048576
  size : u.size ≤ 1048576
  sub : Tw.str (Tw.inWay (s.extract p s.size).data.toList way) = x
  few : x.size ≤ 40
  str : s.extract 0 p ++ x = u
  out : Tw.str (Tw.unfolded s.data.toList p way) = if Tw.avoids u.data.toList = true then u else Tw.str []
  ok : Tw.unfoldedOk s.data.toList p way = Tw.avoids u.data.toList
theorem unfold_case {s : ByteArray} {p : Nat} {way : Int} (hav : Tw.avoids s.data.toList = true) (hp : p ≤ s.size) (h0 : 0 ≤ way) (h7 : way ≤ 7) : ∃ x u, UnfoldYes s p way x u := by
  have h40 : s.size ≤ 40 := by have := Tw.walkOk_len (Tw.avoids_ok hav); rwa [size_data] at this
  have hy := unfold_yes (l := s.data.toList) (p := (p : Int)) (way := way) (by simp [Tw.unfolds, hav, h0, h7, hp])
  refine ⟨_, Tw.str (Tw.unfoldAt s.data.toList p way), by simp; omega, ?_, rfl, ?_, unfold_str s p way, ?_, ?_⟩
  · rw [Tw.str_size]
    have := inWay_len (s.data.toList.drop p) way
    unfold Tw.unfoldAt
    simp at this ⊢
    omega
  · rw [Tw.str_size]
    have := inWay_len (s.extract p s.size).data.toList way
    rw [size_data] at this
    have h2 : (s.extract p s.size).size ≤ s.size := by simp
    omega
  · rw [hy.1, Tw.str_data, Int.toNat_natCast]
    split <;> rfl
  · rw [hy.2, Tw.str_data, Int.toNat_natCast]



end Go.Proofs.YtccdfndnjjjgfaaGreatDoor

namespace Go.Proofs.YtccdfndnjjjgfaaGreatDoor
open Go.RowKit

theorem goes_no {l : List UInt8} (h : Tw.avoids l = false) : Tw.goesOn l = [] := by simp [Tw.goesOn, h]
theorem goes_full {l : List UInt8} (h : 40 ≤ l.length) : Tw.goesOn l = [] := by
  unfold Tw.goesOn
  rw [if_neg]
  simp
  omega
theorem goes_yes {l : List UInt8} (h : Tw.avoids l = true) (h40 : l.length < 40) : Tw.goesOn l = Tw.goesTo l 4 := by simp [Tw.goesOn, h, h40]
theorem snoc_data (s : ByteArray) (c : UInt8) : (s ++ (⟨#[c]⟩ : ByteArray)).data.toList = s.data.toList ++ [c] := by simp
theorem goes_len (l : List UInt8) : (Tw.goesOn l).length ≤ 4 := by
  unfold Tw.goesOn
  split
  · exact Tw.goesTo_len l 4
  · simp
theorem goesTo_yes {l : List UInt8} {k : Nat} {c : UInt8} (hc : Tw.order[k]? = some c) (h : Tw.avoids (l ++ [c]) = true) : Tw.str (Tw.goesTo l k) ++ (⟨#[c]⟩ : ByteArray) = Tw.str (Tw.goesTo l (k + 1)) := by
  obtain ⟨hk, e⟩ := List.getElem?_eq_some_iff.1 hc
  have hk4 : k < 4 := hk
  rw [Tw.goesTo_succ l k hk4]
  simp only [e, h, if_true]
  exact Tw.str_append _ [c]
theorem goesTo_not {l : List UInt8} {k : Nat} {c : UInt8} (hc : Tw.order[k]? = some c) (h : Tw.avoids (l ++ [c]) = false) : Tw.goesTo l (k + 1) = Tw.goesTo l k := by
  obtain ⟨hk, e⟩ := List.getElem?_eq_some_iff.1 hc
  have hk4 : k < 4 := hk
  rw [Tw.goesTo_succ l k hk4]
  simp [e, h]



theorem caught_eq (l : List UInt8) (b : Bool) (hb : (Tw.goesOn l).isEmpty = b) : Tw.caught l = (Tw.avoids l && decide (l.length < 40) && b) := by rw [← hb]; rfl


end Go.Proofs.YtccdfndnjjjgfaaGreatDoor

namespace Go.Proofs.YtccdfndnjjjgfaaGreatDoor
open Go.RowKit

/-- From w on a reader has been read at most k times more; nothing else that was there has turned. -/
def Drawn (w W : World) (R : Nat) (v : Value) (n p k : Nat) : Prop := ∃ p', p' ≤ p + k ∧ ReaderAt W R v n p' ∧ w.grownBy W (some R)
theorem grown_trans {a b c : World} {row : Option Nat} (h : a.grownBy b row) (k : b.grownBy c row) : a.grownBy c row := by
  obtain ⟨h1, h2, h3, h4, h5⟩ := h
  obtain ⟨k1, k2, k3, k4, k5⟩ := k
  exact ⟨k1.trans h1, k2.trans h2, k3.trans h3, Nat.le_trans h4 k4, fun i hi hr => (k5 i (Nat.lt_of_lt_of_le hi h4) hr).trans (h5 i hi hr)⟩
theorem ReaderAt.lt {w : World} {R n p : Nat} {v : Value} (h : ReaderAt w R v n p) : R < w.heap.size := (Array.getElem?_eq_some_iff.1 h.cells).1
theorem ReaderAt.below {w w' : World} {R n p : Nat} {v : Value} (h : ReaderAt w R v n p) (hb : Below w.heap.size w w') : ReaderAt w' R v n p :=
  ⟨(hb.block _ h.lt).trans h.cells, code_grown h.code h.off (grown_of_below hb _), h.few, h.off⟩
theorem Drawn.start {w : World} {R n p : Nat} {v : Value} (h : ReaderAt w R v n p) : Drawn w w R v n p 0 := ⟨p, by omega, h, ⟨rfl, rfl, rfl, Nat.le_refl _, fun _ _ _ => rfl⟩⟩
theorem Drawn.below {w W W' : World} {R n p k : Nat} {v : Value} (h : Drawn w W R v n p k) (hb : Below W.heap.size W W') : Drawn w W' R v n p k := by
  obtain ⟨p', hp, hr, hg⟩ := h
  exact ⟨p', hp, hr.below hb, grown_trans hg (grown_of_below hb _)⟩
theorem Drawn.alloc {w W : World} {R n p k : Nat} {v : Value} (h : Drawn w W R v n p k) (o : Obj) : Drawn w (W.alloc o) R v n p k := h.below ((Below.refl _ _).alloc (Nat.le_refl _) o)
theorem Drawn.mono {w W : World} {R n p k k' : Nat} {v : Value} (h : Drawn w W R v n p k) (hk : k ≤ k') : Drawn w W R v n p k' := by
  obtain ⟨p', hp, hr⟩ := h
  exact ⟨p', by omega, hr⟩
theorem Drawn.lt {w W : World} {R n p k : Nat} {v : Value} (h : Drawn w W R v n p k) : R < W.heap.size := by
  obtain ⟨p', hp, hr, _⟩ := h
  exact hr.lt
theorem pick_d {w W : World} {R n p k : Nat} {v : Value} {N : Int} (h : Drawn w W R v n p k) (hp : p + k ≤ 1000000) (h1 : 1 ≤ N) (h2 : N ≤ 1000000) :
    Calls Tryz.prog 68 #[.pointer (some ⟨R, 0, none⟩), .int .i64 N] W fun e w' => ∃ x : Int, e = .returned (.int .i64 x) ∧ 0 ≤ x ∧ x < N ∧ Drawn w w' R v n p (k + 1) ∧ W.grownBy w' (some R) := by
  obtain ⟨p', hp', hr, hg⟩ := h
  refine (pick_any R n p' v N W hr (by omega) h1 h2).mono ?_
  rintro e w' ⟨x, ⟨rfl, hx0, hx1⟩, hr', hg'⟩
  exact ⟨x, rfl, hx0, hx1, ⟨p' + 1, by omega, hr', grown_trans hg hg'⟩, hg'⟩
theorem odd_d {w W : World} {R n p k : Nat} {v : Value} {N : Int} (h : Drawn w W R v n p k) (hp : p + k ≤ 1000000) (h1 : 0 ≤ N) (h2 : N ≤ 1000000) :
    Calls Tryz.prog 69 #[.pointer (some ⟨R, 0, none⟩), .int .i64 N] W fun e w' => ∃ b : Bool, e = .returned (.bool b) ∧ Drawn w w' R v n p (k + 1) := by
  obtain ⟨p', hp', hr, hg⟩ := h
  refine (odd_any R n p' v N W hr (by omega) h1 h2).mono ?_
  rintro e w' ⟨b, p2, rfl, hp2, hr', hg'⟩
  exact ⟨b, rfl, p2, by omega, hr', grown_trans hg hg'⟩

/-- A cell of a literal row, read behind a draw. -/
theorem lit_cell {W w' : World} {R : Nat} {cs : Array Value} {t : TypeId} (hR : R < W.heap.size) (hg : (W.alloc (.cells cs t)).grownBy w' (some R)) (j : Nat) (u : Value) (hu : cs[j]? = some u) : w'.cell? ⟨W.heap.size, j, none⟩ = some u := by
  rw [hg.cell_far ⟨W.heap.size, j, none⟩ (by simp) (by simp; omega)]
  exact (cell_of_row _ _ _ _ _ _ (heap_alloc_new W _)).trans hu

theorem lit_size (a : Array UInt8) : (ByteArray.mk a).size = a.size := rfl
theorem zero_or (x : Int) : x = 0 ∨ (x == 0) = false := by
  rcases Decidable.em (x = 0) with h | h
  · exact .inl h
  · exact .inr (by simpa using h)


end Go.Proofs.YtccdfndnjjjgfaaGreatDoor

namespace Go.Proofs.YtccdfndnjjjgfaaGreatDoor
open Go.RowKit

set_option maxRecDepth 100000 in
set_option maxHeartbeats 6400000 in
theorem grown_d (w W : World) (R n p k : Nat) (v : Value) (h : Drawn w W R v n p k) (hp : p + k ≤ 100000) :
    Calls Tryz.prog 117 #[.pointer (some ⟨R, 0, none⟩)] W fun e w' => ∃ s : ByteArray, e = .returned (.string s) ∧ 4 ≤ s.size ∧ s.size ≤ 40 ∧ Drawn w w' R v n p (k + 24) := by
  go_enter Tryz.func117, Tryz.ntmps117
  go_wp2_with fail
  go_loopw [3, 4, 5, 6, 7, 8, 9, 10] (fun o i _ _ _ _ _ _ wr => ∃ (s : ByteArray) (j : Nat), o = .string s ∧ i = .int .i64 j ∧ 4 ≤ s.size ∧ s.size ≤ 40 ∧ j ≤ 12 ∧ Drawn w wr R v n p (k + 2 * j)) (fun _ i _ _ _ _ _ _ _ => 12 - (intOf i).toNat)
  case atStart => exact ⟨_, 0, rfl, rfl, by decide, by decide, by omega, h⟩
  case round =>
    obtain ⟨s, j, rfl, rfl, h4, h40, hj, hd⟩ := hrel
    by_cases hlt : j < 12
    · by_cases hroom : s.size + 2 ≤ 40
      · go_wp2_with (go_at_call 68; refine (pick_d hd (by omega) (by omega) (by omega)).mono ?_; rintro e w1 ⟨x, rfl, hx0, hx1, hd1, _⟩)
        obtain ⟨x, rfl⟩ := Int.eq_ofNat_of_zero_le hx0
        have hxs : x < s.size := by omega
        obtain ⟨L, hL⟩ : ∃ L, Tw.dir s[x] = L := ⟨_, rfl⟩
        have hr := Tw.dir_range s[x]
        rw [hL] at hr
        have hlook := look_any s[x] w1
        rw [hL] at hlook
        have HLK := Lib.hid hlook
        clear hL hlook
        go_wp2_with (first
          | (go_at_call 104; refine HLK.out.mono ?_; rintro e w' ⟨rfl, rfl⟩)
          | (go_at_call 68; refine (pick_d (hd1.alloc _) (by omega) (by omega) (by omega)).mono ?_; rintro e w2 ⟨y, rfl, hy0, hy1, hd2, hg2⟩; have hlit := lit_cell hd1.lt hg2; obtain rfl | rfl : y = 0 ∨ y = 1 := by omega
             all_goals (have l0 := hlit 0 _ rfl; have l1 := hlit 1 _ rfl)))
        · obtain ⟨o, ho⟩ : ∃ o, (L + 1) % 4 = o := ⟨_, rfl⟩
          have ho3 : 0 ≤ o ∧ o ≤ 3 := by omega
          rw [ho]
          obtain ⟨b, hb⟩ : ∃ b, (o + 2) % 4 = b := ⟨_, rfl⟩
          have hb3 : 0 ≤ b ∧ b ≤ 3 := by omega
          rw [hb]
          clear ho hb l0 l1
          have e1 : IntKind.i64.wrap ((x : Int) + 1) = (x : Int) + 1 := IntWalk.i64_in _ (by omega)
          have e2 : IntKind.i64.wrap (o + 1) = o + 1 := IntWalk.i64_in _ (by omega)
          have e3 : IntKind.i64.wrap (b + 1) = b + 1 := IntWalk.i64_in _ (by omega)
          go_quiet (fail)
          go_wp2_with (first
            | (go_at_call 54; refine (specSimple_any _ _ (by simp; omega)).mono ?_; rintro e w3 ⟨⟨c, rfl⟩, hb3⟩; have hd3 := hd2.below ((below_drewN (Below.refl _ _) _).trans hb3); cases c))
          all_goals
            go_roundw
            case rel => exact ⟨_, j + 1, rfl, by go_num, by first | omega | (simp; omega), by first | omega | (simp; omega), by omega, hd3.mono (by omega)⟩
            case measure => simp [intOf]; omega
        · obtain ⟨o, ho⟩ : ∃ o, (L + 3) % 4 = o := ⟨_, rfl⟩
          have ho3 : 0 ≤ o ∧ o ≤ 3 := by omega
          rw [ho]
          obtain ⟨b, hb⟩ : ∃ b, (o + 2) % 4 = b := ⟨_, rfl⟩
          have hb3 : 0 ≤ b ∧ b ≤ 3 := by omega
          rw [hb]
          clear ho hb l0 l1
          have e1 : IntKind.i64.wrap ((x : Int) + 1) = (x : Int) + 1 := IntWalk.i64_in _ (by omega)
          have e2 : IntKind.i64.wrap (o + 1) = o + 1 := IntWalk.i64_in _ (by omega)
          have e3 : IntKind.i64.wrap (b + 1) = b + 1 := IntWalk.i64_in _ (by omega)
          go_quiet (fail)
          go_wp2_with (first
            | (go_at_call 54; refine (specSimple_any _ _ (by simp; omega)).mono ?_; rintro e w3 ⟨⟨c, rfl⟩, hb3⟩; have hd3 := hd2.below ((below_drewN (Below.refl _ _) _).trans hb3); cases c))
          all_goals
            go_roundw
            case rel => exact ⟨_, j + 1, rfl, by go_num, by first | omega | (simp; omega), by first | omega | (simp; omega), by omega, hd3.mono (by omega)⟩
            case measure => simp [intOf]; omega
      · go_wp2_with fail
        go_ret
        exact ⟨s, rfl, h4, h40, hd.mono (by omega)⟩
    · obtain rfl : j = 12 := by omega
      go_wp2_with fail
      go_ret
      exact ⟨s, rfl, h4, h40, hd.mono (by omega)⟩

end Go.Proofs.YtccdfndnjjjgfaaGreatDoor

namespace Go.Proofs.YtccdfndnjjjgfaaGreatDoor
open Go.RowKit

set_option maxRecDepth 100000 in
set_option maxHeartbeats 6400000 in
theorem uprights_all (s : ByteArray) (w : World) (hw : DirsAt w) (hok : Tw.walkOk s.data.toList = true) :
    Calls Tryz.prog 149 #[.string s] w fun e w' => ∃ v, e = .returned v ∧ w'.ownsRow (w.heap.size + 1) 154 3 v (Tw.ups s.data.toList).length (triCells (Tw.ups s.data.toList)) ∧ Below w.heap.size w w' := by
  have HOK := Lib.hid hok
  clear hok
  have h40 : s.size ≤ 40 := by have := Tw.walkOk_len HOK.out; rwa [size_data] at this
  obtain ⟨i0, hi0, hz0, hz1, hz2⟩ := info_parts triInfo
  go_enter Tryz.func149, Tryz.ntmps149
  go_wp2
  go_loopw [3, 5, 6] (fun vv i _ wr => ∃ (v : Value) (k : Nat) (us : List (Int × Int × Int)), v = vv ∧ k ≤ s.size ∧ i = .int .i64 k ∧ wr.ownsRow (w.heap.size + 1) 154 3 v us.length (triCells us) ∧ us.length ≤ k ∧ Hid (∀ u ∈ us, upright u) ∧ Hid (us = Tw.upsTo s.data.toList k) ∧ Below w.heap.size w wr ∧ w.heap.size + 1 ≤ wr.heap.size ∧
      wr.heap[w.heap.size]? = some (.cells #[.int .i64 (Tw.placeAt s.data.toList k).1, .int .i64 (Tw.placeAt s.data.toList k).2] 130 (0, 0)))
    (fun _ i _ _ => s.size - (intOf i).toNat)
  case atStart =>
    refine ⟨_, 0, [], rfl, Nat.zero_le _, rfl, ?_, Nat.le_refl _, (fun u hu => by cases hu), rfl, (Below.refl _ _).alloc (Nat.le_refl _) _, by simp, ?_⟩
    · exact ⟨rfl, .inl ⟨rfl, rfl⟩⟩
    · rw [Tw.placeAt_zero]
      exact heap_alloc_new w _
  case round =>
    obtain ⟨v, k, us, rfl, hk, rfl, hown, hul, HU, HS, hb, hsz, hrow⟩ := hrel
    by_cases hlt : k < s.size
    · have hd : 0 ≤ Tw.dir s[k] := Tw.walkOk_dir HOK.out (k := k) (by rw [size_data]; exact hlt)
      have hd3 := (Tw.dir_range s[k]).2
      obtain ⟨p, hp⟩ : ∃ p, p = Tw.placeAt s.data.toList k := ⟨_, rfl⟩
      have hr := Tw.placeAt_range s.data.toList k
      rw [← hp] at hr hrow
      have HP := Lib.hid hp
      clear hp
      have hx2 : -1000000 ≤ p.1 ∧ p.1 ≤ 1000000 := ⟨by omega, by omega⟩
      have hy2 : -1000000 ≤ p.2 ∧ p.2 ≤ 1000000 := ⟨by omega, by omega⟩
      have hk0 : (0 : Int) ≤ (k : Int) := by omega
      have hdr := hw.below hb hw.lt
      have c0 : wr.cell? ⟨w.heap.size, 0, none⟩ = some (.int .i64 p.1) := cell_of_row _ _ _ _ _ _ hrow
      have c1 : wr.cell? ⟨w.heap.size, 1, none⟩ = some (.int .i64 p.2) := cell_of_row _ _ _ _ _ _ hrow
      have HROW := Lib.hid hrow
      clear hrow
      go_wp2_with fail
      obtain ⟨x2, hx2e⟩ : ∃ x2, p.1 + Tw.east (Tw.dir s[k]) = x2 := ⟨_, rfl⟩
      obtain ⟨nd, hnd⟩ : ∃ nd, Tw.north (Tw.dir s[k]) = nd := ⟨_, rfl⟩
      obtain ⟨y2, hy2e⟩ : ∃ y2, p.2 + Tw.north (Tw.dir s[k]) = y2 := ⟨_, rfl⟩
      have hnr := Tw.north_range (Tw.dir s[k])
      rw [hnd] at hnr
      have hy2n : y2 = p.2 + nd := by rw [← hy2e, hnd]
      have hplace : Tw.placeAt s.data.toList (k + 1) = (x2, y2) := by
        rw [Tw.placeAt_succ _ _ (by rw [size_data]; exact hlt), ← HP.out]
        show (p.1 + Tw.east (Tw.dir s[k]), p.2 + Tw.north (Tw.dir s[k])) = _
        rw [hx2e, hy2e]
      have harea : Tw.upsTo s.data.toList (k + 1) = Tw.upsTo s.data.toList k ++ (if nd = 0 then [] else [(p.1, min p.2 y2, nd)]) := by
        rw [Tw.upsTo_succ (by rw [size_data]; exact hlt), ← HP.out, ← hy2e, ← hnd]
        rfl
      have HPL := Lib.hid hplace
      have HAR := Lib.hid harea
      have HX2 := Lib.hid hx2e
      have HY2 := Lib.hid hy2e
      clear hplace harea hx2e hy2e hnd
      have hyb : p.2 - 1 ≤ y2 ∧ y2 ≤ p.2 + 1 := by omega
      have hlt0 : w.heap.size < wr.heap.size := by omega
      have hvb : ∀ g, v.ownBlock = some g → w.heap.size + 1 ≤ g ∧ g < wr.heap.size := fun g hg => hown.lt g hg
      have hv0 : v.ownBlock ≠ some wr.heap.size := fun e => by have := hvb _ e; omega
      have hvA : v.ownBlock ≠ some w.heap.size := fun e => by have := hvb _ e; omega
      have hyy : (y2 = p.2 ∧ nd = 0) ∨ ((y2 == p.2) = false ∧ (nd = 1 ∨ nd = -1)) := by
        rcases Decidable.em (nd = 0) with h | h
        · exact .inl ⟨by omega, h⟩
        · exact .inr ⟨beq_false_of_ne (by omega), by omega⟩
      have HYN := Lib.hid hy2n
      clear hy2n
      go_region_held3 (fun w' => w'.cell? ⟨w.heap.size, 0, none⟩ = some (.int .i64 p.1) ∧ w'.cell? ⟨w.heap.size, 1, none⟩ = some (.int .i64 p.2))
        (first
          | exact ⟨c0, c1⟩
          | exact ⟨(cell_old hlt0 _).trans c0, (cell_old hlt0 _).trans c1⟩
          | exact ⟨k0, k1⟩
          | exact ⟨(cell_old hlt3 _).trans k0, (cell_old hlt3 _).trans k1⟩
          | exact far_cells hne3 ((cell_old hlt3 _).trans k0) ((cell_old hlt3 _).trans k1)
          | exact far_cells hne0 k0 k1)
        (first
          | (go_at_call 113; refine (dirOf_any _ _).mono ?_; rintro e w' ⟨rfl, rfl⟩)
          | (go_at_call 146; first
              | (refine (stepped_to p.1 p.2 _ x2 y2 wr.drew hdr.drew hd hd3 hx2 hy2 HX2.out HY2.out).mono ?_; rintro e w3 ⟨rfl, hb3⟩; obtain ⟨hown3, hB3, hs3, k0, k1, hrow3⟩ := up_step hb3 (.inr rfl) hown hb hlt0 HROW.out; have hlt3 : w.heap.size < w3.heap.size := Nat.lt_of_lt_of_le hlt0 hs3; have hne3 : w.heap.size ≠ w3.heap.size := Nat.ne_of_lt hlt3; have hne0 : w.heap.size ≠ wr.heap.size := Nat.ne_of_lt hlt0)
              | (refine (stepped_to p.1 p.2 _ x2 y2 (wr.drew.alloc _) (hdr.drew.alloc _) hd hd3 hx2 hy2 HX2.out HY2.out).mono ?_; rintro e w3 ⟨rfl, hb3⟩; obtain ⟨hown3, hB3, hs3, k0, k1, hrow3⟩ := up_step hb3 (.inl ⟨_, rfl⟩) hown hb hlt0 HROW.out; have e0 := (hb3.block wr.heap.size (by simp)).trans (heap_alloc_new wr.drew _); have n0 := cell_of_row _ _ 0 _ _ _ e0; have n1 := cell_of_row _ _ 1 _ _ _ e0; have f0 := frozen_of_row _ _ 0 _ _ e0; have f1 := frozen_of_row _ _ 1 _ _ e0; have hlt3 : w.heap.size < w3.heap.size := Nat.lt_of_lt_of_le hlt0 hs3; have hne3 : w.heap.size ≠ w3.heap.size := Nat.ne_of_lt hlt3; have hne0 : w.heap.size ≠ wr.heap.size := Nat.ne_of_lt hlt0)))
      all_goals
        have hv3 : v.ownBlock ≠ some w3.heap.size := fun e => by have := hvb _ e; omega
        first
          | (refine at_world (F := NextAt w w3.heap.size (w.heap.size + 1) us.length 3 154 130 v (triCells us) (.int .i64 p.1) (.int .i64 p.2) (.int .i64 x2) (.int .i64 y2)) (next_alloc hown3 hB3 hlt3 hv3 hrow3 _ _) ?_)
          | (refine at_world (F := NextAt w wr.heap.size (w.heap.size + 1) us.length 3 154 130 v (triCells us) (.int .i64 p.1) (.int .i64 p.2) (.int .i64 x2) (.int .i64 y2)) (next_set hown3 hB3 hlt3 hlt0 hv0 hrow3 e0 _ _) ?_)
        intro W2 hW2
        obtain ⟨hown2, hB2, hlt2, hnlt2, hnne2, hvN, hrow2, hnrow2⟩ := hW2
        have c0 := cell_of_row _ _ 0 _ _ _ hrow2
        have c1 := cell_of_row _ _ 1 _ _ _ hrow2
        have f0 := frozen_of_row _ _ 0 _ _ hrow2
        have f1 := frozen_of_row _ _ 1 _ _ hrow2
        have n0 := cell_of_row _ _ 0 _ _ _ hnrow2
        have n1 := cell_of_row _ _ 1 _ _ _ hnrow2
        have HR2 := Lib.hid hrow2
        have HN2 := Lib.hid hnrow2
        clear hrow2 hnrow2
        rcases hyy with ⟨rfl, hnd0⟩ | ⟨hyf, hnd1⟩
        · go_wp2
          go_roundw
          case rel =>
            refine ⟨v, k + 1, us, rfl, by omega, by go_num, own_set3 (own_set3 hown2 _ _ hvA) _ _ hvA, by omega, HU, ?_, (hB2.setCell (Nat.le_refl _) _).setCell (Nat.le_refl _) _, by simp; omega, ?_⟩
            · show _ = _
              rw [HAR.out, if_pos hnd0, List.append_nil, HS.out]
            · rw [HPL.out]
              exact two_setCell HR2.out _ _
          case measure => simp [intOf]; omega
        · go_wp2_with (first
            | (at_builtin; refine wpList_append_lies _ (by rfl) _ _ _ (by rfl) (w.heap.size + 1) 154 i0 _ 3 24 Tryz.underlying151 hi0 hz0 hz1 hz2 rfl (by omega) _ us.length _ (by rfl) (hown2.alloc _) ⟨W2.heap.size, 0, none⟩ 1 1 [.int .i64 p.1, .int .i64 (min p.2 y2), .int .i64 (y2 - p.2)] (by rfl) (by rfl) (World.news_of_block (cs := #[.int .i64 p.1, .int .i64 (min p.2 y2), .int .i64 (y2 - p.2)]) (t := 154) (fr := (0, 0)) (heap_alloc_new W2 _)) (by simp [Value.oneCell']) (by omega) (by unfold maxLen; omega) (by omega) (by simp; omega) (W2.heap.size + 1) (by simp) ?_; intro gg cap2 w4 hown4 hgrow4 hat4 hlt4; have r4 := grow_row HR2.out hgrow4 hvA; have m4 := grow_row HN2.out hgrow4 hvN; have q0 := cell_of_row _ _ 0 _ _ _ r4; have q1 := cell_of_row _ _ 1 _ _ _ r4; have g0 := frozen_of_row _ _ 0 _ _ r4; have g1 := frozen_of_row _ _ 1 _ _ r4; have o0 := cell_of_row _ _ 0 _ _ _ m4; have o1 := cell_of_row _ _ 1 _ _ _ m4; have R4 := Lib.hid r4; clear r4 m4))
          go_roundw
          case rel =>
            have hup : y2 - p.2 = nd := by have := HYN.out; omega
            have hgg := hown4.lt gg rfl
            have hggA : (Value.slice (some ⟨gg, 0, none⟩) (us.length + 1) cap2).ownBlock ≠ some w.heap.size := by
              show some gg ≠ some w.heap.size
              intro e
              cases e
              omega
            have hB4 : Below w.heap.size w w4 := (hB2.alloc (Nat.le_of_lt hlt2) _).grown hgrow4 (by simp; omega) (fun j hj => by have := hvb j hj; omega)
            have hcells : triCells us ++ [.int .i64 p.1, .int .i64 (min p.2 y2), .int .i64 (y2 - p.2)] = triCells (us ++ [(p.1, min p.2 y2, y2 - p.2)]) := by
              rw [triCells_append]
              rfl
            rw [hcells] at hown4
            refine ⟨_, k + 1, us ++ [(p.1, min p.2 y2, y2 - p.2)], rfl, by omega, by go_num, ?_, by simp; omega, ?_, ?_, (hB4.setCell (Nat.le_refl _) _).setCell (Nat.le_refl _) _, by simp; omega, ?_⟩
            · rw [List.length_append]
              exact own_set3 (own_set3 hown4 _ _ hggA) _ _ hggA
            · show ∀ u ∈ _, upright u
              intro u hu
              rcases List.mem_append.1 hu with h | h
              · exact HU.out u h
              · obtain rfl := List.mem_singleton.1 h
                refine ⟨by show -1000 ≤ p.1; omega, by show p.1 ≤ 1000; omega, by show -1000 ≤ min p.2 y2; omega, by show min p.2 y2 ≤ 1000; omega, ?_⟩
                show y2 - p.2 = 1 ∨ y2 - p.2 = -1
                omega
            · show _ = _
              rw [HAR.out, if_neg (by omega), HS.out, hup]
            · rw [HPL.out]
              exact two_setCell R4.out _ _
          case measure => simp [intOf]; omega
    · obtain rfl : k = s.size := by omega
      go_wp2
      go_ret
      have e : us = Tw.ups s.data.toList := by rw [HS.out, ← size_data, Tw.upsTo_all]
      rw [← e]
      exact ⟨v, rfl, hown, hb⟩

end Go.Proofs.YtccdfndnjjjgfaaGreatDoor

namespace Go.Proofs.YtccdfndnjjjgfaaGreatDoor
open Go.RowKit

theorem heap_alloc_at {w : World} {b : Nat} {o : Obj} (h : b < w.heap.size) : (w.alloc o).heap[b]? = w.heap[b]? := ((Below.refl w.heap.size w).alloc (Nat.le_refl _) o).block b h
theorem cell_same {w w' : World} {g i : Nat} (h : w'.heap[g]? = w.heap[g]?) : w'.cell? ⟨g, i, none⟩ = w.cell? ⟨g, i, none⟩ := by
  simp only [World.cell?, h]
def four (w : World) : World := (((w.alloc (.cells #[.int .i64 0, .int .i64 0] 130)).alloc (.cells #[.int .i64 0, .int .i64 0] 130)).alloc (.cells #[.int .i64 0, .int .i64 0] 130)).alloc (.cells #[.int .i64 0, .int .i64 0] 130)
def rowOf (x y : Int) : Obj := .cells #[.int .i64 x, .int .i64 y] 130 (0, 0)
theorem four_facts (w : World) : Below w.heap.size w (four w) ∧ (four w).heap.size = w.heap.size + 4 ∧ (four w).heap[w.heap.size]? = some (rowOf 0 0) ∧ (four w).heap[w.heap.size + 1]? = some (rowOf 0 0) ∧ (four w).heap[w.heap.size + 1 + 1]? = some (rowOf 0 0) ∧ (four w).heap[w.heap.size + 1 + 1 + 1]? = some (rowOf 0 0) := by
  refine ⟨((((Below.refl _ _).alloc (Nat.le_refl _) _).alloc (by simp) _).alloc (by simp; omega) _).alloc (by simp; omega) _, by simp [four], ?_, ?_, ?_, ?_⟩
  · exact heap_alloc_old' (heap_alloc_old' (heap_alloc_old' (heap_alloc_new _ _)))
  · exact heap_alloc_old' (heap_alloc_old' (by simpa [rowOf] using heap_alloc_new (w.alloc (.cells #[.int .i64 0, .int .i64 0] 130)) _))
  · exact heap_alloc_old' (by simpa [rowOf] using heap_alloc_new ((w.alloc (.cells #[.int .i64 0, .int .i64 0] 130)).alloc (.cells #[.int .i64 0, .int .i64 0] 130)) _)
  · simpa [rowOf, four] using heap_alloc_new (((w.alloc (.cells #[.int .i64 0, .int .i64 0] 130)).alloc (.cells #[.int .i64 0, .int .i64 0] 130)).alloc (.cells #[.int .i64 0, .int .i64 0] 130)) _

/-- The four rows of boundsOf, its place at hand, and the row of places. -/
structure BSt (w w2 : World) (g N : Nat) (lx ly hx hy px py : Int) (W : World) : Prop where
  r0 : W.heap[w.heap.size]? = some (rowOf 0 0)
  r1 : W.heap[w.heap.size + 1]? = some (rowOf 0 0)
  r2 : W.heap[w.heap.size + 1 + 1]? = some (rowOf lx ly)
  r3 : W.heap[w.heap.size + 1 + 1 + 1]? = some (rowOf hx hy)
  rn : W.heap[N]? = some (rowOf px py)
  sg : W.heap[g]? = w2.heap[g]?
  below : Below w.heap.size w W
  hn : w.heap.size + 4 ≤ N
  hg : w.heap.size + 4 ≤ g
  lt : w2.heap.size ≤ W.heap.size
theorem BSt.low {w w2 W : World} {g N : Nat} {lx ly hx hy px py : Int} (h : BSt w w2 g N lx ly hx hy px py W) (a b : Int) : BSt w w2 g N a b hx hy px py ((W.setCell ⟨w.heap.size + 1 + 1, 0, none⟩ (.int .i64 a)).setCell ⟨w.heap.size + 1 + 1, 1, none⟩ (.int .i64 b)) := by
  obtain ⟨r0, r1, r2, r3, rn, sg, hb, hn, hg, hl⟩ := h
  have o : ∀ j, j ≠ w.heap.size + 1 + 1 → ((W.setCell ⟨w.heap.size + 1 + 1, 0, none⟩ (.int .i64 a)).setCell ⟨w.heap.size + 1 + 1, 1, none⟩ (.int .i64 b)).heap[j]? = W.heap[j]? := fun j hj => by
    rw [heap_setCell_other _ _ _ _ (fun e => hj (by simpa using e)), heap_setCell_other _ _ _ _ (fun e => hj (by simpa using e))]
  exact ⟨(o _ (by omega)).trans r0, (o _ (by omega)).trans r1, two_setCell r2 _ _, (o _ (by omega)).trans r3, (o _ (by omega)).trans rn, (o _ (by omega)).trans sg, (hb.setCell (Nat.le_trans (Nat.le_add_right _ 1) (Nat.le_add_right _ _)) _).setCell (Nat.le_trans (Nat.le_add_right _ 1) (Nat.le_add_right _ _)) _, hn, hg, by simpa using hl⟩
theorem BSt.high {w w2 W : World} {g N : Nat} {lx ly hx hy px py : Int} (h : BSt w w2 g N lx ly hx hy px py W) (a b : Int) : BSt w w2 g N lx ly a b px py ((W.setCell ⟨w.heap.size + 1 + 1 + 1, 0, none⟩ (.int .i64 a)).setCell ⟨w.heap.size + 1 + 1 + 1, 1, none⟩ (.int .i64 b)) := by
  obtain ⟨r0, r1, r2, r3, rn, sg, hb, hn, hg, hl⟩ := h
  have o : ∀ j, j ≠ w.heap.size + 1 + 1 + 1 → ((W.setCell ⟨w.heap.size + 1 + 1 + 1, 0, none⟩ (.int .i64 a)).setCell ⟨w.heap.size + 1 + 1 + 1, 1, none⟩ (.int .i64 b)).heap[j]? = W.heap[j]? := fun j hj => by
    rw [heap_setCell_other _ _ _ _ (fun e => hj (by simpa using e)), heap_setCell_other _ _ _ _ (fun e => hj (by simpa using e))]
  exact ⟨(o _ (by omega)).trans r0, (o _ (by omega)).trans r1, (o _ (by omega)).trans r2, two_setCell r3 _ _, (o _ (by omega)).trans rn, (o _ (by omega)).trans sg, (hb.setCell (Nat.le_trans (Nat.le_trans (Nat.le_add_right _ 1) (Nat.le_add_right _ _)) (Nat.le_add_right _ _)) _).setCell (Nat.le_trans (Nat.le_trans (Nat.le_add_right _ 1) (Nat.le_add_right _ _)) (Nat.le_add_right _ _)) _, hn, hg, by simpa using hl⟩
theorem wp_at_world {P : Program} {c : Code} {Q : Exit → Act → World → Prop} {a : Act} {W : World} {F : World → Prop} (h : F W) (k : ∀ W2, F W2 → Code.wp P c Q a W2) : Code.wp P c Q a W := k W h

/-- All places of a walk are within. -/
def Bounding (l : List UInt8) (k : Nat) (lx ly hx hy : Int) : Prop := ∀ j, j < k → lx ≤ (Tw.placeAt l j).1 ∧ (Tw.placeAt l j).1 ≤ hx ∧ ly ≤ (Tw.placeAt l j).2 ∧ (Tw.placeAt l j).2 ≤ hy
def within20 (lx ly hx hy : Int) : Prop := -20 ≤ lx ∧ lx ≤ 0 ∧ 0 ≤ hx ∧ hx ≤ 20 ∧ -20 ≤ ly ∧ ly ≤ 0 ∧ 0 ≤ hy ∧ hy ≤ 20
set_option maxRecDepth 100000 in
set_option maxHeartbeats 3200000 in
theorem bounds_any (s : ByteArray) (w : World) (hw : DirsAt w) (hcl : Tw.closed s.data.toList = true) :
    Calls Tryz.prog 168 #[.string s] w fun e w' => ∃ lx ly hx hy : Int, e = .returned (.tuple #[.agg #[.int .i64 lx, .int .i64 ly], .agg #[.int .i64 hx, .int .i64 hy]]) ∧ within20 lx ly hx hy ∧ Bounding s.data.toList (s.size + 1) lx ly hx hy ∧ Below w.heap.size w w' := by
  have HOK := Lib.hid (Tw.closed_ok hcl)
  have h40 : s.size ≤ 40 := by have := Tw.walkOk_len HOK.out; rwa [size_data] at this
  have HNEAR : Hid (∀ k, k ≤ s.size → -20 ≤ (Tw.placeAt s.data.toList k).1 ∧ (Tw.placeAt s.data.toList k).1 ≤ 20 ∧ -20 ≤ (Tw.placeAt s.data.toList k).2 ∧ (Tw.placeAt s.data.toList k).2 ≤ 20) := fun k hk => Tw.closed_near hcl (by rw [size_data]; exact hk)
  obtain ⟨bW, sW, r0, r1, r2, r3⟩ := four_facts w
  obtain ⟨W, hW⟩ : ∃ W, four w = W := ⟨_, rfl⟩
  rw [hW] at bW sW r0 r1 r2 r3
  unfold four at hW
  have HW := Lib.hid hW
  have HD := Lib.hid (hw.below' bW)
  have HPL := Lib.hid (Tw.places_length s.data.toList)
  have B0 := Lib.hid bW
  have R0 := Lib.hid r0
  have R1 := Lib.hid r1
  have R2 := Lib.hid r2
  have R3 := Lib.hid r3
  have SW := Lib.hid sW
  clear hW bW r0 r1 r2 r3 sW hw hcl
  go_enter Tryz.func168, Tryz.ntmps168
  go_wp2_with fail
  rw [HW.out]
  go_wp2_with (first
    | (go_at_call 147; refine (implPlacesOf s W HD.out HOK.out).mono ?_; rintro e w2 ⟨v, rfl, ⟨g, cap, rfl, hown⟩, hb2⟩; rw [HPL.out, size_data] at hown ⊢))
  have hg := hown.lt g rfl
  have HG := Lib.hid hg
  have HB2 := Lib.hid hb2
  have HOWN := Lib.hid hown
  clear hg hb2 hown
  go_loopw [7, 13] (fun _ i wr => ∃ (k : Nat) (lx ly hx hy : Int), k ≤ s.size + 1 ∧ i = .int .i64 k ∧ wr.heap[w.heap.size]? = some (rowOf 0 0) ∧ wr.heap[w.heap.size + 1]? = some (rowOf 0 0) ∧ wr.heap[w.heap.size + 1 + 1]? = some (rowOf lx ly) ∧ wr.heap[w.heap.size + 1 + 1 + 1]? = some (rowOf hx hy) ∧ Hid (wr.heap[g]? = w2.heap[g]?) ∧ Below w.heap.size w wr ∧ Hid (w2.heap.size ≤ wr.heap.size) ∧ Hid (within20 lx ly hx hy) ∧ Hid (Bounding s.data.toList k lx ly hx hy)) (fun _ i _ => s.size + 1 - (intOf i).toNat)
  case atStart =>
    have hsz := SW.out
    refine ⟨0, 0, 0, 0, 0, Nat.zero_le _, rfl, ?_, ?_, ?_, ?_, ?_, B0.out.trans (HB2.out.mono B0.out.size), ?_, ?_, fun j hj => absurd hj (by omega)⟩
    · exact (HB2.out.block _ (by omega)).trans R0.out
    · exact (HB2.out.block _ (by omega)).trans R1.out
    · exact (HB2.out.block _ (by omega)).trans R2.out
    · exact (HB2.out.block _ (by omega)).trans R3.out
    · show _ = _
      rfl
    · exact Nat.le_refl _
    · show within20 0 0 0 0
      unfold within20
      omega
  case round =>
    obtain ⟨k, lx, ly, hx, hy, hk, rfl, r0, r1, r2, r3, HSG, hb, HSZ, HIN, HBD⟩ := hrel
    by_cases hlt : k < s.size + 1
    · obtain ⟨p, hp⟩ : ∃ p, Tw.placeAt s.data.toList k = p := ⟨_, rfl⟩
      have hpk : (Tw.places s.data.toList)[k]? = some p := by rw [← hp]; exact Tw.placesTo_get? _ _ _ (by rw [size_data]; exact hlt)
      have hn := HNEAR.out k (by omega)
      rw [hp] at hn
      obtain ⟨c0, c1⟩ := place_cells HOWN.out hpk
      have d0 := (cell_same (i := k * 2) HSG.out).trans c0
      have d1 := (cell_same (i := k * 2 + 1) HSG.out).trans c1
      have HP := Lib.hid hp
      have hgs := HG.out
      have hss := HSZ.out
      have hsw := SW.out
      have hb2s := HB2.out.size
      have hst : BSt w w2 g wr.heap.size lx ly hx hy p.1 p.2 (wr.alloc (.cells #[.int .i64 p.1, .int .i64 p.2] 130)) := ⟨heap_alloc_old' r0, heap_alloc_old' r1, heap_alloc_old' r2, heap_alloc_old' r3, heap_alloc_new _ _, by rw [← HSG.out]; exact heap_alloc_at (by omega), hb.alloc hb.size _, by omega, by omega, by simp; omega⟩
      have HST := Lib.hid hst
      have hk0 : (0 : Int) ≤ (k : Int) := by omega
      have hk1 : (k : Int) < (s.size : Int) + 1 := by omega
      clear hp hpk c0 c1 r0 r1 r2 r3 hst
      go_upto_region 5 with (fail)
      refine wp_at_world (F := BSt w w2 g wr.heap.size lx ly hx hy p.1 p.2) HST.out ?_
      intro W5 h5
      have a20 := cell_of_row _ _ 0 _ _ _ h5.r2
      have a21 := cell_of_row _ _ 1 _ _ _ h5.r2
      have n20 := cell_of_row _ _ 0 _ _ _ h5.rn
      have n21 := cell_of_row _ _ 1 _ _ _ h5.rn
      have f20 := frozen_of_row _ _ 0 _ _ h5.r2
      have f21 := frozen_of_row _ _ 1 _ _ h5.r2
      have H5 := Lib.hid h5
      clear h5
      go_upto_region 6 with (fail)
      refine wp_at_world (F := BSt w w2 g wr.heap.size (min lx p.1) (min ly p.2) hx hy p.1 p.2) (H5.out.low _ _) ?_
      intro W6 h6
      have b20 := cell_of_row _ _ 0 _ _ _ h6.r3
      have b21 := cell_of_row _ _ 1 _ _ _ h6.r3
      have m20 := cell_of_row _ _ 0 _ _ _ h6.rn
      have m21 := cell_of_row _ _ 1 _ _ _ h6.rn
      have g20 := frozen_of_row _ _ 0 _ _ h6.r3
      have g21 := frozen_of_row _ _ 1 _ _ h6.r3
      have H6 := Lib.hid h6
      clear h6 a20 a21 n20 n21 f20 f21
      go_wp2
      go_roundw
      case rel =>
        obtain ⟨e0, e1, e2, e3, _, eg, eb, _, _, el⟩ := H6.out.high (max hx p.1) (max hy p.2)
        refine ⟨k + 1, min lx p.1, min ly p.2, max hx p.1, max hy p.2, by omega, by go_num, e0, e1, e2, e3, eg, eb, el, ?_, ?_⟩
        · have := HIN.out
          show within20 _ _ _ _
          unfold within20 at *
          omega
        · intro j hj
          by_cases hjk : j < k
          · have := HBD.out j hjk
            omega
          · obtain rfl : j = k := by omega
            rw [HP.out]
            omega
      case measure => simp [intOf]; omega
    · obtain rfl : k = s.size + 1 := by omega
      have a20 := cell_of_row _ _ 0 _ _ _ r2
      have a21 := cell_of_row _ _ 1 _ _ _ r2
      have a30 := cell_of_row _ _ 0 _ _ _ r3
      have a31 := cell_of_row _ _ 1 _ _ _ r3
      have z0 := cell_of_row _ _ 0 _ _ _ r0
      have z1 := cell_of_row _ _ 1 _ _ _ r0
      have z2 := cell_of_row _ _ 0 _ _ _ r1
      have z3 := cell_of_row _ _ 1 _ _ _ r1
      have f0 := frozen_of_row _ _ 0 _ _ r0
      have f1 := frozen_of_row _ _ 1 _ _ r0
      have f2 := frozen_of_row _ _ 0 _ _ r1
      have f3 := frozen_of_row _ _ 1 _ _ r1
      have Q0 := Lib.hid r0
      have Q1 := Lib.hid r1
      clear r0 r1 r2 r3
      go_wp2_with fail
      go_region
      have e0 : (((((wr.setCell ⟨w.heap.size, 0, none⟩ (.int .i64 lx)).setCell ⟨w.heap.size, 1, none⟩ (.int .i64 ly)).setCell ⟨w.heap.size + 1, 0, none⟩ (.int .i64 hx)).setCell ⟨w.heap.size + 1, 1, none⟩ (.int .i64 hy)).drew).heap[w.heap.size]? = some (rowOf lx ly) := by
        show ((((wr.setCell ⟨w.heap.size, 0, none⟩ (.int .i64 lx)).setCell ⟨w.heap.size, 1, none⟩ (.int .i64 ly)).setCell ⟨w.heap.size + 1, 0, none⟩ (.int .i64 hx)).setCell ⟨w.heap.size + 1, 1, none⟩ (.int .i64 hy)).heap[w.heap.size]? = _
        rw [heap_setCell_other _ _ _ _ (by simp), heap_setCell_other _ _ _ _ (by simp)]
        exact two_setCell Q0.out _ _
      have e1 : (((((wr.setCell ⟨w.heap.size, 0, none⟩ (.int .i64 lx)).setCell ⟨w.heap.size, 1, none⟩ (.int .i64 ly)).setCell ⟨w.heap.size + 1, 0, none⟩ (.int .i64 hx)).setCell ⟨w.heap.size + 1, 1, none⟩ (.int .i64 hy)).drew).heap[w.heap.size + 1]? = some (rowOf hx hy) := by
        refine two_setCell (w := (wr.setCell ⟨w.heap.size, 0, none⟩ (.int .i64 lx)).setCell ⟨w.heap.size, 1, none⟩ (.int .i64 ly)) (x := .int .i64 0) (y := .int .i64 0) ?_ _ _
        rw [heap_setCell_other _ _ _ _ (by simp), heap_setCell_other _ _ _ _ (by simp)]
        exact Q1.out
      refine at_world (F := fun W9 => W9.heap[w.heap.size]? = some (rowOf lx ly) ∧ W9.heap[w.heap.size + 1]? = some (rowOf hx hy) ∧ Below w.heap.size w W9) ⟨e0, e1, ((((hb.setCell (Nat.le_refl _) _).setCell (Nat.le_refl _) _).setCell (Nat.le_add_right _ _) _).setCell (Nat.le_add_right _ _) _).drew⟩ ?_
      clear e0 e1
      rintro W9 ⟨e0, e1, hb9⟩
      have y0 := cell_of_row _ _ 0 _ _ _ e0
      have y1 := cell_of_row _ _ 1 _ _ _ e0
      have y2 := cell_of_row _ _ 0 _ _ _ e1
      have y3 := cell_of_row _ _ 1 _ _ _ e1
      clear e0 e1
      go_wp2
      refine bodyPost_ret (v := .tuple #[.agg #[.int .i64 lx, .int .i64 ly], .agg #[.int .i64 hx, .int .i64 hy]]) (by simp [results, Tryz.results168, go_sem, y0, y1, y2, y3]) rfl ?_
      exact ⟨lx, ly, hx, hy, rfl, HIN.out, HBD.out, hb9⟩

end Go.Proofs.YtccdfndnjjjgfaaGreatDoor

namespace Go.Proofs.YtccdfndnjjjgfaaGreatDoor
open Go.RowKit Go.Maps Go.WideMaps Go.ChangeShapes Go.WideShapes Go.MapKept Go.ChangeMaps

/-- What a map of numbers by places holds: F at each place, 0 where it has no entry; and its keys are places. -/
def NumMap (D : DataW Unit) (F : Int → Int → Int) : Prop := (∀ p, near p → D.atKey (placeKey p) (.lit (.int .i64 0)) = .lit (.int .i64 (F p.1 p.2))) ∧ ∀ kl, Maps.has D kl = true → ∃ p, near p ∧ kl = placeKey p
theorem NumMap.empty : NumMap (.map []) (fun _ _ => 0) := ⟨fun _ _ => rfl, fun kl h => by cases h⟩
theorem NumMap.put {D : DataW Unit} {F : Int → Int → Int} (h : NumMap D F) (hD : IsMap D) {q : Int × Int} (hq : near q) (c : Int) : NumMap (D.put (placeKey q) (.lit (.int .i64 c))) (fun x y => if x = q.1 ∧ y = q.2 then c else F x y) := by
  refine ⟨fun p hp => ?_, fun kl hk => ?_⟩
  · by_cases hpq : p = q
    · subst hpq
      rw [atKey_put_same hD (isKey_place p)]
      show _ = DataW.lit (Lit.int .i64 (if p.1 = p.1 ∧ p.2 = p.2 then c else F p.1 p.2))
      rw [if_pos ⟨rfl, rfl⟩]
    · rw [atKey_put_other (fun e => hpq (placeKey_inj hp hq e)), h.1 p hp]
      show _ = DataW.lit (Lit.int .i64 (if p.1 = q.1 ∧ p.2 = q.2 then c else F p.1 p.2))
      rw [if_neg (fun e => hpq (Prod.ext e.1 e.2))]
  · by_cases hkq : kl = placeKey q
    · exact ⟨q, hq, hkq⟩
    · rw [has_put_other hkq] at hk
      exact h.2 kl hk

theorem setBlock_same {w : World} {b : Nat} {o : Obj} (h : w.heap[b]? = some o) : setBlock w b o = w := by
  have e : w.heap.setIfInBounds b o = w.heap := by
    apply Array.ext_getElem?
    intro i
    rw [Array.getElem?_setIfInBounds]
    split
    · rename_i hi
      subst hi
      rw [h]
      have := (Array.getElem?_eq_some_iff.1 h).1
      rw [if_pos this]
    · rfl
  unfold setBlock
  rw [e]
theorem setBlock_twice {w : World} {b : Nat} {o p : Obj} : setBlock (setBlock w b o) b p = setBlock w b p := by
  unfold setBlock
  simp
theorem run_one {α : Type} {m : Sem α} {P : Program} {w w1 w2 : World} {x y : α} (h : m.run P w = .ok x w1) (k : m.run P w = .ok y w2) : w1 = w2 := by
  rw [h] at k
  injection k
section
variable {P : Program} {w : World} {t k e : TypeId} {b n : Nat} {D : DataW Unit}
/-- 'm[k] += v': the entry is made, if there is none, and reads as before; and a number is stored into it. -/
theorem entry_own (K : KeyLaw P k) (K2 : Keyed P k) (ht : P.underlying t = some (.map k e)) (he : P.underlying e = some (.int .i64)) (hz : ∀ u : World, (zeroValue e).run P u = .ok (.int .i64 0) u) (h : w.ownsMap P k (plainElem P e) b n D) (hn : n < maxLen)
    {key : Value} {kl : Lit} (hkey : keyOf P k key = some kl) {c : Int} (hat : D.atKey kl (.lit (.int .i64 0)) = .lit (.int .i64 c)) :
    ∃ (st : Value) (v0 : Value) (w1 : World), (Instr.lookup t (.map (some b)) key false).run P w = .ok (.int .i64 c) w ∧ (Instr.mapEntry t (.map (some b)) key).run P w = .ok (.tuple #[v0, st]) w1 ∧ (Instr.lookup t (.map (some b)) key false).run P w1 = .ok (.int .i64 c) w1 ∧ w.grownBy w1 (some b) ∧
      ∀ v, (Lit.int .i64 v).wf = true → ∃ w2, (Instr.entryStore t (.map (some b)) st (.int .i64 v)).run P w1 = .ok () w2 ∧ w2.ownsMap P k (plainElem P e) b (n + 1) (D.put kl (.lit (.int .i64 v))) ∧ w.grownBy w2 (some b) := by
  obtain ⟨c', hl, hat', _⟩ := h.lookup_int K2 ht he (hz w) hkey
  have hcc : c' = c := by
    rw [hat] at hat'
    simpa using hat'.symm
  subst hcc
  have hown := h
  obtain ⟨es, clock, hb, F, hs, hD⟩ := h
  have hsto : ∀ (w1 : World) (st : Nat) (es1 : Array MapEntry) (clock1 : Nat), w1 = setBlock w b (.map es1 clock1) → w1.heap[b]? = some (.map es1 clock1) →
      (∀ (w2 : World) (val : Value), w2.heap[b]? = some (.map es1 clock1) → ∃ es' clock', (Instr.entryStore t (.map (some b)) (goInt st) val).run P w2 = .ok () (setBlock w2 b (.map es' clock')) ∧ (Instr.mapUpdate t (.map (some b)) key val).run P w = .ok () (setBlock w b (.map es' clock'))) →
      ∀ v, (Lit.int .i64 v).wf = true → ∃ w2, (Instr.entryStore t (.map (some b)) (goInt st) (.int .i64 v)).run P w1 = .ok () w2 ∧ w2.ownsMap P k (plainElem P e) b (n + 1) (D.put kl (.lit (.int .i64 v))) ∧ w.grownBy w2 (some b) := by
    intro w1 st es1 clock1 hw1 hb1 hst v hv
    obtain ⟨es', clock', r1, r2⟩ := hst w1 (.int .i64 v) hb1
    obtain ⟨w2, s1, s2, s3⟩ := hown.update K2 ht hn hkey (plainElem_int he hv)
    have ew := run_one s1 r2
    refine ⟨_, r1, ?_⟩
    rw [hw1, setBlock_twice, ← ew]
    exact ⟨s2, s3⟩
  obtain ⟨s1, s2, _⟩ := F.stamped
  obtain ⟨v0, st, es1, clock1, hrun, halt, hst⟩ := Go.WideElems.entry_then_store (P := P) (w := w) K ht hz hb F hkey
  have hb1 : (setBlock w b (.map es1 clock1)).heap[b]? = some (.map es1 clock1) := heap_setBlock_same hb _
  have hlook : (Instr.lookup t (.map (some b)) key false).run P (setBlock w b (.map es1 clock1)) = .ok (.int .i64 c') (setBlock w b (.map es1 clock1)) := by
    rcases K.find w hkey es.toList F.keys with ⟨h1, h2⟩ | ⟨j, e0, h1, h2, h3⟩
    · have r1 : (Instr.mapEntry t (.map (some b)) key).run P w = .ok (.tuple #[.int .i64 0, goInt clock]) (setBlock w b (.map (es.push ⟨key, .int .i64 0, clock⟩) (clock + 1))) := by
        simp [Instr.mapEntry, run_underlying ht, MapKept.run_getObj_map hb, K.check w false hkey, h1, hz, MapKept.run_setObj_map _ hb, Result.andThen, setBlock]
      have r2 : (Instr.mapUpdate t (.map (some b)) key (.int .i64 0)).run P w = .ok () (setBlock w b (.map (es.push ⟨key, .int .i64 0, clock⟩) (clock + 1))) := by
        simp [Instr.mapUpdate, run_underlying ht, MapKept.run_getObj_map hb, K.check w false hkey, h1, MapKept.run_setObj_map _ hb, Result.andThen, setBlock]
      have r3 : (Instr.lookup t (.map (some b)) key false).run P w = .ok (.int .i64 0) w := by
        simp [Instr.lookup, run_underlying ht, MapKept.run_getObj_map hb, K.check w _ hkey, h1, hz, Result.andThen]
      have ec : c' = 0 := by
        rw [hl] at r3
        injection r3 with e1 e2
        injection e1
      obtain ⟨w2, q1, q2, q3⟩ := hown.update K2 ht hn hkey (plainElem_int he (a := 0) (by decide))
      have e1 := run_one hrun r1
      have e2 := run_one q1 r2
      rw [e1, ← e2]
      obtain ⟨c2, l1, l2, _⟩ := q2.lookup_int K2 ht he (hz w2) hkey
      rw [atKey_put_same hown.isMap (K2.key hkey)] at l2
      have : c2 = 0 := by simpa using l2.symm
      rw [l1, this, ec]
    · have hj : es[j]? = some e0 := by simpa using h2
      have hsame : es.modify j (fun e => { e with key := key }) = es := by
        apply Array.ext'
        rw [Array.toList_modify, modify_eq_set _ _ _ _ h2]
        have : ({ e0 with key := key } : MapEntry) = e0 := by rw [← h3]
        rw [this]
        exact Go.WideElems.set_self _ _ _ h2
      have r1 : (Instr.mapEntry t (.map (some b)) key).run P w = .ok (.tuple #[e0.val, goInt e0.born]) (setBlock w b (.map es clock)) := by
        simp [Instr.mapEntry, run_underlying ht, MapKept.run_getObj_map hb, K.check w false hkey, h1, hj, h3, K.stays w hkey, hsame, MapKept.run_setObj_map _ hb, Result.andThen, setBlock]
      have e1 := run_one hrun r1
      rw [e1, setBlock_same hb]
      exact hl
  refine ⟨goInt st, v0, _, hl, hrun, hlook, ⟨rfl, rfl, rfl, by simp [setBlock], fun i _ hi => heap_setBlock_other hb _ (fun e => hi (by rw [e]))⟩, hsto _ st es1 clock1 rfl hb1 hst⟩
end

end Go.Proofs.YtccdfndnjjjgfaaGreatDoor

namespace Go.Proofs.YtccdfndnjjjgfaaGreatDoor
open Go.RowKit Go.Maps Go.WideMaps

theorem twoRow : (129 : TypeId) < Tryz.prog.types.size := of_decide_eq_true (by kernel_rfl)
theorem twoWide : (match Tryz.prog.underlying 129 with | some (.array _ _) | some (.struct _) => true | _ => false) = true := by rw [Tryz.underlying129]
set_option maxRecDepth 100000 in
theorem twoKey : KeyLaw Tryz.prog 129 := deep_law_laid laidKeys (m := 2) (by omega) twoRow (by kernel_rfl) twoWide
theorem twoLaw : Keyed Tryz.prog 129 := Keyed.of_law twoKey
theorem twoKeyType : Tryz.prog.keyType 129 = true := by kernel_rfl
theorem twoCells : Tryz.prog.cellsOf 129 = 2 := by kernel_rfl
theorem keyOf_two (p : Int × Int) (h : near p) : keyOf Tryz.prog 129 (placeVal p) = some (placeKey p) := by
  obtain ⟨h1, h2, h3, h4⟩ := h
  have w1 : (Lit.int .i64 p.1).wf = true := WalkArith.wf_i64 (by omega)
  have w2 : (Lit.int .i64 p.2).wf = true := WalkArith.wf_i64 (by omega)
  obtain ⟨m, hm⟩ := typesMore
  unfold keyOf placeVal
  simp only [Tryz.underlying129]
  rw [if_pos (by simp [twoKeyType, Value.formed, Tryz.underlying129, twoCells]), hm]
  simp [Program.keyLits, Tryz.underlying129, twoCells, intCells, Tryz.underlying3, List.range_succ, w1, w2, placeKey, Value.cells]
theorem zero_int (w : World) : (zeroValue 3).run Tryz.prog w = .ok (.int .i64 0) w := by kernel_rfl

/-- The windings that are laid after some steps, the last one up to a place. -/
def laidF (us : List (Int × Int × Int)) (lx : Int) (u : Int × Int × Int) (X : Int) (x y : Int) : Int := (if lx ≤ x then Tw.wind us x y else 0) + (if y = u.2.1 ∧ lx ≤ x ∧ x < X then u.2.2 else 0)
/-- The memory of windingsOf in its loops. -/
structure WSt (w w3 : World) (N g : Nat) (lx ly : Int) (n : Nat) (D : DataW Unit) (W : World) : Prop where
  owns : W.ownsMap Tryz.prog 129 (plainElem Tryz.prog 3) w.heap.size n D
  rn : W.heap[N]? = some (rowOf lx ly)
  sg : W.heap[g]? = w3.heap[g]?
  below : Below w.heap.size w W
  gm : w.heap.size < g
  nm : w.heap.size < N
  lt : w3.heap.size ≤ W.heap.size
  glt : g < w3.heap.size
def upRow (u : Int × Int × Int) : Obj := .cells #[.int .i64 u.1, .int .i64 u.2.1, .int .i64 u.2.2] 154 (0, 0)
theorem WSt.alloc {w w3 W : World} {N g n : Nat} {lx ly : Int} {D : DataW Unit} (h : WSt w w3 N g lx ly n D W) (o : Obj) : WSt w w3 N g lx ly n D (W.alloc o) :=
  ⟨h.owns.alloc o, heap_alloc_old' h.rn, (heap_alloc_at (Nat.lt_of_lt_of_le h.glt h.lt)).trans h.sg, h.below.alloc h.below.size o, h.gm, h.nm, by have := h.lt; simp; omega, h.glt⟩
theorem WSt.grown {w w3 W W2 : World} {N g n n2 : Nat} {lx ly : Int} {D D2 : DataW Unit} (h : WSt w w3 N g lx ly n D W) (hg : W.grownBy W2 (some w.heap.size)) (ho : W2.ownsMap Tryz.prog 129 (plainElem Tryz.prog 3) w.heap.size n2 D2) : WSt w w3 N g lx ly n2 D2 W2 := by
  have hN : N < W.heap.size := lt_of_heap h.rn
  refine ⟨ho, ?_, ?_, h.below.grown hg h.below.size (fun j hj => by cases hj; exact Nat.le_refl _), h.gm, h.nm, Nat.le_trans h.lt hg.size, h.glt⟩
  · exact (hg.block N hN (fun e => by cases e; exact absurd h.nm (Nat.lt_irrefl _))).trans h.rn
  · exact (hg.block g (Nat.lt_of_lt_of_le h.glt h.lt) (fun e => by cases e; exact absurd h.gm (Nat.lt_irrefl _))).trans h.sg
theorem WSt.drew {w w3 W : World} {N g n : Nat} {lx ly : Int} {D : DataW Unit} (h : WSt w w3 N g lx ly n D W) : WSt w w3 N g lx ly n D W.drew := ⟨h.owns.drew, h.rn, h.sg, h.below.drew, h.gm, h.nm, h.lt, h.glt⟩
def WindOut (s : ByteArray) (w : World) (e : Ending) (w' : World) : Prop := ∃ (lx : Int) (n : Nat) (D : DataW Unit), e = .returned (.map (some w.heap.size)) ∧ w'.ownsMap Tryz.prog 129 (plainElem Tryz.prog 3) w.heap.size n D ∧ NumMap D (fun x y => if lx ≤ x then Tw.wind (Tw.ups s.data.toList) x y else 0) ∧ (∀ u ∈ Tw.ups s.data.toList, lx ≤ u.1) ∧ Below w.heap.size w w'
set_option maxRecDepth 100000 in
set_option maxHeartbeats 3200000 in
theorem windings_any (s : ByteArray) (w : World) (hw : DirsAt w) (hcl : Tw.closed s.data.toList = true) :
    Calls Tryz.prog 150 #[.string s] w (WindOut s w) := by
  have HOK := Lib.hid (Tw.closed_ok hcl)
  have HCL := Lib.hid hcl
  have h40 : s.size ≤ 40 := by have := Tw.walkOk_len HOK.out; rwa [size_data] at this
  have hmm := @run_makeMap Tryz.prog
  have HMK : Hid (∀ W, W = w.alloc (.map #[] 0) → DirsAt W) := fun W h => h ▸ hw.below' ((Below.refl _ _).alloc (Nat.le_refl _) _)
  have HNR : Hid (∀ u ∈ Tw.ups s.data.toList, -20 ≤ u.1 ∧ u.1 ≤ 20 ∧ -20 ≤ u.2.1 ∧ u.2.1 ≤ 19) := fun u hu => Tw.ups_near hcl hu
  have HSG : Hid (∀ u ∈ Tw.ups s.data.toList, u.2.2 = 1 ∨ u.2.2 = -1) := Tw.ups_signs
  have HUL : Hid ((Tw.ups s.data.toList).length ≤ 40) := by have := Tw.ups_len s.data.toList (0, 0); rw [size_data] at this; exact Nat.le_trans this h40
  have HAT : Hid (∀ u ∈ Tw.ups s.data.toList, ∃ k, k ≤ s.size ∧ u.1 = (Tw.placeAt s.data.toList k).1) := fun u hu => by
    obtain ⟨k, hk, h1, _⟩ := Tw.ups_at hu
    rw [size_data] at hk
    exact ⟨k, by omega, h1⟩
  obtain ⟨us, hus⟩ : ∃ us, Tw.ups s.data.toList = us := ⟨_, rfl⟩
  have HUS := Lib.hid hus
  rw [hus] at HNR HSG HUL HAT
  clear hw hcl hus
  go_enter Tryz.func150, Tryz.ntmps150
  go_upto_region 3 with (first
    | (go_at_call 168; refine (bounds_any s _ (HMK.out _ rfl) HCL.out).mono ?_; rintro e w1 ⟨lx, ly, hx, hy, rfl, hin, hbd, hb1⟩))
  have HIN := Lib.hid hin
  have HBD := Lib.hid hbd
  have HB1 := Lib.hid hb1
  clear hin hbd hb1
  refine wp_at_world (F := fun W2 => W2.ownsMap Tryz.prog 129 (plainElem (H := Unit) Tryz.prog 3) w.heap.size 0 (.map []) ∧ W2.heap[w1.heap.size]? = some (rowOf lx ly) ∧ Below w.heap.size w W2 ∧ w1.heap.size < W2.heap.size ∧ w.heap.size < w1.heap.size ∧ DirsAt W2) ?_ ?_
  · have hm := World.ownsMap_made (H := Unit) w Tryz.prog 129 (plainElem Tryz.prog 3)
    have hb1 := HB1.out
    have hm1 := hm.kept (grown_of_below hb1 none) (by simp)
    have hs := hb1.size
    simp at hs
    have hbw : Below w.heap.size w w1 := ((Below.refl w.heap.size w).alloc (Nat.le_refl _) _).trans (hb1.mono (by simp))
    have hd1 := (HMK.out _ rfl).below' hb1
    exact ⟨(hm1.alloc _).alloc _, heap_alloc_old' (heap_alloc_new _ _), (hbw.alloc hbw.size _).alloc (by simp; omega) _, by simp; omega, by omega, (hd1.alloc _).alloc _⟩
  · rintro W2 ⟨hm2, hr2, hb2, hl2, hn2, hd2⟩
    have HM2 := Lib.hid hm2
    have HR2 := Lib.hid hr2
    have HB2 := Lib.hid hb2
    have HD2 := Lib.hid hd2
    clear hm2 hr2 hb2 hd2
    go_wp2_with (go_at_call 149; refine (uprights_all s _ HD2.out HOK.out).mono ?_; rintro e w3 ⟨v, rfl, hown3, hb3⟩; rw [HUS.out] at hown3; have HB3 := Lib.hid hb3; clear hb3; rcases own_shape hown3 with ⟨rfl, rfl⟩ | ⟨g, cap, rfl⟩)
    · refine wp_loop_rounds 1 ?_
      rw [rounds_succ]
      go_wp2
      go_ret
      refine ⟨lx, 0, .map [], rfl, HM2.out.kept (grown_of_below HB3.out none) (by simp), ?_, ?_, HB2.out.trans (HB3.out.mono HB2.out.size)⟩
      · rw [HUS.out]
        have e : (fun x y : Int => if lx ≤ x then Tw.wind [] x y else 0) = fun _ _ => 0 := by
          funext x y
          rw [Tw.wind_nil]
          split <;> rfl
        rw [e]
        exact NumMap.empty
      · rw [HUS.out]
        intro u hu
        cases hu
    · obtain ⟨n, hn⟩ : ∃ n, us.length = n := ⟨_, rfl⟩
      have hn40 : n ≤ 40 := hn ▸ HUL.out
      rw [hn] at hown3 ⊢
      have HN := Lib.hid hn
      have HO3 := Lib.hid hown3
      have hg3 := hown3.lt g rfl
      have hs2 := HB2.out.size
      have hs3 := HB3.out.size
      have hg1 : w.heap.size < g := by omega
      have hg2 : g < w3.heap.size := hg3.2
      have hst : WSt w w3 w1.heap.size g lx ly 0 (.map []) w3 := ⟨HM2.out.kept (grown_of_below HB3.out none) (by simp), (HB3.out.block _ hl2).trans HR2.out, rfl, HB2.out.trans (HB3.out.mono HB2.out.size), hg1, hn2, Nat.le_refl _, hg2⟩
      have HST := Lib.hid hst
      have hin := HIN.out
      unfold within20 at hin
      have hlx0 := hin.1
      have hlx1 := hin.2.1
      clear hn hown3 hst hg3 hs2 hs3 hg1 hg2 hin hl2 hn2
      go_loopw [7, 8, 18] (fun _ _ i wr => ∃ (j m : Nat) (D : DataW Unit), i = .int .i64 j ∧ j ≤ n ∧ m ≤ 64 * j ∧ Hid (WSt w w3 w1.heap.size g lx ly m D wr) ∧ Hid (NumMap D (fun x y => if lx ≤ x then Tw.wind (us.take j) x y else 0))) (fun _ _ i _ => n - (intOf i).toNat)
      case atStart =>
        refine ⟨0, 0, .map [], rfl, Nat.zero_le _, Nat.le_refl _, HST, ?_⟩
        have e : (fun x y : Int => if lx ≤ x then Tw.wind (us.take 0) x y else 0) = fun _ _ => 0 := by
          funext x y
          rw [List.take_zero, Tw.wind_nil]
          split <;> rfl
        show NumMap _ _
        rw [e]
        exact NumMap.empty
      case round =>
        obtain ⟨j, m, D, rfl, hj, hm, HS, HF⟩ := hrel
        by_cases hlt : j < n
        · obtain ⟨⟨ux, uy, uz⟩, hu⟩ : ∃ u, us[j]? = some u := ⟨us[j]'(by rw [HN.out]; exact hlt), List.getElem?_eq_getElem _⟩
          have hmem := List.mem_of_getElem? hu
          obtain ⟨q0, q1, q2⟩ := triCells_get us j _ hu
          have c0 := (cell_same (i := j * 3) HS.out.sg).trans (own_cell HO3.out q0)
          have c1 := (cell_same (i := j * 3 + 1) HS.out.sg).trans (own_cell HO3.out q1)
          have c2 := (cell_same (i := j * 3 + 2) HS.out.sg).trans (own_cell HO3.out q2)
          have hnr := HNR.out _ hmem
          have hsg := HSG.out _ hmem
          obtain ⟨k, hk, hkx⟩ := HAT.out _ hmem
          have hlu := (HBD.out k (by omega)).1
          rw [← hkx] at hlu
          simp only at hnr hsg hlu c0 c1 c2
          have HU := Lib.hid hu
          have hj0 : (0 : Int) ≤ (j : Int) := by omega
          have hj1 : (j : Int) < (n : Int) := by omega
          clear hu hmem q0 q1 q2 hkx hk
          go_upto_region 6 with (fail)
          refine wp_at_world (F := fun W5 => WSt w w3 w1.heap.size g lx ly m D W5 ∧ W5.heap[wr.heap.size]? = some (upRow (ux, uy, uz))) ⟨HS.out.alloc _, heap_alloc_new _ _⟩ ?_
          rintro W5 ⟨hs5, hr5⟩
          have HS5 := Lib.hid hs5
          have HR5 := Lib.hid hr5
          have a0 := cell_of_row _ _ 0 _ _ _ hs5.rn
          clear hs5 hr5 c0 c1 c2
          go_wp2_with fail
          go_loopw [8] (fun xv wq => ∃ (X : Int) (i : Nat) (D2 : DataW Unit), xv = .int .i64 X ∧ lx ≤ X ∧ X ≤ ux ∧ (i : Int) ≤ 64 * (j : Int) + (X - lx) ∧ Hid (WSt w w3 w1.heap.size g lx ly i D2 wq) ∧ Hid (wq.heap[wr.heap.size]? = some (upRow (ux, uy, uz))) ∧ Hid (NumMap D2 (laidF (us.take j) lx (ux, uy, uz) X))) (fun xv _ => (ux - intOf xv).toNat)
          case atStart =>
            refine ⟨lx, m, D, rfl, Int.le_refl _, hlu, by omega, HS5, HR5, ?_⟩
            have e : laidF (us.take j) lx (ux, uy, uz) lx = fun x y => if lx ≤ x then Tw.wind (us.take j) x y else 0 := by
              funext x y
              unfold laidF
              rw [if_neg (fun h : y = uy ∧ lx ≤ x ∧ x < lx => by omega), Int.add_zero]
            show NumMap _ _
            rw [e]
            exact HF.out
          case round =>
            obtain ⟨X, i, D2, rfl, hX0, hX1, hi, HSQ, HRQ, HFQ⟩ := hrel
            have u0 := cell_of_row _ _ 0 _ _ _ HRQ.out
            have u1 := cell_of_row _ _ 1 _ _ _ HRQ.out
            have u2 := cell_of_row _ _ 2 _ _ _ HRQ.out
            by_cases hXu : X < ux
            · have hbound : -41 ≤ laidF (us.take j) lx (ux, uy, uz) X X uy ∧ laidF (us.take j) lx (ux, uy, uz) X X uy ≤ 41 := by
                have hw := Tw.wind_farther (us.take j) X uy (fun u hu => HSG.out u (List.mem_of_mem_take hu))
                have hl : (us.take j).length ≤ 40 := by rw [List.length_take]; omega
                unfold laidF
                repeat' split
                all_goals omega
              have hat := HFQ.out.1 (X, uy) (by unfold near; simp only; omega)
              simp only at hat
              obtain ⟨c, hc⟩ : ∃ c, laidF (us.take j) lx (ux, uy, uz) X X uy = c := ⟨_, rfl⟩
              rw [hc] at hat hbound
              have HCC := Lib.hid hc
              obtain ⟨st, v0, W1, e1, e2, e3, g1, est⟩ := entry_own twoKey twoLaw Tryz.underlying155 Tryz.underlying3 zero_int (HSQ.out.owns.drew) (by unfold maxLen; omega) (keyOf_two (X, uy) (by unfold near; simp only; omega)) hat
              obtain ⟨Wf, e4, ho, g2⟩ := est (c + uz) (WalkArith.wf_i64 (by omega))
              have hz : IntKind.i64.wrap (c + uz) = c + uz := IntWalk.i64_in _ (by omega)
              have HO := Lib.hid ho
              have HG2 := Lib.hid g2
              unfold placeVal at e1 e2 e3
              simp only at e1 e2 e3
              clear hc hat est ho g1 g2
              go_wp2_with fail
              go_region
              go_wp2
              go_roundw
              case rel =>
                refine ⟨X + 1, i + 1, _, rfl, by omega, by omega, by omega, HSQ.out.drew.grown HG2.out HO.out, ?_, ?_⟩
                · have hA := lt_of_heap HRQ.out
                  refine (HG2.out.block _ hA (fun e => ?_)).trans HRQ.out
                  have e2 := Option.some.inj e
                  have := HS.out.owns.lt
                  omega
                · have hp := HFQ.out.put HSQ.out.owns.isMap (q := (X, uy)) (by unfold near; simp only; omega) (c + uz)
                  have e : (fun x y => if x = (X, uy).1 ∧ y = (X, uy).2 then c + uz else laidF (us.take j) lx (ux, uy, uz) X x y) = laidF (us.take j) lx (ux, uy, uz) (X + 1) := by
                    funext x y
                    rw [← HCC.out]
                    show (if x = X ∧ y = uy then _ else _) = _
                    by_cases hxy : x = X ∧ y = uy
                    · rw [if_pos hxy, hxy.1, hxy.2]
                      unfold laidF
                      rw [if_neg (fun h : uy = uy ∧ lx ≤ X ∧ X < X => by omega), if_pos (show uy = uy ∧ lx ≤ X ∧ X < X + 1 from ⟨rfl, hX0, by omega⟩)]
                      simp
                    · rw [if_neg hxy]
                      have key : (if y = uy ∧ lx ≤ x ∧ x < X then uz else 0) = (if y = uy ∧ lx ≤ x ∧ x < X + 1 then uz else 0) := by
                        by_cases h1 : y = uy ∧ lx ≤ x ∧ x < X
                        · rw [if_pos h1, if_pos ⟨h1.1, h1.2.1, by omega⟩]
                        · rw [if_neg h1, if_neg (fun h2 : y = uy ∧ lx ≤ x ∧ x < X + 1 => h1 ⟨h2.1, h2.2.1, by
                            have : x ≠ X := fun e => hxy ⟨e, h2.1⟩
                            omega⟩)]
                      show (if lx ≤ x then Tw.wind (us.take j) x y else 0) + (if y = uy ∧ lx ≤ x ∧ x < X then uz else 0) = (if lx ≤ x then Tw.wind (us.take j) x y else 0) + (if y = uy ∧ lx ≤ x ∧ x < X + 1 then uz else 0)
                      rw [key]
                  rw [e] at hp
                  exact hp
              case measure => simp [intOf]; omega
            · obtain rfl : X = ux := by omega
              go_wp2_with fail
              go_roundw
              case rel =>
                refine ⟨j + 1, i, D2, by go_num, by omega, by omega, HSQ, ?_⟩
                have e : laidF (us.take j) lx (X, uy, uz) X = fun x y => if lx ≤ x then Tw.wind (us.take (j + 1)) x y else 0 := by
                  funext x y
                  unfold laidF
                  rw [List.take_add_one, HU.out, show (some (X, uy, uz)).toList = [(X, uy, uz)] from rfl, Tw.wind_append, Tw.wind_one]
                  unfold Tw.oneWind
                  simp only
                  repeat' split
                  all_goals omega
                show NumMap _ _
                rw [← e]
                exact HFQ.out
              case measure => simp [intOf]; omega
        · obtain rfl : j = n := by omega
          go_wp2
          go_ret
          have e : us.take j = us := List.take_of_length_le (by rw [HN.out]; exact Nat.le_refl _)
          have hf := HF.out
          rw [e] at hf
          refine ⟨lx, m, D, rfl, HS.out.owns, by rw [HUS.out]; exact hf, ?_, HS.out.below⟩
          rw [HUS.out]
          intro u hu
          obtain ⟨k, hk, hkx⟩ := HAT.out _ hu
          rw [hkx]
          exact (HBD.out k (by omega)).1

end Go.Proofs.YtccdfndnjjjgfaaGreatDoor

namespace Go.Proofs.YtccdfndnjjjgfaaGreatDoor
open Go.RowKit Go.Maps Go.WideMaps

set_option maxHeartbeats 800000 in
theorem withoutSign_any (n : Int) (h : -1000 ≤ n ∧ n ≤ 1000) (w : World) : Calls Tryz.prog 151 #[.int .i64 n] w fun e w' => e = .returned (.int .i64 (max n (-n))) ∧ w = w' := by
  go_enter Tryz.func151, Tryz.ntmps151
  go_wp2
  go_ret
  exact ⟨rfl, rfl⟩
set_option maxRecDepth 100000 in
set_option maxHeartbeats 3200000 in
theorem implMost (s : ByteArray) (w : World) (hs : s.size ≤ 1048576) (hw : DirsAt w) :
    Calls Tryz.prog 128 #[.string s] w fun e w' => e = .returned (.int .i64 (Tw.mostRes s.data.toList)) ∧ Below w.heap.size w w' := by
  have hc := implClosedOk s w hs hw
  cases hcl : Tw.closed s.data.toList
  · rw [hcl] at hc
    have HC := Lib.hid hc
    have HCL := Lib.hid hcl
    clear hc hcl
    go_enter Tryz.func128, Tryz.ntmps128
    go_wp2_with (first
      | (go_at_call 123; refine HC.out.mono ?_; rintro e w1 ⟨rfl, hb1⟩))
    go_ret
    exact ⟨by unfold Tw.mostRes; rw [HCL.out]; rfl, hb1⟩
  · rw [hcl] at hc
    have HC := Lib.hid hc
    have HCL := Lib.hid hcl
    have HWT := Lib.hid (fun x y => Tw.wind_farther (Tw.ups s.data.toList) x y Tw.ups_signs)
    have HUL : Hid ((Tw.ups s.data.toList).length ≤ 40) := by
      have h1 := Tw.ups_len s.data.toList (0, 0)
      have h2 := Tw.walkOk_len (Tw.closed_ok hcl)
      exact Nat.le_trans h1 h2
    have HWW : Hid (∀ lx x y, (∀ u ∈ Tw.ups s.data.toList, lx ≤ u.1) → x < lx → Tw.wind (Tw.ups s.data.toList) x y = 0) := fun lx x y h hx => Tw.wind_west hcl (fun u hu => by have := h u hu; omega)
    have HWO : Hid (∀ x y, x < -20 ∨ 20 ≤ x ∨ y < -20 ∨ 20 ≤ y → Tw.wind (Tw.ups s.data.toList) x y = 0) := fun x y h => Tw.wind_out hcl h
    clear hc hcl
    go_enter Tryz.func128, Tryz.ntmps128
    go_wp2_with (first
      | (go_at_call 123; refine HC.out.mono ?_; rintro e w1 ⟨rfl, hb1⟩)
      | (go_at_call 150; refine (windings_any s _ (hw.below' hb1) HCL.out).mono ?_; rintro e w2 ⟨lx, n, D, rfl, hown, hnum, hlx, hb2⟩)
      | (at_range; refine wpList_range_own _ rfl _ 155 rfl 129 3 twoLaw Tryz.underlying155 (plainElem (H := Unit) Tryz.prog 3) _ n D rfl hown ?_; intro w3 hrg0 hg0 hs0))
    go_frame
    obtain ⟨us, hus⟩ : ∃ us, Tw.ups s.data.toList = us := ⟨_, rfl⟩
    have HNUM : Hid (NumMap D (fun x y => if lx ≤ x then Tw.wind us x y else 0)) := by rw [← hus]; exact hnum
    have HLX : Hid (∀ u ∈ us, lx ≤ u.1) := by rw [← hus]; exact hlx
    have HUS := Lib.hid hus
    rw [hus] at HWT HUL HWW HWO
    have hb12 := hb1.trans (hb2.mono hb1.size)
    have HB3 : Hid (Below w.heap.size w w3) := hb12.grown hg0 hb12.size (fun j hj => by cases hj)
    have hr1 : w.heap.size ≤ w2.heap.size := hb12.size
    have hlt1 : w1.heap.size < w2.heap.size := hown.lt
    clear hus hnum hlx hb2 hown hg0 hs0 hb12
    go_loopw [3, 5] (fun m _ wr => ∃ (left : Lit → Bool) (cnt : Nat) (M : Int), m = .int .i64 M ∧ 0 ≤ M ∧ M ≤ 1000 ∧ wr.ranges Tryz.prog 129 (plainElem Tryz.prog 3) w1.heap.size w2.heap.size n D left cnt ∧ Hid (∀ p, near p → Maps.has D (placeKey p) = true → left (placeKey p) = false → (if lx ≤ p.1 then Tw.wind us p.1 p.2 else 0) ≤ M ∧ -(if lx ≤ p.1 then Tw.wind us p.1 p.2 else 0) ≤ M) ∧ Hid (M = 0 ∨ ∃ x y, Tw.wind us x y = M ∨ -Tw.wind us x y = M) ∧ Below w.heap.size w wr) (fun _ _ wr => wr.rangeLeft w1.heap.size w2.heap.size)
    case atStart => exact ⟨Maps.has D, Maps.size D, 0, rfl, by omega, by omega, hrg0, (fun p _ h1 h2 => by rw [h1] at h2; cases h2), .inl rfl, HB3.out⟩
    case round =>
      obtain ⟨left, cnt, M, rfl, hM0, hM1, hrg, HL, HM, hbr⟩ := hrel
      go_wp2_with (first
        | (at_next; refine wpList_next_ranges _ rfl _ rfl 129 twoLaw (plainElem (H := Unit) Tryz.prog 3) (fun v : Value => v) (fun c : Int => .int .i64 c) (fun key kl _ => ⟨key, rfl⟩) (fun v y h => by obtain ⟨a, rfl, _, _⟩ := plainElem_int_inv Tryz.underlying3 h; exact ⟨a, rfl⟩) w1.heap.size w2.heap.size n D left cnt rfl hrg ?_ ?_))
      · intro hc0 hl0
        go_wp2
        go_ret
        refine ⟨?_, hbr⟩
        have hmost : Tw.Most us M := by
          refine ⟨hM0, fun x y => ?_, HM.out⟩
          by_cases hxy : x < -20 ∨ 20 ≤ x ∨ y < -20 ∨ 20 ≤ y
          · rw [HWO.out x y hxy]
            omega
          · have hnear : near (x, y) := by unfold near; simp only; omega
            have hat := HNUM.out.1 (x, y) hnear
            simp only at hat
            by_cases hxl : lx ≤ x
            · by_cases hh : Maps.has D (placeKey (x, y)) = true
              · have := HL.out (x, y) hnear hh (hl0 _)
                simp only [if_pos hxl] at this
                exact this
              · rw [atKey_of_not_has (by simpa using hh), if_pos hxl] at hat
                have h0 : Tw.wind us x y = 0 := by simpa using hat.symm
                rw [h0]
                omega
            · rw [HWW.out lx x y HLX.out (by omega)]
              omega
        rw [Tw.mostRes_is HCL.out (by rw [HUS.out]; exact hmost)]
        rfl
      · intro x c kl y yp w4 cnt4 hkey hlk hv hat hrg4 hlt4 hg4 hs4 hen
        obtain ⟨a, hva, hz, hwf⟩ := plainElem_int_inv Tryz.underlying3 hv
        cases hva
        cases hz
        have hhas : Maps.has D kl = true := has_true_of_atKey hat
        obtain ⟨p, hp, rfl⟩ := HNUM.out.2 kl hhas
        have hval := HNUM.out.1 p hp
        rw [hat] at hval
        have hc : c = (if lx ≤ p.1 then Tw.wind us p.1 p.2 else 0) := by simpa using hval
        have hwt := HWT.out p.1 p.2
        have hul := HUL.out
        have hcb : -1000 ≤ c ∧ c ≤ 1000 := by
          rw [hc]
          split <;> omega
        have HC2 := Lib.hid hc
        have HRG := Lib.hid hrg4
        have HG4 := Lib.hid hg4
        clear hval hc hwt hat hv hkey hhas hrg4 hg4
        go_wp2_with (first
          | (go_at_call 151; refine (withoutSign_any _ hcb _).mono ?_; rintro e w5 ⟨rfl, rfl⟩))
        go_roundw
        case rel =>
          refine ⟨_, cnt4, max M (max c (-c)), rfl, by omega, by omega, HRG.out, ?_, ?_, hbr.grown HG4.out hbr.size (fun j hj => by cases hj; exact hr1)⟩
          · intro q hq h1 h2
            by_cases hqp : placeKey q = placeKey p
            · obtain rfl := placeKey_inj hq hp hqp
              rw [← HC2.out]
              omega
            · have h3 : left (placeKey q) = false := by
                have h4 : (placeKey q).sameKey (placeKey p) = false := sameKey_ne hqp
                rw [h4] at h2
                simpa using h2
              have := HL.out q hq h1 h3
              omega
          · show _ ∨ _
            rcases HM.out with hm | hm
            · by_cases hz : max c (-c) = 0
              · left
                omega
              · right
                have hcw : lx ≤ p.1 := by
                  by_cases h : lx ≤ p.1
                  · exact h
                  · have := HC2.out
                    rw [if_neg h] at this
                    omega
                have := HC2.out
                rw [if_pos hcw] at this
                exact ⟨p.1, p.2, by omega⟩
            · by_cases hz : max c (-c) ≤ M
              · right
                rw [Int.max_eq_left hz]
                exact hm
              · right
                have hcw : lx ≤ p.1 := by
                  by_cases h : lx ≤ p.1
                  · exact h
                  · have := HC2.out
                    rw [if_neg h] at this
                    omega
                have := HC2.out
                rw [if_pos hcw] at this
                exact ⟨p.1, p.2, by omega⟩
        case measure =>
          rw [HRG.out.left_eq, hrg.left_eq]
          omega

end Go.Proofs.YtccdfndnjjjgfaaGreatDoor

namespace Go.Proofs.YtccdfndnjjjgfaaGreatDoor
open Go.RowKit Go.Maps Go.WideMaps

namespace Tw
/-- How many steps are at a place on a height. -/
def oneAt (x y : Int) (u : Int × Int × Int) : Nat := if u.2.1 = y ∧ u.1 = x then 1 else 0
def atOf (us : List (Int × Int × Int)) (x y : Int) : Nat := (us.map (oneAt x y)).sum
theorem atOf_append (us vs : List (Int × Int × Int)) (x y : Int) : atOf (us ++ vs) x y = atOf us x y + atOf vs x y := by
  unfold atOf
  rw [List.map_append, List.sum_append]
theorem atOf_one (u : Int × Int × Int) (x y : Int) : atOf [u] x y = oneAt x y u := by simp [atOf]
theorem atOf_le : ∀ (us : List (Int × Int × Int)) (x y : Int), atOf us x y ≤ us.length
  | [], _, _ => Nat.le_refl _
  | u :: us, x, y => by
    have ih := atOf_le us x y
    have e : atOf (u :: us) x y = oneAt x y u + atOf us x y := by simp [atOf]
    rw [e, List.length_cons]
    unfold oneAt
    split <;> omega
theorem farther_step : ∀ (us : List (Int × Int × Int)) (x y : Int), farther us (x - 1) y = farther us x y + atOf us x y
  | [], _, _ => rfl
  | u :: us, x, y => by
    have ih := farther_step us x y
    have e1 : farther (u :: us) (x - 1) y = oneOdd (x - 1) y u + farther us (x - 1) y := by simp [farther]
    have e2 : farther (u :: us) x y = oneOdd x y u + farther us x y := by simp [farther]
    have e3 : atOf (u :: us) x y = oneAt x y u + atOf us x y := by simp [atOf]
    rw [e1, e2, e3, ih]
    unfold oneOdd oneAt
    repeat' split
    all_goals omega
end Tw

/-- The uprights as a slice. -/
def UpsAt (w : World) (v : Value) (us : List (Int × Int × Int)) : Prop := (v = .slice none 0 0 ∧ us = []) ∨ ∃ g cap, v = .slice (some ⟨g, 0, none⟩) us.length cap ∧ g < w.heap.size ∧ ∀ j u, us[j]? = some u → w.cell? ⟨g, j * 3, none⟩ = some (.int .i64 u.1) ∧ w.cell? ⟨g, j * 3 + 1, none⟩ = some (.int .i64 u.2.1) ∧ w.cell? ⟨g, j * 3 + 2, none⟩ = some (.int .i64 u.2.2)

/-- What a map of numbers by numbers holds. -/
def IntMap (D : DataW Unit) (F : Int → Int) : Prop := ∀ x, -1000 ≤ x ∧ x ≤ 1000 → D.atKey (.int .i64 x) (.lit (.int .i64 0)) = .lit (.int .i64 (F x))
theorem IntMap.put {D : DataW Unit} {F : Int → Int} (h : IntMap D F) (hD : IsMap D) (q c : Int) (hk : WideAt.IsKeyLit (.int .i64 q)) : IntMap (D.put (.int .i64 q) (.lit (.int .i64 c))) (fun x => if x = q then c else F x) := by
  intro x hx
  by_cases hxq : x = q
  · subst hxq
    rw [atKey_put_same hD hk]
    show _ = DataW.lit (Lit.int .i64 (if x = x then c else F x))
    rw [if_pos rfl]
  · rw [atKey_put_other (fun e => hxq (by cases e; rfl)), h x hx]
    show _ = DataW.lit (Lit.int .i64 (if x = q then c else F x))
    rw [if_neg hxq]
theorem intLaw : Keyed Tryz.prog 3 := int_keyed Tryz.underlying3
theorem World.heap_setCell_row {w : World} {B : Nat} {b : Bool} (h : w.heap[B]? = some (.cells #[.bool b] 4 (0, 0))) (c : Bool) : (w.setCell ⟨B, 0, none⟩ (.bool c)).heap[B]? = some (.cells #[.bool c] 4 (0, 0)) := by
  simp [World.setCell, Array.getElem?_modify, h]
def mapCell (M : Nat) : Obj := .cells #[.map (some M)] 182 (0, 0)
def boolCell (b : Bool) : Obj := .cells #[.bool b] 4 (0, 0)
/-- The memory of a scan. -/
structure Scan (base M A B : Nat) (n : Nat) (D : DataW Unit) (b : Bool) (W : World) : Prop where
  owns : W.ownsMap Tryz.prog 3 (plainElem Tryz.prog 3) M n D
  ra : W.heap[A]? = some (mapCell M)
  rb : W.heap[B]? = some (boolCell b)
  hm : base ≤ M
  ha : base ≤ A
  hb : base ≤ B
  ma : M ≠ A
  mb : M ≠ B
  ab : A ≠ B
theorem Scan.set {base M A B n : Nat} {D : DataW Unit} {b : Bool} {W : World} (h : Scan base M A B n D b W) (c : Bool) : Scan base M A B n D c (W.setCell ⟨B, 0, none⟩ (.bool c)) := by
  refine ⟨h.owns.setCell h.mb _, ?_, ?_, h.hm, h.ha, h.hb, h.ma, h.mb, h.ab⟩
  · rw [heap_setCell_other _ _ _ _ (fun e => h.ab (by simpa using e))]
    exact h.ra
  · have := World.heap_setCell_row h.rb c
    exact this
theorem Scan.grown {base M A B n : Nat} {D : DataW Unit} {b : Bool} {W : World} (_ : Scan base M A B n D b W) (c : Bool) : W.grownBy (W.setCell ⟨B, 0, none⟩ (.bool c)) (some B) :=
  ⟨rfl, rfl, rfl, by simp, fun i _ hi => heap_setCell_other _ _ _ _ (fun e => hi (by rw [e]))⟩
theorem Scan.kept {base M A B n : Nat} {D : DataW Unit} {b : Bool} {W W2 : World} {row : Option Nat} (h : Scan base M A B n D b W) (hg : W.grownBy W2 row) (hM : some M ≠ row) (hA : some A ≠ row) (hB : some B ≠ row) : Scan base M A B n D b W2 :=
  ⟨h.owns.kept hg hM, (hg.block _ (lt_of_heap h.ra) (fun e => hA e)).trans h.ra, (hg.block _ (lt_of_heap h.rb) (fun e => hB e)).trans h.rb, h.hm, h.ha, h.hb, h.ma, h.mb, h.ab⟩
set_option maxRecDepth 100000 in
set_option maxHeartbeats 3200000 in
theorem rowScan_any (v : Value) (us : List (Int × Int × Int)) (y : Int) (w : World) (h : UpsAt w v us) (hl : us.length ≤ 40) (hx : ∀ u ∈ us, -20 ≤ u.1 ∧ u.1 ≤ 20) :
    Calls Tryz.prog 169 #[v, .int .i64 y] w fun e w' => ∃ A B n D, e = .returned (.func (.func 180) #[] #[.pointer (some ⟨A, 0, none⟩), .pointer (some ⟨B, 0, none⟩)]) ∧ Scan w.heap.size w.heap.size A B n D false w' ∧ IntMap D (fun x => (Tw.atOf us x y : Int)) ∧ Below w.heap.size w w' := by
  have hmm := @run_makeMap Tryz.prog
  rcases h with ⟨rfl, rfl⟩ | ⟨g, cap, rfl, hg, hc⟩
  · go_enter Tryz.func169, Tryz.ntmps169
    go_wp2
    refine wp_loop_rounds 1 ?_
    rw [rounds_succ]
    go_wp2
    go_ret
    have hm := World.ownsMap_made (H := Unit) w Tryz.prog 3 (plainElem Tryz.prog 3)
    refine ⟨w.heap.size + 1, w.heap.size + 1 + 1, 0, .map [], rfl, ⟨(hm.alloc _).alloc _, ?_, ?_, Nat.le_refl _, by omega, by omega, by omega, by omega, by omega⟩, fun x _ => rfl, ?_⟩
    · exact heap_alloc_old' (by simpa [mapCell] using heap_alloc_new (w.alloc (.map #[] 0)) _)
    · simpa [boolCell] using heap_alloc_new ((w.alloc (.map #[] 0)).alloc (.cells #[.map (some w.heap.size)] 182)) (.cells #[.bool false] 4)
    · exact (((Below.refl _ _).alloc (Nat.le_refl _) _).alloc (by simp) _).alloc (by simp; omega) _
  · obtain ⟨n, hn⟩ : ∃ n, us.length = n := ⟨_, rfl⟩
    rw [hn] at hl ⊢
    have HN := Lib.hid hn
    have HC := Lib.hid hc
    have HX := Lib.hid hx
    clear hn hc hx
    go_enter Tryz.func169, Tryz.ntmps169
    go_wp2_with fail
    go_loopw [7, 12] (fun _ i wr => ∃ (j m : Nat) (D : DataW Unit), i = .int .i64 j ∧ j ≤ n ∧ m ≤ j ∧ wr.ownsMap Tryz.prog 3 (plainElem Tryz.prog 3) w.heap.size m D ∧ Hid (wr.heap[w.heap.size + 1]? = some (mapCell w.heap.size)) ∧ Hid (IntMap D (fun x => (Tw.atOf (us.take j) x y : Int))) ∧ Below w.heap.size w wr ∧ w.heap.size + 1 < wr.heap.size) (fun _ i _ => n - (intOf i).toNat)
    case atStart =>
      have hm := World.ownsMap_made (H := Unit) w Tryz.prog 3 (plainElem Tryz.prog 3)
      refine ⟨0, 0, .map [], rfl, Nat.zero_le _, Nat.le_refl _, hm.alloc _, ?_, fun x _ => rfl, ((Below.refl _ _).alloc (Nat.le_refl _) _).alloc (by simp) _, by simp⟩
      show _ = _
      simpa [mapCell] using heap_alloc_new (w.alloc (.map #[] 0)) (.cells #[.map (some w.heap.size)] 182)
    case round =>
      obtain ⟨j, m, D, rfl, hj, hm, hown, HRA, HF, hbr, hsz⟩ := hrel
      by_cases hlt : j < n
      · obtain ⟨⟨ux, uy, uz⟩, hu⟩ : ∃ u, us[j]? = some u := ⟨us[j]'(by rw [HN.out]; exact hlt), List.getElem?_eq_getElem _⟩
        obtain ⟨q0, q1, q2⟩ := HC.out j _ hu
        have c0 := (hbr.cell (p := ⟨g, j * 3, none⟩) hg).trans q0
        have c1 := (hbr.cell (p := ⟨g, j * 3 + 1, none⟩) hg).trans q1
        have c2 := (hbr.cell (p := ⟨g, j * 3 + 2, none⟩) hg).trans q2
        have hux := HX.out _ (List.mem_of_getElem? hu)
        simp only at hux c0 c1 c2
        have HU := Lib.hid hu
        have hj0 : (0 : Int) ≤ (j : Int) := by omega
        have hj1 : (j : Int) < (n : Int) := by omega
        clear hu q0 q1 q2
        by_cases hy : uy = y
        · have hb : (uy == y) = true := beq_iff_eq.2 hy
          have HY := Lib.hid hy
          have hle := Tw.atOf_le (us.take j) ux y
          rw [List.length_take] at hle
          have hat := HF.out ux (by omega)
          obtain ⟨c, hc⟩ : ∃ c, Tw.atOf (us.take j) ux y = c := ⟨_, rfl⟩
          simp only at hat
          rw [hc] at hle hat
          have HCC := Lib.hid hc
          have hwf : (Lit.int .i64 ux).wf = true := WalkArith.wf_i64 (by omega)
          have HKEY := Lib.hid (keyOf_int_mk (P := Tryz.prog) Tryz.underlying3 hwf)
          have HAT := Lib.hid hat
          have hc40 : c ≤ 40 := by omega
          clear hy hc hat hle hwf
          go_upto_region 6 with (fail)
          refine wp_at_world (F := fun W6 => W6.ownsMap Tryz.prog 3 (plainElem Tryz.prog 3) w.heap.size m D ∧ W6.heap[w.heap.size + 1]? = some (mapCell w.heap.size) ∧ W6.heap[wr.heap.size]? = some (upRow (ux, uy, uz)) ∧ Below w.heap.size w W6 ∧ w.heap.size + 1 < W6.heap.size) ⟨hown.alloc _, heap_alloc_old' HRA.out, heap_alloc_new _ _, hbr.alloc hbr.size _, by simp; omega⟩ ?_
          rintro W6 ⟨hown6, hra6, hru6, hb6, hs6⟩
          have a0 := cell_of_row _ _ 0 _ _ _ hra6
          have u0 := cell_of_row _ _ 0 _ _ _ hru6
          have HRA6 := Lib.hid hra6
          clear hown hbr hsz hru6 hra6 c0 c1 c2
          go_wp2_with (first
            | (at_lookup; refine wpList_lookup_own_int _ rfl _ _ 182 rfl 3 3 .i64 intLaw Tryz.underlying182 Tryz.underlying3 (zero_int _) w.heap.size m D rfl hown6 _ _ rfl HKEY.out ?_; intro c2 hat2 hwc2; obtain rfl : c2 = (c : Int) := by have h9 := HAT.out; rw [hat2] at h9; simpa using h9)
            | (at_mapUpdate; refine wpList_mapUpdate_own _ rfl _ _ _ 182 rfl 3 3 intLaw Tryz.underlying182 (plainElem (H := Unit) Tryz.prog 3) w.heap.size m D rfl hown6 (by unfold maxLen; omega) _ _ _ rfl rfl HKEY.out _ [] (plainElem_int Tryz.underlying3 (a := (c : Int) + 1) (WalkArith.wf_i64 (by omega))) ?_; intro w7 hown7 hgrow7))
          go_roundw
          case rel =>
            have hs7 := hgrow7.size
            refine ⟨j + 1, m + 1, _, by go_num, by omega, by omega, hown7, (hgrow7.block _ hs6 (fun e => by have := Option.some.inj e; omega)).trans HRA6.out, ?_, hb6.grown hgrow7 hb6.size (fun k hk => by cases hk; exact Nat.le_refl _), by omega⟩
            have hp := HF.out.put hown6.isMap ux ((c : Int) + 1) (intLaw.key HKEY.out)
            have e : (fun x => if x = ux then (c : Int) + 1 else (Tw.atOf (us.take j) x y : Int)) = fun x => (Tw.atOf (us.take (j + 1)) x y : Int) := by
              funext x
              rw [List.take_add_one, HU.out, show (some (ux, uy, uz)).toList = [(ux, uy, uz)] from rfl, Tw.atOf_append, Tw.atOf_one]
              unfold Tw.oneAt
              by_cases hxu : x = ux
              · subst hxu
                rw [if_pos rfl, if_pos ⟨HY.out, rfl⟩, HCC.out]
                omega
              · rw [if_neg hxu, if_neg (fun h => hxu h.2.symm)]
                rfl
            show IntMap _ _
            rw [← e]
            exact hp
          case measure => simp [intOf]; omega
        · have hb : (uy == y) = false := beq_false_of_ne hy
          have HY := Lib.hid hy
          clear hy
          go_wp2_with fail
          go_roundw
          case rel =>
            refine ⟨j + 1, m, D, by go_num, by omega, by omega, hown.alloc _, heap_alloc_old' HRA.out, ?_, hbr.alloc hbr.size _, by simp; omega⟩
            have e : (fun x => (Tw.atOf (us.take j) x y : Int)) = fun x => (Tw.atOf (us.take (j + 1)) x y : Int) := by
              funext x
              rw [List.take_add_one, HU.out, show (some (ux, uy, uz)).toList = [(ux, uy, uz)] from rfl, Tw.atOf_append, Tw.atOf_one]
              unfold Tw.oneAt
              rw [if_neg (fun h => HY.out h.1)]
              rfl
            show IntMap _ _
            rw [← e]
            exact HF.out
          case measure => simp [intOf]; omega
      · obtain rfl : j = n := by omega
        go_wp2
        go_ret
        have e : us.take j = us := List.take_of_length_le (by rw [HN.out]; exact Nat.le_refl _)
        have hf := HF.out
        rw [e] at hf
        exact ⟨w.heap.size + 1, wr.heap.size, m, D, rfl, ⟨hown.alloc _, heap_alloc_old' HRA.out, heap_alloc_new _ _, Nat.le_refl _, by omega, by omega, by omega, by omega, by omega⟩, hf, hbr.alloc hbr.size _⟩
set_option maxRecDepth 100000 in
set_option maxHeartbeats 3200000 in
theorem scan_any {base M A B n : Nat} {D : DataW Unit} {b : Bool} (x : Int) (c : Nat) (w : World) (h : Scan base M A B n D b w) (hx : -1000 ≤ x ∧ x ≤ 1000) (hc : c ≤ 1000) (hat : D.atKey (.int .i64 x) (.lit (.int .i64 0)) = .lit (.int .i64 (c : Int))) :
    Calls Tryz.prog 180 #[.int .i64 x, .pointer (some ⟨A, 0, none⟩), .pointer (some ⟨B, 0, none⟩)] w fun e w' => e = .returned (.bool (b ^^ (c % 2 == 1))) ∧ Scan base M A B n D (b ^^ (c % 2 == 1)) w' ∧ w.grownBy w' (some B) := by
  have a0 := cell_of_row _ _ 0 _ _ _ h.ra
  have b0 := cell_of_row _ _ 0 _ _ _ h.rb
  have f0 := frozen_of_row _ _ 0 _ _ h.rb
  have hwf : (Lit.int .i64 x).wf = true := WalkArith.wf_i64 (by omega)
  have HKEY := Lib.hid (keyOf_int_mk (P := Tryz.prog) Tryz.underlying3 hwf)
  have HAT := Lib.hid hat
  have HS := Lib.hid h
  obtain ⟨r, hr⟩ : ∃ r, c % 2 = r := ⟨_, rfl⟩
  have er : (c : Int).tmod 2 = (r : Int) := by rw [Int.tmod_eq_emod_of_nonneg (by omega)]; omega
  have er2 : (c : Int) % 2 = (r : Int) := by omega
  have hr2 : r = 0 ∨ r = 1 := by omega
  rw [hr]
  clear hat h hwf hr
  rcases hr2 with rfl | rfl
  · cases b
    all_goals
      go_enter Tryz.func180, Tryz.ntmps180
      go_wp2_with (first
        | (at_lookup; refine wpList_lookup_own_int _ rfl _ _ 182 rfl 3 3 .i64 intLaw Tryz.underlying182 Tryz.underlying3 (zero_int _) M n D rfl HS.out.owns _ _ rfl HKEY.out ?_; intro c2 hat2 hwc2; obtain rfl : c2 = (c : Int) := by have h9 := HAT.out; rw [hat2] at h9; simpa using h9))
      go_ret
      exact ⟨rfl, HS.out, World.grownBy.refl _ _⟩
  · cases b
    all_goals
      go_enter Tryz.func180, Tryz.ntmps180
      go_wp2_with (first
        | (at_lookup; refine wpList_lookup_own_int _ rfl _ _ 182 rfl 3 3 .i64 intLaw Tryz.underlying182 Tryz.underlying3 (zero_int _) M n D rfl HS.out.owns _ _ rfl HKEY.out ?_; intro c2 hat2 hwc2; obtain rfl : c2 = (c : Int) := by have h9 := HAT.out; rw [hat2] at h9; simpa using h9))
      go_ret
      exact ⟨rfl, HS.out.set _, HS.out.grown _⟩

end Go.Proofs.YtccdfndnjjjgfaaGreatDoor

namespace Go.Proofs.YtccdfndnjjjgfaaGreatDoor
open Go.RowKit

theorem before_end {l : List UInt8} {i : Nat} {p : Int × Int} (h : (Tw.placesTo l (l.length - 1))[i]? = some p) (h1 : 0 < l.length) : (Tw.places l)[i]? = some p := by
  have hi : i < (Tw.placesTo l (l.length - 1)).length := (List.getElem?_eq_some_iff.1 h).1
  rw [Tw.placesTo_length] at hi
  rw [Tw.placesTo_get? _ _ _ (by omega)] at h
  unfold Tw.places
  rw [Tw.placesTo_get? _ _ _ (by omega), h]
theorem simple_eq {l : List UInt8} (h : Tw.closed l = true) : Tw.simple l = Tw.noTwice (Tw.placesTo l (l.length - 1)) := by
  unfold Tw.simple
  rw [h, Bool.true_and]

theorem own_cap {w : World} {base g n cap m : Nat} {t : TypeId} {l : List Value} (h : w.ownsRow base t m (.slice (some ⟨g, 0, none⟩) n cap) n l) : n ≤ cap ∧ cap ≤ maxLen := by
  rcases h.2 with ⟨h, _⟩ | ⟨g1, c1, cur, he, _, _, hc, hm, _⟩
  · cases h
  · cases he
    exact ⟨hc, hm⟩

set_option maxHeartbeats 1600000 in
theorem implSimpleOk (s : ByteArray) (w : World) (hs : s.size ≤ 1048576) (hw : DirsAt w) :
    Calls Tryz.prog 124 #[.string s] w fun e w' => e = .returned (.bool (Tw.simple s.data.toList)) ∧ Below w.heap.size w w' := by
  cases hcl : Tw.closed s.data.toList
  · have hc := implClosedOk s w hs hw
    rw [hcl] at hc
    have HC := Lib.hid hc
    have HCL := Lib.hid hcl
    clear hc hcl
    go_enter Tryz.func124, Tryz.ntmps124
    go_wp2_with (first
      | (go_at_call 123; refine HC.out.mono ?_; rintro e w1 ⟨rfl, hb1⟩))
    go_ret
    exact ⟨ret_bool (Tw.simple_open HCL.out).symm, hb1⟩
  · have hc := implClosedOk s w hs hw
    rw [hcl] at hc
    have HC := Lib.hid hc
    have h1 := Tw.closed_len hcl
    have hok := Tw.closed_ok hcl
    have HOK := Lib.hid hok
    have h40 : s.size ≤ 40 := by have := Tw.walkOk_len hok; rwa [size_data] at this
    have hnear := places_near s.data.toList (by rw [size_data]; omega)
    have HPL := Lib.hid (Tw.places_length s.data.toList)
    have hsz := size_data s
    obtain ⟨b, hb⟩ : ∃ b, Tw.noTwice (Tw.placesTo s.data.toList (s.data.toList.length - 1)) = b := ⟨_, rfl⟩
    have HB := Lib.hid hb
    have HEQ := Lib.hid ((simple_eq hcl).trans hb)
    obtain ⟨ps, hps⟩ : ∃ ps, Tw.placesTo s.data.toList (s.data.toList.length - 1) = ps := ⟨_, rfl⟩
    have hpn : ps.length = s.size := by rw [← hps, Tw.placesTo_length]; omega
    have hpb : ∀ (i : Nat) (p : Int × Int), ps[i]? = some p → (Tw.places s.data.toList)[i]? = some p := by
      intro i p hp
      rw [← hps] at hp
      exact before_end hp h1
    have hpnear : ∀ p ∈ ps, near p := by
      intro p hp
      obtain ⟨i, hi, rfl⟩ := List.getElem_of_mem hp
      exact hnear _ (List.mem_of_getElem? (hpb i _ (List.getElem?_eq_getElem hi)))
    rw [hps] at hb
    have HNT := Lib.hid hb
    have HPB := Lib.hid hpb
    have hone : 1 ≤ s.size := by omega
    have HPN := Lib.hid hpn
    clear hb hps hcl hok hc h1 hpb hsz hpn
    go_enter Tryz.func124, Tryz.ntmps124
    go_wp2_with (first
      | (go_at_call 123; refine HC.out.mono ?_; rintro e w1 ⟨rfl, hb1⟩)
      | (go_at_call 147; refine (implPlacesOf _ _ (hw.below' hb1) HOK.out).mono ?_; rintro e w2 ⟨v, rfl, ⟨g, cap, rfl, hown⟩, hb2⟩; rw [HPL.out, size_data] at hown ⊢; have hcap := own_cap hown)
      | (go_at_call 148; refine (allDifferent_any _ g _ _ ps HPN.out (by omega) (by omega) hpnear (hown.lt g rfl).2 (fun i p hp => place_cells hown (HPB.out i p hp))).mono ?_; rintro e w3 ⟨rfl, hb3⟩))
    go_ret
    exact ⟨ret_bool (by rw [HEQ.out, HNT.out]), (hb1.trans (hb2.mono hb1.size)).trans (hb3.mono (hb1.trans (hb2.mono hb1.size)).size)⟩

end Go.Proofs.YtccdfndnjjjgfaaGreatDoor

namespace Go.Proofs.YtccdfndnjjjgfaaGreatDoor
open Go.RowKit Go.Maps Go.WideMaps

theorem odd_step (us : List (Int × Int × Int)) (X Y : Int) : ((Tw.odd1 us (X - 1) Y == 1) ^^ (Tw.atOf us X Y % 2 == 1)) = (Tw.odd1 us X Y == 1) := by
  have h := Tw.farther_step us X Y
  unfold Tw.odd1
  rw [h]
  rcases Nat.mod_two_eq_zero_or_one (Tw.farther us X Y) with h1 | h1 <;> rcases Nat.mod_two_eq_zero_or_one (Tw.atOf us X Y) with h2 | h2
  · rw [Nat.add_mod, h1, h2]; rfl
  · rw [Nat.add_mod, h1, h2]; rfl
  · rw [Nat.add_mod, h1, h2]; rfl
  · rw [Nat.add_mod, h1, h2]; rfl
theorem sumTo_at {a X : Int} {f : Int → Nat} (h : a ≤ X) : Tw.sumTo a (X + 1 - a).toNat f = Tw.sumTo a (X - a).toNat f + f X := by
  have e : (X + 1 - a).toNat = (X - a).toNat + 1 := by omega
  rw [e]
  show Tw.sumTo a (X - a).toNat f + f (a + ((X - a).toNat : Int)) = _
  rw [show a + ((X - a).toNat : Int) = X from by omega]

/-- The squares found up to a place: their number, and where they are. -/
def Found (D : DataW Unit) (m : Nat) (X Y : Int) : Prop := Maps.size D = m ∧ ∀ p, near p → Maps.has D (placeKey p) = true → p.2 < Y ∨ (p.2 = Y ∧ p.1 < X)
theorem Found.put {D : DataW Unit} {m : Nat} {X Y : Int} (h : Found D m X Y) (hT : Tidy D) (hn : near (X, Y)) : Found (D.put (placeKey (X, Y)) (.agg [])) (m + 1) (X + 1) Y := by
  obtain ⟨h1, h2⟩ := h
  have hno : Maps.has D (placeKey (X, Y)) = false := by
    rw [Bool.eq_false_iff]
    intro hh
    have := h2 (X, Y) hn hh
    simp only at this
    omega
  refine ⟨?_, fun p hp hh => ?_⟩
  · rw [size_put hT, hno, h1]
    rfl
  · by_cases hpq : placeKey p = placeKey (X, Y)
    · obtain rfl := placeKey_inj hp hn hpq
      exact .inr ⟨rfl, by show X < X + 1; omega⟩
    · rw [has_put_other hpq] at hh
      have := h2 p hp hh
      omega
theorem Found.skip {D : DataW Unit} {m : Nat} {X Y X2 : Int} (h : Found D m X Y) (hx : X ≤ X2) : Found D m X2 Y := ⟨h.1, fun p hp hh => by have := h.2 p hp hh; omega⟩
theorem Found.row {D : DataW Unit} {m : Nat} {X Y X2 : Int} (h : Found D m X Y) : Found D m X2 (Y + 1) := ⟨h.1, fun p hp hh => by have := h.2 p hp hh; omega⟩
/-- The memory of squaresWithin in its loops. -/
structure SSt (w w2 : World) (N : Nat) (v : Value) (us : List (Int × Int × Int)) (lx ly hx hy : Int) (n : Nat) (D : DataW Unit) (W : World) : Prop where
  owns : W.ownsMap Tryz.prog 130 (unitElem (H := Unit)) w.heap.size n D
  rl : W.heap[N]? = some (rowOf lx ly)
  rh : W.heap[N + 1]? = some (rowOf hx hy)
  ups : UpsAt W v us
  below : Below w.heap.size w W
  nm : w.heap.size < N
  lt : w2.heap.size ≤ W.heap.size
  nlt : N + 1 < w2.heap.size
theorem UpsAt.grown {W W2 : World} {v : Value} {us : List (Int × Int × Int)} {row : Option Nat} (h : UpsAt W v us) (hg : W.grownBy W2 row) (hr : ∀ g, v.ownBlock = some g → row ≠ some g) : UpsAt W2 v us := by
  rcases h with h | ⟨g, cap, rfl, hlt, hc⟩
  · exact .inl h
  · have e : W2.heap[g]? = W.heap[g]? := hg.block g hlt (fun e => hr g rfl e.symm)
    refine .inr ⟨g, cap, rfl, Nat.lt_of_lt_of_le hlt hg.size, fun j u hu => ?_⟩
    obtain ⟨a, b, c⟩ := hc j u hu
    exact ⟨(cell_same e).trans a, (cell_same e).trans b, (cell_same e).trans c⟩
theorem SSt.grown {w w2 W W2 : World} {N n : Nat} {v : Value} {us : List (Int × Int × Int)} {lx ly hx hy : Int} {D : DataW Unit} {row : Option Nat} (h : SSt w w2 N v us lx ly hx hy n D W) (hg : W.grownBy W2 row) (hr : ∀ b, row = some b → w2.heap.size ≤ b) (hv : ∀ g, v.ownBlock = some g → g < w2.heap.size) : SSt w w2 N v us lx ly hx hy n D W2 := by
  have hlt := h.lt
  have hn := h.nlt
  have hm := h.nm
  have ne : ∀ b, b < w2.heap.size → row ≠ some b := fun b hb e => by have := hr b e; omega
  exact ⟨h.owns.kept hg (fun e => ne w.heap.size (by omega) e.symm), (hg.block _ (by omega) (fun e => ne N (by omega) e.symm)).trans h.rl, (hg.block _ (by omega) (fun e => ne (N + 1) (by omega) e.symm)).trans h.rh, h.ups.grown hg (fun g hg1 => ne g (hv g hg1)), h.below.grown hg h.below.size (fun j hj => by have := hr j hj; omega), hm, Nat.le_trans hlt hg.size, hn⟩
theorem SSt.put {w w2 W W2 : World} {N n n2 : Nat} {v : Value} {us : List (Int × Int × Int)} {lx ly hx hy : Int} {D D2 : DataW Unit} (h : SSt w w2 N v us lx ly hx hy n D W) (hg : W.grownBy W2 (some w.heap.size)) (ho : W2.ownsMap Tryz.prog 130 (unitElem (H := Unit)) w.heap.size n2 D2) (hv : ∀ g, v.ownBlock = some g → w.heap.size < g) : SSt w w2 N v us lx ly hx hy n2 D2 W2 := by
  have hlt := h.lt
  have hn := h.nlt
  have hm := h.nm
  exact ⟨ho, (hg.block _ (by omega) (fun e => by have := Option.some.inj e; omega)).trans h.rl, (hg.block _ (by omega) (fun e => by have := Option.some.inj e; omega)).trans h.rh, h.ups.grown hg (fun g hg1 e => by have := Option.some.inj e; have := hv g hg1; omega), h.below.grown hg h.below.size (fun j hj => by cases hj; exact Nat.le_refl _), hm, Nat.le_trans hlt hg.size, hn⟩
theorem ups_any {W : World} {base : Nat} {v : Value} {us : List (Int × Int × Int)} (h : W.ownsRow base 154 3 v us.length (triCells us)) : UpsAt W v us := by
  rcases own_shape h with ⟨rfl, hn⟩ | ⟨g, cap, rfl⟩
  · exact .inl ⟨rfl, hn⟩
  · refine .inr ⟨g, cap, rfl, (h.lt g rfl).2, fun j u hu => ?_⟩
    obtain ⟨q0, q1, q2⟩ := triCells_get us j _ hu
    exact ⟨own_cell h q0, own_cell h q1, own_cell h q2⟩
set_option maxRecDepth 100000 in
set_option maxHeartbeats 3200000 in
theorem squares_any (s : ByteArray) (w : World) (hw : DirsAt w) (hcl : Tw.closed s.data.toList = true) :
    Calls Tryz.prog 152 #[.string s] w fun e w' => ∃ (n : Nat) (D : DataW Unit), e = .returned (.map (some w.heap.size)) ∧ w'.ownsMap Tryz.prog 130 (unitElem (H := Unit)) w.heap.size n D ∧ Maps.size D = Tw.inside s.data.toList ∧ Below w.heap.size w w' := by
  have HOK := Lib.hid (Tw.closed_ok hcl)
  have HCL := Lib.hid hcl
  have h40 : s.size ≤ 40 := by have := Tw.walkOk_len HOK.out; rwa [size_data] at this
  have hmm := @run_makeMap Tryz.prog
  have HMK : Hid (∀ W, W = w.alloc (.map #[] 0) → DirsAt W) := fun W h => h ▸ hw.below' ((Below.refl _ _).alloc (Nat.le_refl _) _)
  have HNR : Hid (∀ u ∈ Tw.ups s.data.toList, -20 ≤ u.1 ∧ u.1 ≤ 20 ∧ -20 ≤ u.2.1 ∧ u.2.1 ≤ 19) := fun u hu => Tw.ups_near hcl hu
  have HUL : Hid ((Tw.ups s.data.toList).length ≤ 40) := by have := Tw.ups_len s.data.toList (0, 0); rw [size_data] at this; exact Nat.le_trans this h40
  have HAT : Hid (∀ u ∈ Tw.ups s.data.toList, ∃ k, k + 1 ≤ s.size ∧ u.1 = (Tw.placeAt s.data.toList k).1 ∧ u.2.1 = min (Tw.placeAt s.data.toList k).2 (Tw.placeAt s.data.toList (k + 1)).2 ∧ (Tw.placeAt s.data.toList k).2 ≠ (Tw.placeAt s.data.toList (k + 1)).2) := fun u hu => by
    obtain ⟨k, hk, h1, h2, h3, h4, h5⟩ := Tw.ups_at hu
    rw [size_data] at hk
    exact ⟨k, by omega, h1, h3, by omega⟩
  have HBX := Lib.hid (fun lx ly nx ny => Tw.inside_box hcl (lx := lx) (ly := ly) (nx := nx) (ny := ny))
  have HWW : Hid (∀ lx x y, (∀ u ∈ Tw.ups s.data.toList, lx ≤ u.1) → x < lx → Tw.odd1 (Tw.ups s.data.toList) x y = 0) := fun lx x y h hx => Tw.odd_wind _ (Tw.wind_west hcl (fun u hu => by have := h u hu; omega))
  obtain ⟨us, hus⟩ : ∃ us, Tw.ups s.data.toList = us := ⟨_, rfl⟩
  have HUS := Lib.hid hus
  rw [hus] at HNR HUL HAT HBX HWW
  clear hw hcl hus
  go_enter Tryz.func152, Tryz.ntmps152
  go_upto_region 4 with (first
    | (go_at_call 149; refine (uprights_all s _ (HMK.out _ rfl) HOK.out).mono ?_; rintro e w1 ⟨v, rfl, hown1, hb1⟩; rw [HUS.out] at hown1)
    | (go_at_call 168; refine (bounds_any s _ ((HMK.out _ rfl).below' hb1) HCL.out).mono ?_; rintro e w3 ⟨lx, ly, hx, hy, rfl, hin, hbd, hb3⟩))
  have hs1 := hb1.size
  have hs3 := hb3.size
  rw [World.size_alloc] at hs1
  have hvb : ∀ g, v.ownBlock = some g → w.heap.size + 1 < g ∧ g < w1.heap.size := fun g hg => by
    have := hown1.lt g hg
    rw [World.size_alloc] at this
    omega
  refine wp_at_world (F := fun W4 => SSt w W4 w3.heap.size v us lx ly hx hy 0 (.map []) W4) ?_ ?_
  · have hm := World.ownsMap_made (H := Unit) w Tryz.prog 130 (unitElem (H := Unit))
    have hm1 := (hm.kept (grown_of_below hb1 none) (by simp)).kept (grown_of_below hb3 none) (by simp)
    have hbw1 : Below w.heap.size w w1 := ((Below.refl w.heap.size w).alloc (Nat.le_refl _) _).trans (hb1.mono (by simp))
    have hbw3 := hbw1.trans (hb3.mono hbw1.size)
    have hu3 : UpsAt w3 v us := ups_any (own_below hown1 hb3)
    refine ⟨(hm1.alloc _).alloc _, heap_alloc_old' (heap_alloc_new _ _), ?_, ?_, (hbw3.alloc hbw3.size _).alloc (by simp; omega) _, by omega, Nat.le_refl _, by simp⟩
    · simpa [rowOf] using heap_alloc_new (w3.alloc (.cells #[.int .i64 lx, .int .i64 ly] 130)) (.cells #[.int .i64 hx, .int .i64 hy] 130)
    · have g1 := hu3.grown (World.grownBy_alloc w3 (.cells #[.int .i64 lx, .int .i64 ly] 130) none) (by simp)
      exact g1.grown (World.grownBy_alloc _ _ none) (by simp)
  · intro w2 hst0
    have hw2 := hst0.nlt
    have HV : Hid (∀ g, v.ownBlock = some g → w.heap.size < g ∧ g < w2.heap.size) := fun g hg => by have := hvb g hg; omega
    have HS0 := Lib.hid hst0
    have r0 := cell_of_row _ _ 1 _ _ _ hst0.rl
    have HIN := Lib.hid hin
    have HBD := Lib.hid hbd
    have hin2 := hin
    unfold within20 at hin2
    have hw0 : w.heap.size < w2.heap.size := by omega
    clear hst0 hin hbd hb1 hb3 hown1 hs1 hs3 hvb
    go_wp2_with fail
    go_loopw [7, 8, 9] (fun yv _ _ wr => ∃ (Y : Int) (n m : Nat) (D : DataW Unit), yv = .int .i64 Y ∧ ly ≤ Y ∧ Y ≤ hy ∧ (n : Int) ≤ 64 * (Y - ly) ∧ Hid (SSt w w2 w3.heap.size v us lx ly hx hy n D wr) ∧ Hid (Found D m lx Y) ∧ Hid (m = Tw.sumTo ly (Y - ly).toNat (fun y => Tw.sumTo lx (hx - lx).toNat (fun x => Tw.odd1 us x y)))) (fun yv _ _ _ => (hy - intOf yv).toNat)
    case atStart => exact ⟨ly, 0, 0, .map [], rfl, Int.le_refl _, by omega, by omega, HS0, ⟨rfl, fun p _ h => by cases h⟩, by show _ = _; rw [Int.sub_self]; rfl⟩
    case round =>
      obtain ⟨Y, n, m, D, rfl, hY0, hY1, hn, HS, HF, HM⟩ := hrel
      have a0 := cell_of_row _ _ 1 _ _ _ HS.out.rh
      by_cases hlt : Y < hy
      · have hrs := rowScan_any v us Y wr HS.out.ups HUL.out (fun u hu => ⟨(HNR.out u hu).1, (HNR.out u hu).2.1⟩)
        have HRS := Lib.hid hrs
        have hrb := HS.out.lt
        clear hrs
        go_wp2_with (first
          | (go_at_call 169; refine HRS.out.mono ?_; rintro e w5 ⟨A, B, k, D5, rfl, hscan, him, hb5⟩; have hst5 := HS.out.grown (grown_of_below hb5 none) (fun b h => by cases h) (fun g hg => (HV.out g hg).2); have e0 := cell_of_row _ _ 0 _ _ _ hst5.rl))
        have HS5 := Lib.hid hst5
        have HSC := Lib.hid hscan
        have HIM := Lib.hid him
        clear hst5 hscan him hb5 e0
        go_loopw [9] (fun xv wq => ∃ (X : Int) (n2 m2 : Nat) (D2 : DataW Unit), xv = .int .i64 X ∧ lx ≤ X ∧ X ≤ hx ∧ (n2 : Int) ≤ 64 * (Y - ly) + (X - lx) ∧ Hid (SSt w w2 w3.heap.size v us lx ly hx hy n2 D2 wq) ∧ Hid (Scan wr.heap.size wr.heap.size A B k D5 (Tw.odd1 us (X - 1) Y == 1) wq) ∧ Hid (Found D2 m2 X Y) ∧ Hid (m2 = m + Tw.sumTo lx (X - lx).toNat (fun x => Tw.odd1 us x Y))) (fun xv _ => (hx - intOf xv).toNat)
        case atStart =>
          refine ⟨lx, n, m, D, rfl, Int.le_refl _, by omega, by omega, HS5, ?_, HF, by show _ = _; rw [Int.sub_self]; rfl⟩
          have h0 : Tw.odd1 us (lx - 1) Y = 0 := HWW.out lx (lx - 1) Y (fun u hu => by
            obtain ⟨k, hk, h1, _⟩ := HAT.out u hu
            rw [h1]
            exact (HBD.out k (by omega)).1) (by omega)
          show Scan _ _ _ _ _ _ _ _
          rw [h0]
          exact HSC.out
        case round =>
          obtain ⟨X, n2, m2, D2, rfl, hX0, hX1, hn2, HS2, HQ, HF2, HM2⟩ := hrel
          have c0 := cell_of_row _ _ 0 _ _ _ HS2.out.rh
          by_cases hltx : X < hx
          · have hle := Tw.atOf_le us X Y
            have hul := HUL.out
            have hsc := scan_any X (Tw.atOf us X Y) _ HQ.out (by omega) (by omega) (HIM.out X (by omega))
            rw [odd_step] at hsc
            have hX0' : -1000 ≤ X ∧ X ≤ 1000 := ⟨by omega, by omega⟩
            have hnr : near (X, Y) := by unfold near; simp only; omega
            have HKEY := Lib.hid (keyOf_place (X, Y) hnr)
            have HNEAR := Lib.hid hnr
            have hsu := sumTo_at (a := lx) (X := X) (f := fun x => Tw.odd1 us x Y) hX0
            have e1 : Tw.odd1 us (X + 1 - 1) Y = Tw.odd1 us X Y := by rw [Int.add_sub_cancel]
            obtain ⟨o, ho⟩ : ∃ o, Tw.odd1 us X Y = o := ⟨_, rfl⟩
            have ho2 : o = 0 ∨ o = 1 := by rw [← ho]; show Tw.farther _ _ _ % 2 = 0 ∨ Tw.farther _ _ _ % 2 = 1; omega
            rw [ho] at hsc hsu e1
            have HSU := Lib.hid hsu
            have HE1 := Lib.hid e1
            have HSA := Lib.hid hsc
            have hwB : w2.heap.size ≤ B := Nat.le_trans hrb HQ.out.hb
            clear hsc hnr hsu e1 ho hle hul
            rcases ho2 with rfl | rfl
            · go_wp2_with (first
                | (go_at_call 180; refine HSA.out.mono ?_; rintro e w6 ⟨rfl, hsc6, hg6⟩))
              go_roundw
              case rel =>
                refine ⟨X + 1, n2, m2, D2, rfl, by omega, by omega, by omega, HS2.out.grown hg6 (fun b h => by cases h; exact hwB) (fun g hg => (HV.out g hg).2), ?_, HF2.out.skip (by omega), ?_⟩
                · show Scan _ _ _ _ _ _ _ _
                  rw [HE1.out]
                  exact hsc6
                · show _ = _
                  rw [HM2.out, HSU.out, Nat.add_zero]
              case measure => simp [intOf]; omega
            · go_wp2_with (first
                | (go_at_call 180; refine HSA.out.mono ?_; rintro e w6 ⟨rfl, hsc6, hg6⟩; have hs6 := HS2.out.grown hg6 (fun b h => by cases h; exact hwB) (fun g hg => (HV.out g hg).2))
                | (at_mapUpdate; refine wpList_mapUpdate_own _ rfl _ _ _ 157 rfl 130 170 placeLaw Tryz.underlying157 (unitElem (H := Unit)) w.heap.size n2 D2 rfl hs6.owns (by unfold maxLen; omega) _ _ _ rfl rfl HKEY.out _ [] unitElem_mk ?_; intro w7 hown7 hgrow7))
              go_roundw
              case rel =>
                have hM := HQ.out.hm
                have hA := HQ.out.ha
                refine ⟨X + 1, n2 + 1, m2 + 1, _, rfl, by omega, by omega, by omega, hs6.put hgrow7 hown7 (fun g hg => (HV.out g hg).1), ?_, HF2.out.put (hs6.owns.tidy placeLaw) HNEAR.out, ?_⟩
                · show Scan _ _ _ _ _ _ _ _
                  rw [HE1.out]
                  exact hsc6.kept hgrow7 (fun e => by have := Option.some.inj e; omega) (fun e => by have := Option.some.inj e; omega) (fun e => by have := Option.some.inj e; omega)
                · show _ = _
                  rw [HM2.out, HSU.out, ← Nat.add_assoc]
              case measure => simp [intOf]; omega
          · obtain rfl : X = hx := by omega
            go_wp2_with fail
            go_roundw
            case rel =>
              refine ⟨Y + 1, n2, m2, D2, rfl, by omega, by omega, by omega, HS2, HF2.out.row, ?_⟩
              show _ = _
              rw [sumTo_at hY0, HM2.out, HM.out]
            case measure => simp [intOf]; omega
      · obtain rfl : Y = hy := by omega
        go_wp2
        go_ret
        refine ⟨rfl, n, D, HS.out.owns, ?_, HS.out.below⟩
        rw [HF.out.1, HM.out, HBX.out lx ly (hx - lx).toNat (Y - ly).toNat (by omega) (by omega) (fun u hu => ?_)]
        obtain ⟨k, hk, h1, h2, h3⟩ := HAT.out u hu
        have b1 := HBD.out k (by omega)
        have b2 := HBD.out (k + 1) (by omega)
        omega
set_option maxRecDepth 100000 in
set_option maxHeartbeats 1600000 in
theorem implSquares (s : ByteArray) (w : World) (hs : s.size ≤ 1048576) (hw : DirsAt w) :
    Calls Tryz.prog 129 #[.string s] w fun e w' => e = .returned (.int .i64 (Tw.squaresRes s.data.toList)) ∧ Below w.heap.size w w' := by
  have hc := implSimpleOk s w hs hw
  cases hsm : Tw.simple s.data.toList
  · rw [hsm] at hc
    have HC := Lib.hid hc
    have HSM := Lib.hid hsm
    clear hc hsm
    go_enter Tryz.func129, Tryz.ntmps129
    go_wp2_with (first
      | (go_at_call 124; refine HC.out.mono ?_; rintro e w1 ⟨rfl, hb1⟩))
    go_ret
    exact ⟨by unfold Tw.squaresRes; rw [HSM.out]; rfl, hb1⟩
  · rw [hsm] at hc
    have HC := Lib.hid hc
    have hcl : Tw.closed s.data.toList = true := by unfold Tw.simple at hsm; simp at hsm; exact hsm.1
    have HCL := Lib.hid hcl
    have HSR : Hid (Tw.squaresRes s.data.toList = (Tw.inside s.data.toList : Int)) := by show _ = _; unfold Tw.squaresRes; rw [if_pos hsm]
    clear hc hsm hcl
    go_enter Tryz.func129, Tryz.ntmps129
    go_wp2_with (first
      | (go_at_call 124; refine HC.out.mono ?_; rintro e w1 ⟨rfl, hb1⟩)
      | (go_at_call 152; refine (squares_any s _ (hw.below' hb1) HCL.out).mono ?_; rintro e w2 ⟨n, D, rfl, hown, hsz, hb2⟩; have HSZ := Lib.hid hsz; clear hsz)
      | (at_len; refine wpList_len_own _ rfl _ 157 rfl 130 170 Tryz.underlying157 _ w1.heap.size n _ rfl hown ?_))
    go_ret
    refine ⟨?_, hb1.trans (hb2.mono hb1.size)⟩
    rw [HSR.out, ← HSZ.out]
    rfl

end Go.Proofs.YtccdfndnjjjgfaaGreatDoor

namespace Go.Proofs.YtccdfndnjjjgfaaGreatDoor
open Go.RowKit

/-- An answer. -/
def AskOut (s : ByteArray) (k : Nat) (w : World) (e : Ending) (w' : World) : Prop := e = .returned (.string (askText k s)) ∧ Below w.heap.size w w'
theorem ask_done {s : ByteArray} {k : Nat} {w w' : World} {x : ByteArray} (h : askText k s = x) (hb : Below w.heap.size w w') : AskOut s k w (.returned (.string x)) w' := ⟨by rw [h], hb⟩
theorem geq_dec {n : Int} {b : Bool} (h : 0 ≤ n ↔ b = true) : decide (0 ≤ n) = b := by
  cases b
  · exact decide_eq_false fun h1 => by have := h.1 h1; cases this
  · exact decide_eq_true (h.2 rfl)

def askBox (w : World) (s : ByteArray) (a : Option Addr) (L c : Nat) : World := w.alloc (.cells #[.string s, .slice a L c] 27)
theorem askBox_in (w : World) (s : ByteArray) (a : Option Addr) (L c : Nat) : Below w.heap.size w (askBox w s a L c) ∧ (askBox w s a L c).cell? ⟨w.heap.size, 0, none⟩ = some (.string s) := by
  unfold askBox
  exact ⟨(Below.refl _ _).alloc (Nat.le_refl _) _, cell_of_row _ _ 0 _ _ _ (heap_alloc_new w _)⟩
set_option maxRecDepth 100000 in
set_option maxHeartbeats 800000 in
theorem sayWalk_any (s : ByteArray) (a : Option Addr) (L c : Nat) (w : World) (hok : Tw.walkOk s.data.toList = true) (hw : DirsAt w) (hp : PowAt w) :
    Calls Tryz.prog 88 #[.agg #[.string s, .slice a L c]] w (AskOut s 0 w) := by
  have h40 : s.size ≤ 40 := by have := Tw.walkOk_len hok; rwa [size_data] at this
  have hs : s.size ≤ 1048576 := by omega
  obtain ⟨b0, c0⟩ := askBox_in w s a L c
  obtain ⟨W, hW⟩ : ∃ W, askBox w s a L c = W := ⟨_, rfl⟩
  rw [hW] at b0 c0
  unfold askBox at hW
  have HW := Lib.hid hW
  have HD := Lib.hid (hw.below' b0)
  have HP := Lib.hid (hp.below' b0)
  have B0 := Lib.hid b0
  have HT : Hid (askText 0 s = ⟨#[58]⟩ ++ s) := rfl
  have f1 : ¬ 9223372036854775807 < 1 + s.size := by omega
  clear hW b0 hw hp hs hok
  go_enter Tryz.func88, Tryz.ntmps88
  go_wp2_with fail
  rw [HW.out]
  go_wp2
  go_ret
  exact ask_done HT.out B0.out
set_option maxRecDepth 100000 in
set_option maxHeartbeats 800000 in
theorem sayEnd_any (s : ByteArray) (a : Option Addr) (L c : Nat) (w : World) (hok : Tw.walkOk s.data.toList = true) (hw : DirsAt w) (hp : PowAt w) :
    Calls Tryz.prog 89 #[.agg #[.string s, .slice a L c]] w (AskOut s 1 w) := by
  have h40 : s.size ≤ 40 := by have := Tw.walkOk_len hok; rwa [size_data] at this
  have hs : s.size ≤ 1048576 := by omega
  obtain ⟨b0, c0⟩ := askBox_in w s a L c
  obtain ⟨W, hW⟩ : ∃ W, askBox w s a L c = W := ⟨_, rfl⟩
  rw [hW] at b0 c0
  unfold askBox at hW
  have HW := Lib.hid hW
  have HD := Lib.hid (hw.below' b0)
  have HP := Lib.hid (hp.below' b0)
  have B0 := Lib.hid b0
  have hb := end_bound hok
  have he := implEndOf s W HD.out hok
  obtain ⟨x, hx⟩ : ∃ x, (Tw.endOf s.data.toList).1 = x := ⟨_, rfl⟩
  obtain ⟨y, hy⟩ : ∃ y, (Tw.endOf s.data.toList).2 = y := ⟨_, rfl⟩
  have HT : Hid (askText 1 s = pairText x y) := by show _ = _; rw [← hx, ← hy]; rfl
  rw [hx, hy] at hb he
  have HE := Lib.hid he
  have HPT := Lib.hid (pairText_any x y (by omega) (by omega) (by omega) (by omega))
  clear he hx hy hb
  clear hW b0 hw hp hs hok
  go_enter Tryz.func89, Tryz.ntmps89
  go_wp2_with fail
  rw [HW.out]
  go_wp2_with (first
    | (have hq := k0; go_at_call 100; refine (HPT.out _ (HP.out.below' (hb1.alloc hb1.size _))).mono ?_; rintro e w2 ⟨rfl, hb2⟩)
    | (go_at_call 121; refine HE.out.mono ?_; rintro e w1 ⟨rfl, hb1⟩; have k0 := cell_of_row _ _ 0 _ _ _ (heap_alloc_new w1 (.cells #[.int .i64 x, .int .i64 y] 130)); have k1 := cell_of_row _ _ 1 _ _ _ (heap_alloc_new w1 (.cells #[.int .i64 x, .int .i64 y] 130))))
  go_ret
  have hb3 := hb1.alloc hb1.size (.cells #[.int .i64 x, .int .i64 y] 130)
  exact ask_done HT.out (B0.out.trans ((hb3.trans (hb2.mono hb3.size)).mono B0.out.size))
set_option maxRecDepth 100000 in
set_option maxHeartbeats 800000 in
theorem sayClosed_any (s : ByteArray) (a : Option Addr) (L c : Nat) (w : World) (hok : Tw.walkOk s.data.toList = true) (hw : DirsAt w) (hp : PowAt w) :
    Calls Tryz.prog 90 #[.agg #[.string s, .slice a L c]] w (AskOut s 2 w) := by
  have h40 : s.size ≤ 40 := by have := Tw.walkOk_len hok; rwa [size_data] at this
  have hs : s.size ≤ 1048576 := by omega
  obtain ⟨b0, c0⟩ := askBox_in w s a L c
  obtain ⟨W, hW⟩ : ∃ W, askBox w s a L c = W := ⟨_, rfl⟩
  rw [hW] at b0 c0
  unfold askBox at hW
  have HW := Lib.hid hW
  have HD := Lib.hid (hw.below' b0)
  have HP := Lib.hid (hp.below' b0)
  have B0 := Lib.hid b0
  have hc := implClosedOk s W hs HD.out
  obtain ⟨b, hb⟩ : ∃ b, Tw.closed s.data.toList = b := ⟨_, rfl⟩
  have HT : Hid (askText 2 s = yesText b) := by show _ = _; rw [← hb]; rfl
  rw [hb] at hc
  have HC := Lib.hid hc
  have HY := Lib.hid (yesOrNo_any b)
  clear hc hb
  clear hW b0 hw hp hs hok
  go_enter Tryz.func90, Tryz.ntmps90
  go_wp2_with fail
  rw [HW.out]
  go_wp2_with (first
    | (go_at_call 122; refine (HY.out _).mono ?_; rintro e w2 ⟨rfl, rfl⟩)
    | (go_at_call 123; refine HC.out.mono ?_; rintro e w1 ⟨rfl, hb1⟩))
  go_ret
  exact ask_done HT.out (B0.out.trans (hb1.mono B0.out.size))
set_option maxRecDepth 100000 in
set_option maxHeartbeats 800000 in
theorem saySimple_any (s : ByteArray) (a : Option Addr) (L c : Nat) (w : World) (hok : Tw.walkOk s.data.toList = true) (hw : DirsAt w) (hp : PowAt w) :
    Calls Tryz.prog 91 #[.agg #[.string s, .slice a L c]] w (AskOut s 3 w) := by
  have h40 : s.size ≤ 40 := by have := Tw.walkOk_len hok; rwa [size_data] at this
  have hs : s.size ≤ 1048576 := by omega
  obtain ⟨b0, c0⟩ := askBox_in w s a L c
  obtain ⟨W, hW⟩ : ∃ W, askBox w s a L c = W := ⟨_, rfl⟩
  rw [hW] at b0 c0
  unfold askBox at hW
  have HW := Lib.hid hW
  have HD := Lib.hid (hw.below' b0)
  have HP := Lib.hid (hp.below' b0)
  have B0 := Lib.hid b0
  have hc := implSimpleOk s W hs HD.out
  obtain ⟨b, hb⟩ : ∃ b, Tw.simple s.data.toList = b := ⟨_, rfl⟩
  have HT : Hid (askText 3 s = yesText b) := by show _ = _; rw [← hb]; rfl
  rw [hb] at hc
  have HC := Lib.hid hc
  have HY := Lib.hid (yesOrNo_any b)
  clear hc hb
  clear hW b0 hw hp hs hok
  go_enter Tryz.func91, Tryz.ntmps91
  go_wp2_with fail
  rw [HW.out]
  go_wp2_with (first
    | (go_at_call 122; refine (HY.out _).mono ?_; rintro e w2 ⟨rfl, rfl⟩)
    | (go_at_call 124; refine HC.out.mono ?_; rintro e w1 ⟨rfl, hb1⟩))
  go_ret
  exact ask_done HT.out (B0.out.trans (hb1.mono B0.out.size))
set_option maxRecDepth 100000 in
set_option maxHeartbeats 800000 in
theorem sayAvoids_any (s : ByteArray) (a : Option Addr) (L c : Nat) (w : World) (hok : Tw.walkOk s.data.toList = true) (hw : DirsAt w) (hp : PowAt w) :
    Calls Tryz.prog 92 #[.agg #[.string s, .slice a L c]] w (AskOut s 4 w) := by
  have h40 : s.size ≤ 40 := by have := Tw.walkOk_len hok; rwa [size_data] at this
  have hs : s.size ≤ 1048576 := by omega
  obtain ⟨b0, c0⟩ := askBox_in w s a L c
  obtain ⟨W, hW⟩ : ∃ W, askBox w s a L c = W := ⟨_, rfl⟩
  rw [hW] at b0 c0
  unfold askBox at hW
  have HW := Lib.hid hW
  have HD := Lib.hid (hw.below' b0)
  have HP := Lib.hid (hp.below' b0)
  have B0 := Lib.hid b0
  have hc := implAvoidsOk s W hs HD.out
  obtain ⟨b, hb⟩ : ∃ b, Tw.avoids s.data.toList = b := ⟨_, rfl⟩
  have HT : Hid (askText 4 s = yesText b) := by show _ = _; rw [← hb]; rfl
  rw [hb] at hc
  have HC := Lib.hid hc
  have HY := Lib.hid (yesOrNo_any b)
  clear hc hb
  clear hW b0 hw hp hs hok
  go_enter Tryz.func92, Tryz.ntmps92
  go_wp2_with fail
  rw [HW.out]
  go_wp2_with (first
    | (go_at_call 122; refine (HY.out _).mono ?_; rintro e w2 ⟨rfl, rfl⟩)
    | (go_at_call 125; refine HC.out.mono ?_; rintro e w1 ⟨rfl, hb1⟩))
  go_ret
  exact ask_done HT.out (B0.out.trans (hb1.mono B0.out.size))
set_option maxRecDepth 100000 in
set_option maxHeartbeats 800000 in
theorem sayTurning_any (s : ByteArray) (a : Option Addr) (L c : Nat) (w : World) (hok : Tw.walkOk s.data.toList = true) (hw : DirsAt w) (hp : PowAt w) :
    Calls Tryz.prog 93 #[.agg #[.string s, .slice a L c]] w (AskOut s 5 w) := by
  have h40 : s.size ≤ 40 := by have := Tw.walkOk_len hok; rwa [size_data] at this
  have hs : s.size ≤ 1048576 := by omega
  obtain ⟨b0, c0⟩ := askBox_in w s a L c
  obtain ⟨W, hW⟩ : ∃ W, askBox w s a L c = W := ⟨_, rfl⟩
  rw [hW] at b0 c0
  unfold askBox at hW
  have HW := Lib.hid hW
  have HD := Lib.hid (hw.below' b0)
  have HP := Lib.hid (hp.below' b0)
  have B0 := Lib.hid b0
  have hc := implTurningOf s W hs HD.out
  have hn := turn_bound s.data.toList (by rw [size_data]; exact hs)
  obtain ⟨n, hnn⟩ : ∃ n, (if Tw.closed s.data.toList then turningOf s.data.toList else 0) = n := ⟨_, rfl⟩
  obtain ⟨b, hb⟩ : ∃ b, Tw.closed s.data.toList = b := ⟨_, rfl⟩
  have HT : Hid (askText 5 s = toldText n b) := by show _ = _; rw [← hnn, ← hb]; rfl
  rw [hnn] at hc hn
  rw [hb] at hc
  have HC := Lib.hid hc
  have HY := Lib.hid (numberOrNone_any n b (by omega) (by omega))
  clear hc hb hnn hn
  clear hW b0 hw hp hs hok
  go_enter Tryz.func93, Tryz.ntmps93
  go_wp2_with fail
  rw [HW.out]
  go_wp2_with (first
    | (go_at_call 102; refine (HY.out _ (HP.out.below' hb1)).mono ?_; rintro e w2 ⟨rfl, hb2⟩)
    | (go_at_call 126; refine HC.out.mono ?_; rintro e w1 ⟨rfl, hb1⟩))
  go_ret
  exact ask_done HT.out (B0.out.trans ((hb1.trans (hb2.mono hb1.size)).mono B0.out.size))
set_option maxRecDepth 100000 in
set_option maxHeartbeats 800000 in
theorem sayArea_any (s : ByteArray) (a : Option Addr) (L c : Nat) (w : World) (hok : Tw.walkOk s.data.toList = true) (hw : DirsAt w) (hp : PowAt w) :
    Calls Tryz.prog 94 #[.agg #[.string s, .slice a L c]] w (AskOut s 6 w) := by
  have h40 : s.size ≤ 40 := by have := Tw.walkOk_len hok; rwa [size_data] at this
  have hs : s.size ≤ 1048576 := by omega
  obtain ⟨b0, c0⟩ := askBox_in w s a L c
  obtain ⟨W, hW⟩ : ∃ W, askBox w s a L c = W := ⟨_, rfl⟩
  rw [hW] at b0 c0
  unfold askBox at hW
  have HW := Lib.hid hW
  have HD := Lib.hid (hw.below' b0)
  have HP := Lib.hid (hp.below' b0)
  have B0 := Lib.hid b0
  have hc := implAreaOf s W hs HD.out
  have hn := line_res_bound s.data.toList
  obtain ⟨n, hnn⟩ : ∃ n, areaRes s.data.toList = n := ⟨_, rfl⟩
  obtain ⟨b, hb⟩ : ∃ b, Tw.closed s.data.toList = b := ⟨_, rfl⟩
  have HT : Hid (askText 6 s = toldText n b) := by show _ = _; rw [← hnn, ← hb]; rfl
  rw [hnn] at hc hn
  rw [hb] at hc
  have HC := Lib.hid hc
  have HY := Lib.hid (numberOrNone_any n b (by omega) (by omega))
  clear hc hb hnn hn
  clear hW b0 hw hp hs hok
  go_enter Tryz.func94, Tryz.ntmps94
  go_wp2_with fail
  rw [HW.out]
  go_wp2_with (first
    | (go_at_call 102; refine (HY.out _ (HP.out.below' hb1)).mono ?_; rintro e w2 ⟨rfl, hb2⟩)
    | (go_at_call 127; refine HC.out.mono ?_; rintro e w1 ⟨rfl, hb1⟩))
  go_ret
  exact ask_done HT.out (B0.out.trans ((hb1.trans (hb2.mono hb1.size)).mono B0.out.size))
set_option maxRecDepth 100000 in
set_option maxHeartbeats 800000 in
theorem sayWinding_any (s : ByteArray) (a : Option Addr) (L c : Nat) (w : World) (hok : Tw.walkOk s.data.toList = true) (hw : DirsAt w) (hp : PowAt w) :
    Calls Tryz.prog 95 #[.agg #[.string s, .slice a L c]] w (AskOut s 7 w) := by
  have h40 : s.size ≤ 40 := by have := Tw.walkOk_len hok; rwa [size_data] at this
  have hs : s.size ≤ 1048576 := by omega
  obtain ⟨b0, c0⟩ := askBox_in w s a L c
  obtain ⟨W, hW⟩ : ∃ W, askBox w s a L c = W := ⟨_, rfl⟩
  rw [hW] at b0 c0
  unfold askBox at hW
  have HW := Lib.hid hW
  have HD := Lib.hid (hw.below' b0)
  have HP := Lib.hid (hp.below' b0)
  have B0 := Lib.hid b0
  have hc := implMost s W hs HD.out
  have hn := Tw.mostRes_range (l := s.data.toList)
  obtain ⟨n, hnn⟩ : ∃ n, Tw.mostRes s.data.toList = n := ⟨_, rfl⟩
  obtain ⟨b, hb⟩ : ∃ b, Tw.closed s.data.toList = b := ⟨_, rfl⟩
  have HT : Hid (askText 7 s = toldText n b) := by show _ = _; rw [← hnn, ← hb]; rfl
  rw [hnn] at hc hn
  rw [hb] at hn
  have hg := geq_dec hn.2.2
  have HC := Lib.hid hc
  have HY := Lib.hid (numberOrNone_any n b (by omega) (by omega))
  clear hc hb hnn hn
  clear hW b0 hw hp hs hok
  go_enter Tryz.func95, Tryz.ntmps95
  go_wp2_with fail
  rw [HW.out]
  go_wp2_with (first
    | (go_at_call 102; refine (HY.out _ (HP.out.below' hb1)).mono ?_; rintro e w2 ⟨rfl, hb2⟩)
    | (go_at_call 128; refine HC.out.mono ?_; rintro e w1 ⟨rfl, hb1⟩))
  go_ret
  exact ask_done HT.out (B0.out.trans ((hb1.trans (hb2.mono hb1.size)).mono B0.out.size))
set_option maxRecDepth 100000 in
set_option maxHeartbeats 800000 in
theorem saySquares_any (s : ByteArray) (a : Option Addr) (L c : Nat) (w : World) (hok : Tw.walkOk s.data.toList = true) (hw : DirsAt w) (hp : PowAt w) :
    Calls Tryz.prog 96 #[.agg #[.string s, .slice a L c]] w (AskOut s 8 w) := by
  have h40 : s.size ≤ 40 := by have := Tw.walkOk_len hok; rwa [size_data] at this
  have hs : s.size ≤ 1048576 := by omega
  obtain ⟨b0, c0⟩ := askBox_in w s a L c
  obtain ⟨W, hW⟩ : ∃ W, askBox w s a L c = W := ⟨_, rfl⟩
  rw [hW] at b0 c0
  unfold askBox at hW
  have HW := Lib.hid hW
  have HD := Lib.hid (hw.below' b0)
  have HP := Lib.hid (hp.below' b0)
  have B0 := Lib.hid b0
  have hc := implSquares s W hs HD.out
  have hn := Tw.squaresRes_range (l := s.data.toList)
  obtain ⟨n, hnn⟩ : ∃ n, Tw.squaresRes s.data.toList = n := ⟨_, rfl⟩
  obtain ⟨b, hb⟩ : ∃ b, Tw.simple s.data.toList = b := ⟨_, rfl⟩
  have HT : Hid (askText 8 s = toldText n b) := by show _ = _; rw [← hnn, ← hb]; rfl
  rw [hnn] at hc hn
  rw [hb] at hn
  have hg := geq_dec hn.2.2
  have HC := Lib.hid hc
  have HY := Lib.hid (numberOrNone_any n b (by omega) (by omega))
  clear hc hb hnn hn
  clear hW b0 hw hp hs hok
  go_enter Tryz.func96, Tryz.ntmps96
  go_wp2_with fail
  rw [HW.out]
  go_wp2_with (first
    | (go_at_call 102; refine (HY.out _ (HP.out.below' hb1)).mono ?_; rintro e w2 ⟨rfl, hb2⟩)
    | (go_at_call 129; refine HC.out.mono ?_; rintro e w1 ⟨rfl, hb1⟩))
  go_ret
  exact ask_done HT.out (B0.out.trans ((hb1.trans (hb2.mono hb1.size)).mono B0.out.size))

end Go.Proofs.YtccdfndnjjjgfaaGreatDoor

namespace Go.Proofs.YtccdfndnjjjgfaaGreatDoor
open Go.RowKit Go.Maps Go.WideMaps Go.ChangeShapes Go.WideShapes Go.MapKept Go.ChangeMaps

theorem ask_none {X : ByteArray} (h : ∀ i, i < 9 → askWords.getD i ⟨#[]⟩ ≠ X) : askAt X = none := by
  unfold askAt
  rw [List.findIdx?_eq_none_iff]
  intro y hy
  obtain ⟨i, hi, rfl⟩ := List.mem_iff_getElem.1 hy
  have h1 := h i hi
  rw [List.getD_eq_getElem?_getD, List.getElem?_eq_getElem hi] at h1
  exact decide_eq_false h1
theorem askAt_word {i : Nat} (hi : i < 9) : askAt (askWords.getD i ⟨#[]⟩) = some i := by
  obtain rfl | rfl | rfl | rfl | rfl | rfl | rfl | rfl | rfl : i = 0 ∨ i = 1 ∨ i = 2 ∨ i = 3 ∨ i = 4 ∨ i = 5 ∨ i = 6 ∨ i = 7 ∨ i = 8 := by omega
  all_goals rfl

/-- The functions, in the order of the words. -/
def askFn (i : Nat) : FuncId := [88, 89, 90, 91, 92, 93, 94, 95, 96].getD i 0
def askEntry (i : Nat) : MapEntry := ⟨.string (askWords.getD i ⟨#[]⟩), .func (.func (askFn i)) #[] #[], i⟩
def askEntries (n : Nat) : Array MapEntry := ((List.range n).map askEntry).toArray
theorem askEntries_succ (n : Nat) : askEntries (n + 1) = (askEntries n).push (askEntry n) := by
  unfold askEntries
  rw [List.range_succ, List.map_append]
  simp
def askMap (w : World) (n : Nat) : World := setBlock (w.alloc (.map #[] 0)) w.heap.size (.map (askEntries n) n)
theorem askMap_at (w : World) (n : Nat) : (askMap w n).heap[w.heap.size]? = some (.map (askEntries n) n) := heap_setBlock_same (heap_alloc_new w _) _
theorem askMap_zero (w : World) : w.alloc (.map #[] 0) = askMap w 0 := (setBlock_same (heap_alloc_new w _)).symm
theorem askMap_below (w : World) (n : Nat) : Below w.heap.size w (askMap w n) :=
  ⟨rfl, rfl, rfl, by simp [askMap, setBlock], fun i hi => (heap_setBlock_other (heap_alloc_new w _) _ (fun e => by omega)).trans (heap_alloc_at hi)⟩
theorem ask_member {n : Nat} {e : MapEntry} (h : e ∈ (askEntries n).toList) : ∃ i, i < n ∧ e = askEntry i := by
  unfold askEntries at h
  rw [List.toList_toArray] at h
  obtain ⟨i, hi, rfl⟩ := List.mem_map.1 h
  exact ⟨i, List.mem_range.1 hi, rfl⟩
set_option maxRecDepth 100000 in
theorem askWord_size : ∀ i, i < 9 → (askWords.getD i ⟨#[]⟩).size ≤ 7 := by decide
set_option maxRecDepth 100000 in
theorem askWord_inj : ∀ i, i < 9 → ∀ j, j < 9 → i ≠ j → askWords.getD i ⟨#[]⟩ ≠ askWords.getD j ⟨#[]⟩ := by decide
theorem askKeys {n : Nat} (hn : n ≤ 9) : ∀ e ∈ (askEntries n).toList, ∃ l, keyOf Tryz.prog 9 e.key = some l := fun e he => by
  obtain ⟨i, hi, rfl⟩ := ask_member he
  exact ⟨_, keyOf_string_mk Tryz.underlying9 (by have := askWord_size i (by omega); unfold maxLen; omega)⟩
theorem makeMap_run (w : World) : (Instr.makeMap 72 none).run Tryz.prog w = .ok (.map (some w.heap.size)) (w.alloc (.map #[] 0)) := by
  simp [Instr.makeMap]
theorem map_put {w : World} {b clock : Nat} {es : Array MapEntry} (hb : w.heap[b]? = some (.map es clock)) {key : ByteArray} {v : Value} {l : Lit} (hkey : keyOf Tryz.prog 9 (.string key) = some l) (h1 : (Instr.findKey 9 (.string key) es.toList).run Tryz.prog w = .ok none w) :
    (Instr.mapUpdate 72 (.map (some b)) (.string key) v).run Tryz.prog w = .ok () (setBlock w b (.map (es.push ⟨.string key, v, clock⟩) (clock + 1))) := by
  have K : KeyLaw Tryz.prog 9 := string_law Tryz.underlying9
  simp [Instr.mapUpdate, run_underlying Tryz.underlying72, MapKept.run_getObj_map hb, K.check w false hkey, h1, MapKept.run_setObj_map _ hb, Result.andThen, setBlock]
theorem zero_ask (w : World) : (zeroValue 70).run Tryz.prog w = .ok .nilFunc w := by kernel_rfl
theorem map_miss {w : World} {b clock : Nat} {es : Array MapEntry} (hb : w.heap[b]? = some (.map es clock)) {key : ByteArray} {l : Lit} (hkey : keyOf Tryz.prog 9 (.string key) = some l) (h1 : (Instr.findKey 9 (.string key) es.toList).run Tryz.prog w = .ok none w) :
    (Instr.lookup 72 (.map (some b)) (.string key) true).run Tryz.prog w = .ok (.tuple #[.nilFunc, .bool false]) w := by
  have K : KeyLaw Tryz.prog 9 := string_law Tryz.underlying9
  simp [Instr.lookup, run_underlying Tryz.underlying72, MapKept.run_getObj_map hb, K.check w _ hkey, h1, Result.andThen]
theorem map_hit {w : World} {b clock j : Nat} {es : Array MapEntry} {v : Value} (hb : w.heap[b]? = some (.map es clock)) {key : ByteArray} {l : Lit} (hkey : keyOf Tryz.prog 9 (.string key) = some l) (h1 : (Instr.findKey 9 (.string key) es.toList).run Tryz.prog w = .ok (some (j, v)) w) :
    (Instr.lookup 72 (.map (some b)) (.string key) true).run Tryz.prog w = .ok (.tuple #[v, .bool true]) w := by
  have K : KeyLaw Tryz.prog 9 := string_law Tryz.underlying9
  simp [Instr.lookup, run_underlying Tryz.underlying72, MapKept.run_getObj_map hb, K.check w _ hkey, h1, Result.andThen]
theorem ask_put (w : World) (n : Nat) (hn : n < 9) : (Instr.mapUpdate 72 (.map (some w.heap.size)) (.string (askWords.getD n ⟨#[]⟩)) (.func (.func (askFn n)) #[] #[])).run Tryz.prog (askMap w n) = .ok () (askMap w (n + 1)) := by
  have K : KeyLaw Tryz.prog 9 := string_law Tryz.underlying9
  have hkey := keyOf_string_mk (P := Tryz.prog) Tryz.underlying9 (s := askWords.getD n ⟨#[]⟩) (by have := askWord_size n hn; unfold maxLen; omega)
  have hb := askMap_at w n
  rcases K.find (askMap w n) hkey (askEntries n).toList (askKeys (by omega)) with ⟨h1, _⟩ | ⟨j, e, _, h2, h3⟩
  · rw [map_put hb hkey h1]
    have e2 : setBlock (askMap w n) w.heap.size (.map ((askEntries n).push ⟨.string (askWords.getD n ⟨#[]⟩), .func (.func (askFn n)) #[] #[], n⟩) (n + 1)) = askMap w (n + 1) := by
      show _ = setBlock (w.alloc (.map #[] 0)) w.heap.size (.map (askEntries (n + 1)) (n + 1))
      rw [askEntries_succ]
      exact setBlock_twice
    rw [e2]
  · obtain ⟨i, hi, rfl⟩ := ask_member (List.mem_of_getElem? h2)
    have h4 : askWords.getD i ⟨#[]⟩ = askWords.getD n ⟨#[]⟩ := Value.string.inj h3
    exact absurd h4 (askWord_inj i (by omega) n hn (by omega))
/-- What the map holds at a line. -/
theorem ask_look {W : World} {b : Nat} (hb : W.heap[b]? = some (.map (askEntries 9) 9)) (X : ByteArray) (hX : X.size ≤ maxLen) :
    (∃ k, k < 9 ∧ askWords.getD k ⟨#[]⟩ = X ∧ askAt X = some k ∧ (Instr.lookup 72 (.map (some b)) (.string X) true).run Tryz.prog W = .ok (.tuple #[.func (.func (askFn k)) #[] #[], .bool true]) W) ∨
    (askAt X = none ∧ (Instr.lookup 72 (.map (some b)) (.string X) true).run Tryz.prog W = .ok (.tuple #[.nilFunc, .bool false]) W) := by
  have K : KeyLaw Tryz.prog 9 := string_law Tryz.underlying9
  have hkey := keyOf_string_mk (P := Tryz.prog) Tryz.underlying9 (s := X) hX
  rcases K.find W hkey (askEntries 9).toList (askKeys (by omega)) with ⟨h1, h2⟩ | ⟨j, e, h1, h2, h3⟩
  · refine .inr ⟨ask_none fun i hi he => ?_, ?_⟩
    · have hm : askEntry i ∈ (askEntries 9).toList := by
        unfold askEntries
        rw [List.toList_toArray]
        exact List.mem_map.2 ⟨i, List.mem_range.2 hi, rfl⟩
      refine h2 _ hm ?_
      show Value.string _ = _
      rw [he]
    · exact map_miss hb hkey h1
  · obtain ⟨i, hi, rfl⟩ := ask_member (List.mem_of_getElem? h2)
    have hX2 : askWords.getD i ⟨#[]⟩ = X := Value.string.inj h3
    exact .inl ⟨i, hi, hX2, hX2 ▸ askAt_word hi, map_hit hb hkey h1⟩
set_option maxRecDepth 100000 in
set_option maxHeartbeats 800000 in
theorem questions_any (w : World) : Calls Tryz.prog 46 #[] w fun e w' => e = .returned (.map (some w.heap.size)) ∧ w' = askMap w 9 := by
  have r0 : (Instr.mapUpdate 72 (.map (some w.heap.size)) (.string ⟨#[119, 97, 108, 107]⟩) (.func (.func 88) #[] #[])).run Tryz.prog (w.alloc (.map #[] 0)) = .ok () (askMap w 1) := askMap_zero w ▸ ask_put w 0 (by omega)
  have r1 : (Instr.mapUpdate 72 (.map (some w.heap.size)) (.string ⟨#[101, 110, 100]⟩) (.func (.func 89) #[] #[])).run Tryz.prog (askMap w 1) = .ok () (askMap w 2) := ask_put w 1 (by omega)
  have r2 : (Instr.mapUpdate 72 (.map (some w.heap.size)) (.string ⟨#[99, 108, 111, 115, 101, 100]⟩) (.func (.func 90) #[] #[])).run Tryz.prog (askMap w 2) = .ok () (askMap w 3) := ask_put w 2 (by omega)
  have r3 : (Instr.mapUpdate 72 (.map (some w.heap.size)) (.string ⟨#[115, 105, 109, 112, 108, 101]⟩) (.func (.func 91) #[] #[])).run Tryz.prog (askMap w 3) = .ok () (askMap w 4) := ask_put w 3 (by omega)
  have r4 : (Instr.mapUpdate 72 (.map (some w.heap.size)) (.string ⟨#[97, 118, 111, 105, 100, 115]⟩) (.func (.func 92) #[] #[])).run Tryz.prog (askMap w 4) = .ok () (askMap w 5) := ask_put w 4 (by omega)
  have r5 : (Instr.mapUpdate 72 (.map (some w.heap.size)) (.string ⟨#[116, 117, 114, 110, 105, 110, 103]⟩) (.func (.func 93) #[] #[])).run Tryz.prog (askMap w 5) = .ok () (askMap w 6) := ask_put w 5 (by omega)
  have r6 : (Instr.mapUpdate 72 (.map (some w.heap.size)) (.string ⟨#[97, 114, 101, 97]⟩) (.func (.func 94) #[] #[])).run Tryz.prog (askMap w 6) = .ok () (askMap w 7) := ask_put w 6 (by omega)
  have r7 : (Instr.mapUpdate 72 (.map (some w.heap.size)) (.string ⟨#[119, 105, 110, 100, 105, 110, 103]⟩) (.func (.func 95) #[] #[])).run Tryz.prog (askMap w 7) = .ok () (askMap w 8) := ask_put w 7 (by omega)
  have r8 : (Instr.mapUpdate 72 (.map (some w.heap.size)) (.string ⟨#[115, 113, 117, 97, 114, 101, 115]⟩) (.func (.func 96) #[] #[])).run Tryz.prog (askMap w 8) = .ok () (askMap w 9) := ask_put w 8 (by omega)
  have hmk : (Instr.makeMap 72 none).run Tryz.prog w = .ok (.map (some w.heap.size)) (w.alloc (.map #[] 0)) := makeMap_run w
  go_enter Tryz.func46, Tryz.ntmps46
  go_wp2
  go_ret
  exact ⟨rfl, rfl⟩
theorem says_any (s : ByteArray) (a : Option Addr) (L c : Nat) (hok : Tw.walkOk s.data.toList = true) (k : Nat) (hk : k < 9) (w : World) (hw : DirsAt w) (hp : PowAt w) :
    Calls Tryz.prog (askFn k) #[.agg #[.string s, .slice a L c]] w (AskOut s k w) := by
  obtain rfl | rfl | rfl | rfl | rfl | rfl | rfl | rfl | rfl : k = 0 ∨ k = 1 ∨ k = 2 ∨ k = 3 ∨ k = 4 ∨ k = 5 ∨ k = 6 ∨ k = 7 ∨ k = 8 := by omega
  · exact sayWalk_any s a L c w hok hw hp
  · exact sayEnd_any s a L c w hok hw hp
  · exact sayClosed_any s a L c w hok hw hp
  · exact saySimple_any s a L c w hok hw hp
  · exact sayAvoids_any s a L c w hok hw hp
  · exact sayTurning_any s a L c w hok hw hp
  · exact sayArea_any s a L c w hok hw hp
  · exact sayWinding_any s a L c w hok hw hp
  · exact saySquares_any s a L c w hok hw hp

end Go.Proofs.YtccdfndnjjjgfaaGreatDoor

namespace Go.Proofs.YtccdfndnjjjgfaaGreatDoor
open Go.RowKit Go.Maps Go.WideMaps Go.MapKept

theorem ask_enters (k : Nat) (hk : k < 9) : ∀ args w, (callFunc (askFn k) args).run Tryz.prog w = .ok (.enter (askFn k) args) w := by
  obtain rfl | rfl | rfl | rfl | rfl | rfl | rfl | rfl | rfl : k = 0 ∨ k = 1 ∨ k = 2 ∨ k = 3 ∨ k = 4 ∨ k = 5 ∨ k = 6 ∨ k = 7 ∨ k = 8 := by omega
  · exact enters_of Tryz.func88 (by kernel_rfl) rfl
  · exact enters_of Tryz.func89 (by kernel_rfl) rfl
  · exact enters_of Tryz.func90 (by kernel_rfl) rfl
  · exact enters_of Tryz.func91 (by kernel_rfl) rfl
  · exact enters_of Tryz.func92 (by kernel_rfl) rfl
  · exact enters_of Tryz.func93 (by kernel_rfl) rfl
  · exact enters_of Tryz.func94 (by kernel_rfl) rfl
  · exact enters_of Tryz.func95 (by kernel_rfl) rfl
  · exact enters_of Tryz.func96 (by kernel_rfl) rfl
theorem look_yes {W : World} {b : Nat} (hb : W.heap[b]? = some (.map (askEntries 9) 9)) {X : ByteArray} (hX : X.size ≤ maxLen) {k : Nat} {f : FuncId} (h : askAt X = some k) (hf : askFn k = f) : (Instr.lookup 72 (.map (some b)) (.string X) true).run Tryz.prog W = .ok (.tuple #[.func (.func f) #[] #[], .bool true]) W := by
  rcases ask_look hb X hX with ⟨j, _, _, h2, h3⟩ | ⟨h2, _⟩
  · rw [h] at h2
    obtain rfl := Option.some.inj h2
    rw [h3, hf]
  · rw [h] at h2
    cases h2
theorem look_no {W : World} {b : Nat} (hb : W.heap[b]? = some (.map (askEntries 9) 9)) {X : ByteArray} (hX : X.size ≤ maxLen) (h : askAt X = none) : (Instr.lookup 72 (.map (some b)) (.string X) true).run Tryz.prog W = .ok (.tuple #[.nilFunc, .bool false]) W := by
  rcases ask_look hb X hX with ⟨j, _, _, h2, _⟩ | ⟨_, h3⟩
  · rw [h] at h2
    cases h2
  · exact h3
theorem questions_out (w : World) : Calls Tryz.prog 46 #[] w fun e w' => ∃ M, e = .returned (.map (some M)) ∧ w'.heap[M]? = some (.map (askEntries 9) 9) ∧ Below w.heap.size w w' := by
  refine (questions_any w).mono ?_
  rintro e w' ⟨rfl, rfl⟩
  exact ⟨_, rfl, askMap_at w 9, askMap_below w 9⟩
set_option maxRecDepth 100000 in
set_option maxHeartbeats 1600000 in
theorem implLine_ask (s : ByteArray) (a : Option Addr) (c L : Nat) (zs : List ByteArray) (X : ByteArray) (w : World) (h : PastAt w (.slice a L c) zs) (HL : Hid (zs.length = L)) (hok : Hid (deskOk s zs = true)) (hX : X.size ≤ 1048576) (hr : Hid (readOf X.data.toList = ((0, 0), false)))
    (hdd : DirsAt w) (hwd : WordsAt w) (hmx : MaxAt w) (hpw : PowAt w) (k : Nat) (hk : k < 9) (hat : askAt X = some k) (t : ByteArray) (htt : askText k s = t) :
    Calls Tryz.prog 21 #[.agg #[.string s, .slice a L c], .string X] w (LineOut w s zs t) := by
  obtain ⟨h1, h8, hz⟩ := deskOk_parts hok.out
  obtain ⟨e0, hsz, r0, r1⟩ := desk2_in w s (.slice a L c)
  obtain ⟨W, hW⟩ : ∃ W, deskBox2 w s (.slice a L c) = W := ⟨_, rfl⟩
  rw [hW] at e0 hsz r0 r1
  unfold deskBox2 at hW
  have HW := Lib.hid hW
  have HDK := Lib.hid (deskOk_namedI s (.slice a L c) zs W (e0.strs h.strs) (by have := ok_size h1; omega) (by omega) (fun z hz9 => by have := ok_size (hz z hz9); omega) true hok.out)
  have HRD : Hid (∀ Y, Ext w Y → Calls Tryz.prog 44 #[.string X] Y fun e w' => e = .returned (.tuple #[.agg #[.int .i64 0, .int .i64 0], .bool false]) ∧ Below Y.heap.size Y w') := fun Y hY => by
    refine (implReadDeed X Y (hwd.below' hY) (hmx.below' hY) hX).mono ?_
    rintro e w' ⟨he, hb⟩
    rw [hr.out] at he
    exact ⟨he, hb⟩
  have HCP : Hid (∀ Y, Ext W Y → Calls Tryz.prog 39 #[.agg #[.string s, .slice a L c]] Y fun e w' => ∃ a2 c2, e = .returned (.agg #[.string s, .slice a2 L c2]) ∧ PastAt w' (.slice a2 L c2) zs ∧ Fresh W.heap.size (.slice a2 L c2) ∧ Ext W w') := fun Y hY => by
    refine (copied_any s (.slice a L c) zs Y ((e0.trans hY).past h) (by omega)).mono ?_
    rw [HL.out]
    rintro e w' ⟨a2, c2, he, hp2, hf2, hb2⟩
    exact ⟨a2, c2, he, hp2, fresh_ext hY hf2, hY.call hb2⟩
  obtain ⟨f, hf⟩ : ∃ f, askFn k = f := ⟨_, rfl⟩
  have henter := ask_enters k hk
  have HF : Hid (∀ Y, Ext W Y → Calls Tryz.prog f #[.agg #[.string s, .slice a L c]] Y fun e w' => e = .returned (.string t) ∧ Ext W w' ∧ Ext Y w') := fun Y hY => by
    rw [← hf, ← htt]
    refine (says_any s a L c h1 k hk Y (hdd.below' (e0.trans hY)) (hpw.below' (e0.trans hY))).mono ?_
    rintro e w' ⟨he, hb⟩
    exact ⟨he, hY.call hb, hb⟩
  rw [hf] at henter
  have HLK : Hid (∀ (Y : World) (M : Nat), Y.heap[M]? = some (.map (askEntries 9) 9) → (Instr.lookup 72 (.map (some M)) (.string X) true).run Tryz.prog Y = .ok (.tuple #[.func (.func f) #[] #[], .bool true]) Y) := fun Y M hM => look_yes hM (by unfold maxLen; omega) hat hf
  have R0 := Lib.hid r0
  have R1 := Lib.hid r1
  have E0 := Lib.hid e0
  have c0 := cell_of_row _ _ 0 _ _ _ r0
  have c1 := cell_of_row _ _ 1 _ _ _ r0
  have HS : Hid (∀ Y, Ext W Y → Y.cell? ⟨w.heap.size, 0, none⟩ = some (.string s) ∧ Y.cell? ⟨w.heap.size, 1, none⟩ = some (.slice a L c)) := fun Y hY => ⟨cell_of_row _ _ 0 _ _ _ (hY.row R0.out), cell_of_row _ _ 1 _ _ _ (hY.row R0.out)⟩
  have hws : W.heap.size = w.heap.size + 2 := hsz
  clear hW r0 r1 h hdd hwd hmx hz h1 h8 e0 hf htt hat hpw hk hsz
  go_enter Tryz.func21, Tryz.ntmps21
  go_wp2_with fail
  rw [HW.out]
  go_upto_region 11 with (first
    | (go_at_call 27; refine HDK.out.mono ?_; rintro e w1 ⟨rfl, hb1⟩; have E1 : Hid (Ext W w1) := hb1; clear hb1)
    | (go_at_call 44; refine (HRD.out w1 (E0.out.trans E1.out)).mono ?_; rintro e w2 ⟨rfl, hb2⟩; have E2A : Hid (Ext W (w2.alloc (.cells #[.int .i64 0, .int .i64 0] 53))) := (Ext.call E1.out hb2).alloc _; clear hb2)
    | (go_at_call 46; refine (questions_out _).mono ?_; rintro e w3 ⟨M, rfl, hM, hb3⟩; have hlk := HLK.out w3 M hM; have E3 : Ext W w3 := Ext.call E2A.out hb3; clear hM hb3))
  obtain ⟨k0, k1⟩ := HS.out _ E3
  go_region_held3 (fun w' => w'.cell? ⟨w.heap.size, 0, none⟩ = some (.string s) ∧ w'.cell? ⟨w.heap.size, 1, none⟩ = some (.slice a L c))
    (first
      | exact HS.out _ (by assumption)
      | exact HS.out _ (Ext.drew (by assumption))
      | exact other_cells (by omega) (HS.out _ (by assumption)).1 (HS.out _ (by assumption)).2)
    (first
      | (go_at_call 39; refine (HCP.out _ (by first | assumption | exact Ext.drew (by assumption))).mono ?_; rintro e wC ⟨a2, c2, rfl, hpC, hfC, eC⟩; have PC := Lib.hid hpC; have FC := Lib.hid hfC; have hrC := eC.row R1.out; have f0 := frozen_of_row _ _ 0 _ _ hrC; have f1 := frozen_of_row _ _ 1 _ _ hrC; have m0 := cell_of_row _ _ 0 _ _ _ hrC; have m1 := cell_of_row _ _ 1 _ _ _ hrC; have q := pair_put hrC (.string s) (.slice a2 L c2); have q0 := cell_of_row _ _ 0 _ _ _ q; have q1 := cell_of_row _ _ 1 _ _ _ q; clear hpC hfC hrC q)
      | (go_at_fn f; refine (HF.out _ (by first | assumption | exact Ext.drew (by assumption))).mono ?_; rintro e wF ⟨rfl, eF, eY⟩; have hrF := eF.row R1.out; have f0 := frozen_of_row _ _ 0 _ _ hrF; have f1 := frozen_of_row _ _ 1 _ _ hrF; have m0 := cell_of_row _ _ 0 _ _ _ hrF; have m1 := cell_of_row _ _ 1 _ _ _ hrF; (first | (have PC := Lib.hid (eY.past PC.out)) | (have PC := Lib.hid (((Ext.refl _).drew.trans eY).past PC.out)) | skip); (first | (have q := pair_put hrF (.string s) (.slice a2 L c2); have q0 := cell_of_row _ _ 0 _ _ _ q; have q1 := cell_of_row _ _ 1 _ _ _ q; clear q) | skip); clear hrF))
  all_goals
    go_wp2
    refine bodyPost_ret (v := .tuple #[.agg #[.string s, .slice a2 L c2], .string t]) (by simp [results, Tryz.results21, go_sem, q0, q1]) rfl ?_
    exact line_done (R := w.heap.size + 1) (E0.out.trans (by assumption)) PC.out (fresh_ext E0.out FC.out) (fun h9 => by have := FC.out _ h9; omega) (by omega)
set_option maxRecDepth 100000 in
set_option maxHeartbeats 1600000 in
theorem implLine_curve (s : ByteArray) (a : Option Addr) (c L : Nat) (zs : List ByteArray) (X : ByteArray) (w : World) (h : PastAt w (.slice a L c) zs) (HL : Hid (zs.length = L)) (hok : Hid (deskOk s zs = true)) (hX : X.size ≤ 1048576) (hr : Hid (readOf X.data.toList = ((0, 0), false)))
    (hwd : WordsAt w) (hmx : MaxAt w) (hpw : PowAt w) (hat : askAt X = none) (t : ByteArray) (htt : curveText X.data.toList = t) :
    Calls Tryz.prog 21 #[.agg #[.string s, .slice a L c], .string X] w (LineOut w s zs t) := by
  obtain ⟨h1, h8, hz⟩ := deskOk_parts hok.out
  obtain ⟨e0, hsz, r0, r1⟩ := desk2_in w s (.slice a L c)
  obtain ⟨W, hW⟩ : ∃ W, deskBox2 w s (.slice a L c) = W := ⟨_, rfl⟩
  rw [hW] at e0 hsz r0 r1
  unfold deskBox2 at hW
  have HW := Lib.hid hW
  have HDK := Lib.hid (deskOk_namedI s (.slice a L c) zs W (e0.strs h.strs) (by have := ok_size h1; omega) (by omega) (fun z hz9 => by have := ok_size (hz z hz9); omega) true hok.out)
  have HRD : Hid (∀ Y, Ext w Y → Calls Tryz.prog 44 #[.string X] Y fun e w' => e = .returned (.tuple #[.agg #[.int .i64 0, .int .i64 0], .bool false]) ∧ Below Y.heap.size Y w') := fun Y hY => by
    refine (implReadDeed X Y (hwd.below' hY) (hmx.below' hY) hX).mono ?_
    rintro e w' ⟨he, hb⟩
    rw [hr.out] at he
    exact ⟨he, hb⟩
  have HCP : Hid (∀ Y, Ext W Y → Calls Tryz.prog 39 #[.agg #[.string s, .slice a L c]] Y fun e w' => ∃ a2 c2, e = .returned (.agg #[.string s, .slice a2 L c2]) ∧ PastAt w' (.slice a2 L c2) zs ∧ Fresh W.heap.size (.slice a2 L c2) ∧ Ext W w') := fun Y hY => by
    refine (copied_any s (.slice a L c) zs Y ((e0.trans hY).past h) (by omega)).mono ?_
    rw [HL.out]
    rintro e w' ⟨a2, c2, he, hp2, hf2, hb2⟩
    exact ⟨a2, c2, he, hp2, fresh_ext hY hf2, hY.call hb2⟩
  have HF : Hid (∀ Y, Ext W Y → Calls Tryz.prog 47 #[.string X] Y fun e w' => e = .returned (.string t) ∧ Ext W w' ∧ Ext Y w') := fun Y hY => by
    rw [← htt]
    refine (curveAnswer_any X Y (hmx.below' (e0.trans hY)) (hpw.below' (e0.trans hY)) hX).mono ?_
    rintro e w' ⟨he, hb⟩
    exact ⟨he, hY.call hb, hb⟩
  have HLK : Hid (∀ (Y : World) (M : Nat), Y.heap[M]? = some (.map (askEntries 9) 9) → (Instr.lookup 72 (.map (some M)) (.string X) true).run Tryz.prog Y = .ok (.tuple #[.nilFunc, .bool false]) Y) := fun Y M hM => look_no hM (by unfold maxLen; omega) hat
  have R0 := Lib.hid r0
  have R1 := Lib.hid r1
  have E0 := Lib.hid e0
  have c0 := cell_of_row _ _ 0 _ _ _ r0
  have c1 := cell_of_row _ _ 1 _ _ _ r0
  have hws : W.heap.size = w.heap.size + 2 := hsz
  clear hW r0 r1 h hwd hmx hz h1 h8 e0 htt hat hpw hsz
  go_enter Tryz.func21, Tryz.ntmps21
  go_wp2_with fail
  rw [HW.out]
  go_wp2_with (first
    | (go_at_call 27; refine HDK.out.mono ?_; rintro e w1 ⟨rfl, hb1⟩; have E1 : Hid (Ext W w1) := hb1; clear hb1)
    | (go_at_call 44; refine (HRD.out w1 (E0.out.trans E1.out)).mono ?_; rintro e w2 ⟨rfl, hb2⟩; have E2A : Hid (Ext W (w2.alloc (.cells #[.int .i64 0, .int .i64 0] 53))) := (Ext.call E1.out hb2).alloc _; clear hb2)
    | (go_at_call 46; refine (questions_out _).mono ?_; rintro e w3 ⟨M, rfl, hM, hb3⟩; have hlk := HLK.out w3 M hM; have E3 : Hid (Ext W w3) := Ext.call E2A.out hb3; have hra := E3.out.row R0.out; have k0 := cell_of_row _ _ 0 _ _ _ hra; have k1 := cell_of_row _ _ 1 _ _ _ hra; clear hM hb3 hra)
    | (go_at_call 39; refine (HCP.out _ E3.out).mono ?_; rintro e wC ⟨a2, c2, rfl, hpC, hfC, eC⟩; have PC := Lib.hid hpC; have FC := Lib.hid hfC; have EC := Lib.hid eC; clear hpC hfC eC)
    | (go_at_call 47; refine (HF.out _ EC.out).mono ?_; rintro e wF ⟨rfl, eF, eY⟩; have hrF := eF.row R1.out; have f0 := frozen_of_row _ _ 0 _ _ hrF; have f1 := frozen_of_row _ _ 1 _ _ hrF; have m0 := cell_of_row _ _ 0 _ _ _ hrF; have m1 := cell_of_row _ _ 1 _ _ _ hrF; have PF := Lib.hid (eY.past PC.out); have q := pair_put hrF (.string s) (.slice a2 L c2); have q0 := cell_of_row _ _ 0 _ _ _ q; have q1 := cell_of_row _ _ 1 _ _ _ q; clear q hrF))
  refine bodyPost_ret (v := .tuple #[.agg #[.string s, .slice a2 L c2], .string t]) (by simp [results, Tryz.results21, go_sem, q0, q1]) rfl ?_
  exact line_done (R := w.heap.size + 1) (E0.out.trans eF) PF.out (fresh_ext E0.out FC.out) (fun h9 => by have := FC.out _ h9; omega) (by omega)

end Go.Proofs.YtccdfndnjjjgfaaGreatDoor

namespace Go.Proofs.YtccdfndnjjjgfaaGreatDoor
open Go.RowKit

/-- The box O holds a desk, whose walks of before are younger than W. -/
structure Lin (W : World) (O : Nat) (s : ByteArray) (g c L : Nat) (zs : List ByteArray) (Y : World) : Prop where
  ext : Ext W Y
  box : Y.heap[O]? = some (.cells #[.string s, .slice (some ⟨g, 0, none⟩) L c] 27 (0, 0))
  past : PastAt Y (.slice (some ⟨g, 0, none⟩) L c) zs
  young : W.heap.size ≤ g
  high : W.heap.size ≤ O
variable {W Y Z : World} {O : Nat} {s : ByteArray} {g c L : Nat} {zs : List ByteArray}
theorem Lin.call (h : Lin W O s g c L zs Y) (hb : Below Y.heap.size Y Z) : Lin W O s g c L zs Z := ⟨h.ext.call hb, Ext.row hb h.box, Ext.past hb h.past, h.young, h.high⟩
theorem Lin.drew (h : Lin W O s g c L zs Y) : Lin W O s g c L zs Y.drew := h.call (Ext.refl Y).drew
theorem Lin.alloc (h : Lin W O s g c L zs Y) (o : Obj) : Lin W O s g c L zs (Y.alloc o) := h.call ((Ext.refl Y).alloc o)
theorem Lin.cells (h : Lin W O s g c L zs Y) : Y.cell? ⟨O, 0, none⟩ = some (.string s) ∧ Y.cell? ⟨O, 1, none⟩ = some (.slice (some ⟨g, 0, none⟩) L c) := ⟨cell_of_row _ _ 0 _ _ _ h.box, cell_of_row _ _ 1 _ _ _ h.box⟩
theorem Lin.fresh (h : Lin W O s g c L zs Y) : Fresh W.heap.size (.slice (some ⟨g, 0, none⟩) L c) := fun b hb => by
  have e : g = b := Option.some.inj hb
  have := h.young
  omega
theorem lin_new {x : ByteArray} (h : Ext W Y) (hp : PastAt Y (.slice (some ⟨g, 0, none⟩) L c) zs) (hg : W.heap.size ≤ g) : Lin W Y.heap.size x g c L zs (Y.alloc (.cells #[.string x, .slice (some ⟨g, 0, none⟩) L c] 27)) :=
  ⟨h.alloc _, heap_alloc_new _ _, ((Ext.refl Y).alloc _).past hp, hg, h.size⟩
theorem lin_grown {B : Nat} {W7 : World} (h : Lin W O s g c L zs Y) (hb : Below B Y Z) (h7 : Lin W O s g c L zs W7) (hB : W7.heap.size ≤ B) : Lin W O s g c L zs Z :=
  ⟨Below.trans h.ext (hb.mono (Nat.le_trans h7.ext.size hB)), (hb.block _ (Nat.lt_of_lt_of_le (lt_at h7.box) hB)).trans h.box, past_belowB h.past (fun _ hg => Nat.lt_of_lt_of_le (past_lt h7.past hg) hB) hb, h.young, h.high⟩
/-- The desk is the result, at the world behind the store. -/
theorem lin_done {w : World} {t : ByteArray} (e0 : Ext w W) (h : Lin W O s g c L zs Y) (hW : W.heap.size = w.heap.size + 2) :
    LineOut w s zs t (.returned (.tuple #[.agg #[.string s, .slice (some ⟨g, 0, none⟩) L c], .string t])) ((Y.setCell ⟨w.heap.size + 1, 0, none⟩ (.string s)).setCell ⟨w.heap.size + 1, 1, none⟩ (.slice (some ⟨g, 0, none⟩) L c)) :=
  line_done (R := w.heap.size + 1) (e0.trans h.ext) h.past (fresh_ext e0 h.fresh) (fun h9 => by have e : g = _ := Option.some.inj h9; have := h.young; omega) (by omega)
theorem line_drew {w X : World} {x : ByteArray} {ys : List ByteArray} {t : ByteArray} {e : Ending} (h : LineOut w x ys t e X) : LineOut w x ys t e X.drew := by
  obtain ⟨v', he, hp, hf, hb⟩ := h
  exact ⟨v', he, Ext.past (Ext.refl X).drew hp, hf, hb.drew⟩

end Go.Proofs.YtccdfndnjjjgfaaGreatDoor

namespace Go.Proofs.YtccdfndnjjjgfaaGreatDoor
open Go.RowKit

theorem data_nil {s : ByteArray} (h : s.data.toList = []) : s = ⟨#[]⟩ := nil_of_sizeR (by rw [← size_data, h]; rfl)
theorem str_back {l : List UInt8} {s : ByteArray} (h : Tw.str l = s) : l = s.data.toList := by rw [← h]; rfl

/-- The deeds that the reference tries. -/
def candOf (s : List UInt8) : List (Int × Int) :=
  if (cutAll 32 s).length = 2 then [(1, 0), (4, 0), (5, 0), (0, digitsRes ((cutAll 32 s).getD 1 [])), (2, digitsRes ((cutAll 32 s).getD 1 [])), (3, digitsRes ((cutAll 32 s).getD 1 []))] else [(1, 0), (4, 0), (5, 0)]
theorem cand_mem {s : List UInt8} {k n : Int} (h0 : s ≠ []) (ht : deedText k n = s) : (k, n) ∈ candOf s := by
  have t := told_of (ht ▸ h0)
  obtain ⟨hk0, hk6⟩ := told_kind t
  have hw := word_clean (k := k.toNat) (by omega)
  rw [text_told t] at ht
  unfold candOf
  split at ht
  · rename_i hk
    have hn : 0 ≤ n ∧ n ≤ 99 := by unfold told at t; omega
    have hd := num_dec (n := n.toNat) (by omega)
    have hc : cutAll 32 s = [deedWord k.toNat, Lib.decDigits n.toNat] := by rw [← ht]; exact cutAll_two hw.1 hd.2.2.1
    have hv : digitsRes (Lib.decDigits n.toNat) = n := by
      unfold digitsRes
      rw [num_mono hd.1 (by omega), hd.2.1, if_pos rfl]
      omega
    have e2 : ([deedWord k.toNat, Lib.decDigits n.toNat] : List (List UInt8)).length = 2 := rfl
    rw [hc, if_pos e2]
    show (k, n) ∈ [(1, 0), (4, 0), (5, 0), (0, digitsRes (Lib.decDigits n.toNat)), (2, digitsRes (Lib.decDigits n.toNat)), (3, digitsRes (Lib.decDigits n.toNat))]
    rw [hv]
    rcases hk with rfl | rfl | rfl <;> simp
  · have hn : (k = 1 ∨ k = 4 ∨ k = 5) ∧ n = 0 := by unfold told at t; omega
    obtain ⟨hk, rfl⟩ := hn
    split <;> (rcases hk with rfl | rfl | rfl <;> simp)
theorem cand_none {s : List UInt8} (h : ∀ d, d ∈ candOf s → s ≠ [] → deedText d.1 d.2 = s → False) : readOf s = ((0, 0), false) :=
  readOf_none fun k n h0 ht => h (k, n) (cand_mem h0 ht) h0 ht

theorem own_le2 {w : World} {base g n cap size : Nat} {e : TypeId} {xs : List Value} (h : w.ownsRow base e size (.slice (some ⟨g, 0, none⟩) n cap) n xs) : n ≤ cap := by
  rcases h.2 with ⟨h1, _⟩ | ⟨g', cap', cur, h1, _, _, hl, _⟩
  · cases h1
  · cases h1
    exact hl
theorem own_six (W : World) (base : Nat) (hb : base ≤ W.heap.size) (x0 x1 x2 x3 x4 x5 : Int) : (W.alloc (.cells #[.int .i64 x0, .int .i64 x1, .int .i64 x2, .int .i64 x3, .int .i64 x4, .int .i64 x5] 53)).ownsRow base 53 2 (.slice (some ⟨W.heap.size, 0, none⟩) 3 3) 3 (pairCells [(x0, x1), (x2, x3), (x4, x5)]) :=
  ⟨rfl, .inr ⟨W.heap.size, 3, _, rfl, hb, heap_alloc_new W _, Nat.le_refl _, by decide, rfl, rfl⟩⟩

set_option maxRecDepth 100000 in
set_option maxHeartbeats 1600000 in
theorem specReadDeed (s : ByteArray) (w : World) (hs : s.size ≤ 1048576) :
    Calls Tryz.prog 48 #[.string s] w (ReadOut s.data.toList w) := by
  obtain ⟨i0, hi0, hz0, hz1, hz2⟩ := info_parts deedInfo
  obtain ⟨W, hW⟩ : ∃ W, W = w.alloc (.cells #[.int .i64 0, .int .i64 0] 53) := ⟨_, rfl⟩
  have hb0 : Below w.heap.size w W := by rw [hW]; exact (Below.refl _ _).alloc (Nat.le_refl _) _
  have hWs : W.heap.size = w.heap.size + 1 := by rw [hW]; simp
  have hr0 : W.heap[w.heap.size]? = some (.cells #[.int .i64 0, .int .i64 0] 53 (0, 0)) := by rw [hW]; exact heap_alloc_new _ _
  have hct := cut_any s 32 W hs
  obtain ⟨n, hnn⟩ : ∃ n, (words 32 s).length = n := ⟨_, rfl⟩
  rw [hnn] at hct
  have hcl : (cutAll 32 s.data.toList).length = n := by rw [← hnn]; unfold words; rw [List.length_map]
  have HCT := Lib.hid hct
  have HR0 := Lib.hid hr0
  have HW := Lib.hid hW
  have HCL := Lib.hid hcl
  have HNN := Lib.hid hnn
  clear hct hr0 hW hcl hnn
  by_cases hn2 : n = 2
  · subst hn2
    obtain ⟨z, hz⟩ : ∃ z, (cutAll 32 s.data.toList)[1]? = some z := ⟨(cutAll 32 s.data.toList)[1]'(by rw [HCL.out]; omega), List.getElem?_eq_getElem _⟩
    have hzs : (strVals (words 32 s))[1]? = some (.string (Tw.str z)) := by
      unfold strVals words
      rw [List.getElem?_map, List.getElem?_map, hz]
      rfl
    obtain ⟨y, hy⟩ : ∃ y, Tw.str z = y := ⟨_, rfl⟩
    rw [hy] at hzs
    have hyz : y.data.toList = z := by rw [← hy]; rfl
    have hys : y.size ≤ 9223372036854775807 := by
      rw [← hy, Tw.str_size]
      have := part_size (sep := 32) (l := s.data.toList) (List.mem_of_getElem? hz)
      rw [size_data] at this
      omega
    have hdg := fun W => digits_any y W hys
    rw [hyz] at hdg
    obtain ⟨r, hr⟩ : ∃ r, digitsRes z = r := ⟨_, rfl⟩
    rw [hr] at hdg
    have hds : candOf s.data.toList = [(1, 0), (4, 0), (5, 0), (0, r), (2, r), (3, r)] := by
      unfold candOf
      rw [if_pos HCL.out]
      have e : (cutAll 32 s.data.toList).getD 1 [] = z := by rw [List.getD_eq_getElem?_getD, hz]; rfl
      rw [e, hr]
    have HDG := Lib.hid hdg
    have HDS0 := Lib.hid hds
    have HZS := Lib.hid hzs
    clear hdg hds hzs hyz hy hz hr hys
    go_enter Tryz.func48, Tryz.ntmps48
    go_wp2_with fail
    rw [← HW.out]
    go_wp2_with (first
      | (go_at_call 61; refine HCT.out.mono ?_; rintro e w1 ⟨g, cap, rfl, hown, hb1⟩; have hc1 : ∀ o, (w1.alloc o).cell? ⟨g, 1, none⟩ = some (.string y) := fun o => own_cell (hown.alloc o) HZS.out; have HB1 := Lib.hid hb1; have hcap := own_le hown; have hl1 : W.heap.size ≤ w1.heap.size := hb1.size; have own3 := own_six w1 w1.heap.size (Nat.le_refl _) 1 0 4 0 5 0; have OWN3 := Lib.hid own3; clear hown hb1 own3)
      | (go_at_call 62; refine (HDG.out _).mono ?_; rintro e w' ⟨rfl, rfl⟩)
      | (at_builtin; refine wpList_append_lies _ rfl _ _ 45 rfl w1.heap.size 53 i0 _ 2 16 Tryz.underlying45 hi0 hz0 hz1 hz2 rfl (by omega) _ 3 (pairCells [(1, 0), (4, 0), (5, 0)]) rfl (OWN3.out.alloc _) ⟨w1.heap.size + 1, 0, none⟩ 3 3 (pairCells [(0, r), (2, r), (3, r)]) rfl rfl (World.news_of_block (cs := (pairCells [(0, r), (2, r), (3, r)]).toArray) (t := 53) (fr := (0, 0)) (heap_alloc2_new w1 _ _)) (by simp [Value.oneCell', pairCells]) (by omega) (by unfold maxLen; omega) (by omega) (by simp; omega) (w1.heap.size + 1 + 1) (by simp) ?_; intro g4 cap4 w4 hown4 hgrow4 hat4 hlt4))
    have hbx : Below W.heap.size W w4 := ((HB1.out.alloc (by omega) _).alloc (by simp; omega) _).grown hgrow4 (by simp; omega) (fun j hj => by have h9 : w1.heap.size = j := Option.some.inj hj; omega)
    have hk4 := own_le2 hown4
    have hdeeds := own_deeds (ds := [(1, 0), (4, 0), (5, 0), (0, r), (2, r), (3, r)]) hown4 rfl hk4
    obtain ⟨ds, hds⟩ : ∃ ds : List (Int × Int), ds = [(1, 0), (4, 0), (5, 0), (0, r), (2, r), (3, r)] := ⟨_, rfl⟩
    rw [← hds] at hdeeds
    have HDS : Hid (candOf s.data.toList = ds) := by show _ = _; rw [hds]; exact HDS0.out
    have hnl : ds.length = 6 := by rw [hds]; rfl
    obtain ⟨W2, hW2⟩ : ∃ W2, W2 = w4 := ⟨_, rfl⟩
    rw [← hW2] at hdeeds hbx
    obtain ⟨a, ha⟩ : ∃ a : Addr, (⟨g4, 0, none⟩ : Addr) = a := ⟨_, rfl⟩
    have hcell : ∀ (j : Nat) (d : Int × Int), ds[j]? = some d → W2.cell? (a.add (j * 2)) = some (.int .i64 d.1) ∧ W2.cell? ⟨(a.add (j * 2)).block, (a.add (j * 2)).off + 1, none⟩ = some (.int .i64 d.2) := by
      rcases hdeeds with ⟨h9, _⟩ | ⟨a', cap', h9, _, h8⟩
      · cases h9
      · simp only [Value.slice.injEq, Option.some.injEq] at h9
        obtain ⟨h7, _, _⟩ := h9
        rw [← ha, h7]
        exact h8
    have hb2 := hb0.trans (hbx.mono hb0.size)
    have hWle : w.heap.size < W2.heap.size := by have := hbx.size; omega
    have HROW := Lib.hid ((hbx.block w.heap.size (by omega)).trans HR0.out)
    have HN := Lib.hid hnl
    have HC := Lib.hid hcell
    rw [ha, ← hW2]
    clear hcell hnl hds hdeeds hbx hgrow4 hown4 hat4 hb0 hW2 ha
    go_loopw [7] (fun i wr => ∃ k : Nat, k ≤ 6 ∧ i = .int .i64 k ∧ Below W2.heap.size W2 wr ∧ Hid (∀ j d, j < k → ds[j]? = some d → s ≠ ⟨#[]⟩ → Tw.str (deedText d.1 d.2) ≠ s)) (fun i _ => 6 - (intOf i).toNat)
    case atStart => exact ⟨0, by omega, rfl, Below.refl _ _, fun j d hj => absurd hj (by omega)⟩
    case round =>
      obtain ⟨k, hk, rfl, hb, HK⟩ := hrel
      by_cases hlt : k < 6
      · obtain ⟨d, hd⟩ : ∃ d, ds[k]? = some d := ⟨ds[k]'(by rw [HN.out]; exact hlt), List.getElem?_eq_getElem (by rw [HN.out]; exact hlt)⟩
        have c0 := cell_keep hb (HC.out k d hd).1
        have c1 := cell_keep hb (HC.out k d hd).2
        have hk3 : (0 : Int) ≤ (k : Int) := by omega
        have hk4 : (k : Int) < 6 := by omega
        have HD := Lib.hid hd
        clear hd
        have hnext : Hid (¬ (s ≠ ⟨#[]⟩ ∧ Tw.str (deedText d.1 d.2) = s) → ∀ j d', j < k + 1 → ds[j]? = some d' → s ≠ ⟨#[]⟩ → Tw.str (deedText d'.1 d'.2) ≠ s) := fun h9 j d' hj hd' h0 h8 => by
          rcases Nat.lt_or_ge j k with h7 | h7
          · exact HK.out j d' h7 hd' h0 h8
          · obtain rfl : j = k := by omega
            rw [HD.out] at hd'
            obtain rfl := Option.some.inj hd'
            exact h9 ⟨h0, h8⟩
        by_cases hs0 : s.size = 0
        · have hemp : Hid (s = ⟨#[]⟩) := nil_of_sizeR hs0
          have hie : s.toList.isEmpty = true := by rw [hemp.out, Lib.toList_data]; rfl
          go_wp2_with fail
          go_roundw
          case rel => exact ⟨k + 1, by omega, by go_num, hb, hnext.out (fun h => h.1 hemp.out)⟩
          case measure => simp [intOf]; omega
        · have hie := notEmptyR (s := s) (by omega)
          have hne : Hid (s ≠ ⟨#[]⟩) := fun h => hs0 (by rw [h]; rfl)
          obtain ⟨t, ht⟩ : ∃ t, Tw.str (deedText d.1 d.2) = t := ⟨_, rfl⟩
          have hdt : Hid (∀ W : World, Calls Tryz.prog 84 #[.agg #[.int .i64 d.1, .int .i64 d.2]] W fun e w' => e = .returned (.string t) ∧ Below W.heap.size W w') := fun W => ht ▸ specDeedText d.1 d.2 W
          have heq := eq_bytes t s
          have HT := Lib.hid ht
          clear ht
          have G0 := Lib.hid c0
          have G1 := Lib.hid c1
          cases hts : decide (t = s)
          · rw [hts] at heq
            have HNS := Lib.hid (of_decide_eq_false hts)
            clear hts
            go_wp2_with (first
              | (go_at_call 84; refine (hdt.out _).mono ?_; rintro e w5 ⟨rfl, hb5⟩))
            go_roundw
            case rel => exact ⟨k + 1, by omega, by go_num, hb.trans (hb5.mono hb.size), hnext.out (fun h => HNS.out (HT.out.symm.trans h.2))⟩
            case measure => simp [intOf]; omega
          · rw [hts] at heq
            have HTS := Lib.hid (of_decide_eq_true hts)
            clear hts
            go_wp2_with (first
              | (go_at_call 84; refine (hdt.out _).mono ?_; rintro e w5 ⟨rfl, hb5⟩; have hb6 := hb.trans (hb5.mono hb.size); have e0 := cell_keep hb5 G0.out; have e1 := cell_keep hb5 G1.out; have hrow := (hb6.block w.heap.size (by omega)).trans HROW.out; have r0 := cell_of_row _ _ 0 _ _ _ hrow; have r1 := cell_of_row _ _ 1 _ _ _ hrow; have f0 := frozen_of_row _ _ 0 _ _ hrow; have f1 := frozen_of_row _ _ 1 _ _ hrow; have q := pair_put hrow (.int .i64 d.1) (.int .i64 d.2); have q0 := cell_of_row _ _ 0 _ _ _ q; have q1 := cell_of_row _ _ 1 _ _ _ q; clear q hrow))
            refine bodyPost_ret (v := .tuple #[.agg #[.int .i64 d.1, .int .i64 d.2], .bool true]) (by simp [results, Tryz.results48, go_sem, q0, q1]) rfl ⟨read_ret (readOf_of (fun h => hne.out (data_nil h)) (str_back (HT.out.trans HTS.out))), ?_⟩
            exact ((hb2.trans (hb6.mono hb2.size)).setCell (Nat.le_refl _) _).setCell (Nat.le_refl _) _
      · obtain rfl : k = 6 := by omega
        have hrow := (hb.block w.heap.size (by omega)).trans HROW.out
        have r0 := cell_of_row _ _ 0 _ _ _ hrow
        have r1 := cell_of_row _ _ 1 _ _ _ hrow
        have f0 := frozen_of_row _ _ 0 _ _ hrow
        have f1 := frozen_of_row _ _ 1 _ _ hrow
        have q := pair_put hrow (.int .i64 0) (.int .i64 0)
        have q0 := cell_of_row _ _ 0 _ _ _ q
        have q1 := cell_of_row _ _ 1 _ _ _ q
        clear q hrow
        go_wp2_with fail
        refine bodyPost_ret (v := .tuple #[.agg #[.int .i64 0, .int .i64 0], .bool false]) (by simp [results, Tryz.results48, go_sem, q0, q1]) rfl ⟨read_ret (cand_none fun d hd h0 h1 => ?_), ?_⟩
        · rw [HDS.out] at hd
          obtain ⟨j, hj, hjd⟩ := List.getElem_of_mem hd
          have hl := HN.out
          exact HK.out j d (by omega) (by rw [List.getElem?_eq_getElem hj, hjd]) (fun h => h0 (by rw [h])) (by rw [h1]; exact Tw.str_of s)
        · exact ((hb2.trans (hb.mono hb2.size)).setCell (Nat.le_refl _) _).setCell (Nat.le_refl _) _
  · have hn3 : ((n : Int) == 2) = false := beq_false_of_ne (by omega)
    have hds0 : candOf s.data.toList = [(1, 0), (4, 0), (5, 0)] := by
      unfold candOf
      rw [if_neg (by rw [HCL.out]; exact hn2)]
    have HDS0 := Lib.hid hds0
    clear hn2 hds0
    go_enter Tryz.func48, Tryz.ntmps48
    go_wp2_with fail
    rw [← HW.out]
    go_wp2_with (first
      | (go_at_call 61; refine HCT.out.mono ?_; rintro e w1 ⟨g, cap, rfl, hown, hb1⟩; have HB1 := Lib.hid hb1; have hl1 : W.heap.size ≤ w1.heap.size := hb1.size; have own3 := own_six w1 w1.heap.size (Nat.le_refl _) 1 0 4 0 5 0; have OWN3 := Lib.hid own3; clear hown hb1 own3))
    have hbx := HB1.out.alloc (by omega) (.cells #[.int .i64 1, .int .i64 0, .int .i64 4, .int .i64 0, .int .i64 5, .int .i64 0] 53)
    have hdeeds := own_deeds (ds := [(1, 0), (4, 0), (5, 0)]) OWN3.out rfl (Nat.le_refl _)
    obtain ⟨ds, hds⟩ : ∃ ds : List (Int × Int), ds = [(1, 0), (4, 0), (5, 0)] := ⟨_, rfl⟩
    rw [← hds] at hdeeds
    have HDS : Hid (candOf s.data.toList = ds) := by show _ = _; rw [hds]; exact HDS0.out
    have hnl : ds.length = 3 := by rw [hds]; rfl
    obtain ⟨W2, hW2⟩ : ∃ W2, W2 = w1.alloc (.cells #[.int .i64 1, .int .i64 0, .int .i64 4, .int .i64 0, .int .i64 5, .int .i64 0] 53) := ⟨_, rfl⟩
    rw [← hW2] at hdeeds hbx
    obtain ⟨a, ha⟩ : ∃ a : Addr, (⟨w1.heap.size, 0, none⟩ : Addr) = a := ⟨_, rfl⟩
    have hcell : ∀ (j : Nat) (d : Int × Int), ds[j]? = some d → W2.cell? (a.add (j * 2)) = some (.int .i64 d.1) ∧ W2.cell? ⟨(a.add (j * 2)).block, (a.add (j * 2)).off + 1, none⟩ = some (.int .i64 d.2) := by
      rcases hdeeds with ⟨h9, _⟩ | ⟨a', cap', h9, _, h8⟩
      · cases h9
      · simp only [Value.slice.injEq, Option.some.injEq] at h9
        obtain ⟨h7, _, _⟩ := h9
        rw [← ha, h7]
        exact h8
    have hb2 := hb0.trans (hbx.mono hb0.size)
    have hWle : w.heap.size < W2.heap.size := by have := hbx.size; omega
    have HROW := Lib.hid ((hbx.block w.heap.size (by omega)).trans HR0.out)
    have HN := Lib.hid hnl
    have HC := Lib.hid hcell
    rw [ha, ← hW2]
    clear hcell hnl hds hdeeds hbx hb0 hW2 ha
    go_loopw [7] (fun i wr => ∃ k : Nat, k ≤ 3 ∧ i = .int .i64 k ∧ Below W2.heap.size W2 wr ∧ Hid (∀ j d, j < k → ds[j]? = some d → s ≠ ⟨#[]⟩ → Tw.str (deedText d.1 d.2) ≠ s)) (fun i _ => 3 - (intOf i).toNat)
    case atStart => exact ⟨0, by omega, rfl, Below.refl _ _, fun j d hj => absurd hj (by omega)⟩
    case round =>
      obtain ⟨k, hk, rfl, hb, HK⟩ := hrel
      by_cases hlt : k < 3
      · obtain ⟨d, hd⟩ : ∃ d, ds[k]? = some d := ⟨ds[k]'(by rw [HN.out]; exact hlt), List.getElem?_eq_getElem (by rw [HN.out]; exact hlt)⟩
        have c0 := cell_keep hb (HC.out k d hd).1
        have c1 := cell_keep hb (HC.out k d hd).2
        have hk3 : (0 : Int) ≤ (k : Int) := by omega
        have hk4 : (k : Int) < 3 := by omega
        have HD := Lib.hid hd
        clear hd
        have hnext : Hid (¬ (s ≠ ⟨#[]⟩ ∧ Tw.str (deedText d.1 d.2) = s) → ∀ j d', j < k + 1 → ds[j]? = some d' → s ≠ ⟨#[]⟩ → Tw.str (deedText d'.1 d'.2) ≠ s) := fun h9 j d' hj hd' h0 h8 => by
          rcases Nat.lt_or_ge j k with h7 | h7
          · exact HK.out j d' h7 hd' h0 h8
          · obtain rfl : j = k := by omega
            rw [HD.out] at hd'
            obtain rfl := Option.some.inj hd'
            exact h9 ⟨h0, h8⟩
        by_cases hs0 : s.size = 0
        · have hemp : Hid (s = ⟨#[]⟩) := nil_of_sizeR hs0
          have hie : s.toList.isEmpty = true := by rw [hemp.out, Lib.toList_data]; rfl
          go_wp2_with fail
          go_roundw
          case rel => exact ⟨k + 1, by omega, by go_num, hb, hnext.out (fun h => h.1 hemp.out)⟩
          case measure => simp [intOf]; omega
        · have hie := notEmptyR (s := s) (by omega)
          have hne : Hid (s ≠ ⟨#[]⟩) := fun h => hs0 (by rw [h]; rfl)
          obtain ⟨t, ht⟩ : ∃ t, Tw.str (deedText d.1 d.2) = t := ⟨_, rfl⟩
          have hdt : Hid (∀ W : World, Calls Tryz.prog 84 #[.agg #[.int .i64 d.1, .int .i64 d.2]] W fun e w' => e = .returned (.string t) ∧ Below W.heap.size W w') := fun W => ht ▸ specDeedText d.1 d.2 W
          have heq := eq_bytes t s
          have HT := Lib.hid ht
          clear ht
          have G0 := Lib.hid c0
          have G1 := Lib.hid c1
          cases hts : decide (t = s)
          · rw [hts] at heq
            have HNS := Lib.hid (of_decide_eq_false hts)
            clear hts
            go_wp2_with (first
              | (go_at_call 84; refine (hdt.out _).mono ?_; rintro e w5 ⟨rfl, hb5⟩))
            go_roundw
            case rel => exact ⟨k + 1, by omega, by go_num, hb.trans (hb5.mono hb.size), hnext.out (fun h => HNS.out (HT.out.symm.trans h.2))⟩
            case measure => simp [intOf]; omega
          · rw [hts] at heq
            have HTS := Lib.hid (of_decide_eq_true hts)
            clear hts
            go_wp2_with (first
              | (go_at_call 84; refine (hdt.out _).mono ?_; rintro e w5 ⟨rfl, hb5⟩; have hb6 := hb.trans (hb5.mono hb.size); have e0 := cell_keep hb5 G0.out; have e1 := cell_keep hb5 G1.out; have hrow := (hb6.block w.heap.size (by omega)).trans HROW.out; have r0 := cell_of_row _ _ 0 _ _ _ hrow; have r1 := cell_of_row _ _ 1 _ _ _ hrow; have f0 := frozen_of_row _ _ 0 _ _ hrow; have f1 := frozen_of_row _ _ 1 _ _ hrow; have q := pair_put hrow (.int .i64 d.1) (.int .i64 d.2); have q0 := cell_of_row _ _ 0 _ _ _ q; have q1 := cell_of_row _ _ 1 _ _ _ q; clear q hrow))
            refine bodyPost_ret (v := .tuple #[.agg #[.int .i64 d.1, .int .i64 d.2], .bool true]) (by simp [results, Tryz.results48, go_sem, q0, q1]) rfl ⟨read_ret (readOf_of (fun h => hne.out (data_nil h)) (str_back (HT.out.trans HTS.out))), ?_⟩
            exact ((hb2.trans (hb6.mono hb2.size)).setCell (Nat.le_refl _) _).setCell (Nat.le_refl _) _
      · obtain rfl : k = 3 := by omega
        have hrow := (hb.block w.heap.size (by omega)).trans HROW.out
        have r0 := cell_of_row _ _ 0 _ _ _ hrow
        have r1 := cell_of_row _ _ 1 _ _ _ hrow
        have f0 := frozen_of_row _ _ 0 _ _ hrow
        have f1 := frozen_of_row _ _ 1 _ _ hrow
        have q := pair_put hrow (.int .i64 0) (.int .i64 0)
        have q0 := cell_of_row _ _ 0 _ _ _ q
        have q1 := cell_of_row _ _ 1 _ _ _ q
        clear q hrow
        go_wp2_with fail
        refine bodyPost_ret (v := .tuple #[.agg #[.int .i64 0, .int .i64 0], .bool false]) (by simp [results, Tryz.results48, go_sem, q0, q1]) rfl ⟨read_ret (cand_none fun d hd h0 h1 => ?_), ?_⟩
        · rw [HDS.out] at hd
          obtain ⟨j, hj, hjd⟩ := List.getElem_of_mem hd
          have hl := HN.out
          exact HK.out j d (by omega) (by rw [List.getElem?_eq_getElem hj, hjd]) (fun h => h0 (by rw [h])) (by rw [h1]; exact Tw.str_of s)
        · exact ((hb2.trans (hb.mono hb2.size)).setCell (Nat.le_refl _) _).setCell (Nat.le_refl _) _

end Go.Proofs.YtccdfndnjjjgfaaGreatDoor

namespace Go.Proofs.YtccdfndnjjjgfaaGreatDoor
open Go.RowKit

theorem north_of {b : UInt8} : Tw.north (Tw.dir b) = if b = 110 then 1 else if b = 115 then -1 else 0 := by
  unfold Tw.dir
  by_cases h1 : b = 101
  · subst h1; rfl
  · by_cases h2 : b = 110
    · subst h2; rfl
    · by_cases h3 : b = 119
      · subst h3; rfl
      · by_cases h4 : b = 115
        · subst h4; rfl
        · rw [if_neg h1, if_neg h2, if_neg h3, if_neg h4, if_neg h2, if_neg h4]
          rfl
set_option maxRecDepth 100000 in
set_option maxHeartbeats 1600000 in
theorem specAreaOf (s : ByteArray) (w : World) (hs : s.size ≤ 1048576) :
    Calls Tryz.prog 58 #[.string s] w fun e w' => e = .returned (.tuple #[.int .i64 (areaRes s.data.toList), .bool (Tw.closed s.data.toList)]) ∧ Below w.heap.size w w' := by
  have hc := specClosedOk s w hs
  cases hcl : Tw.closed s.data.toList
  · rw [hcl] at hc
    have HC := Lib.hid hc
    have HCL := Lib.hid hcl
    clear hc hcl
    go_enter Tryz.func58, Tryz.ntmps58
    go_wp2_with (first | (go_at_call 53; refine HC.out.mono ?_; rintro e w1 ⟨rfl, hb1⟩))
    go_ret2
    exact ⟨by rw [areaRes, HCL.out]; rfl, hb1⟩
  · rw [hcl] at hc
    have HC := Lib.hid hc
    have HCL := Lib.hid hcl
    have HOK := Lib.hid (Tw.closed_ok hcl)
    have h40 : s.size ≤ 40 := by have := Tw.walkOk_len HOK.out; rwa [size_data] at this
    obtain ⟨ps, hps⟩ : ∃ ps, Tw.places s.data.toList = ps := ⟨_, rfl⟩
    obtain ⟨n, hn⟩ : ∃ n, ps.length = n := ⟨_, rfl⟩
    have hn1 : n = s.size + 1 := by rw [← hn, ← hps, Tw.places_length, size_data]
    have HAT : Hid (∀ k, k < s.size → ps[k]? = some (Tw.placeAt s.data.toList k)) := fun k hk => by
      rw [← hps]
      exact Tw.placesTo_get? _ _ _ (by rw [size_data]; omega)
    have HPS := Lib.hid hps
    have HN := Lib.hid hn
    have hn2 : s.size < n := by omega
    clear hc hcl hps hn hn1
    go_enter Tryz.func58, Tryz.ntmps58
    go_wp2_with (first
      | (go_at_call 53; refine HC.out.mono ?_; rintro e w1 ⟨rfl, hb1⟩)
      | (go_at_call 50; refine (specPlacesOf_n _ _ hs HOK.out ps n HPS.out HN.out).mono ?_; rintro e w2 ⟨g, cap, bs, rfl, hbl, hown, hrows, hb2'⟩; have hb2 := hb1.trans (hb2'.mono hb1.size)))
    have HB := Lib.hid hb2
    have hcell : Hid (∀ (i : Nat), i < s.size → ∃ b : Nat, w2.cell? ⟨g, i, none⟩ = some (.slice (some ⟨b, 0, none⟩) 2 2) ∧ w2.cell? ⟨b, 0, none⟩ = some (.int .i64 (Tw.placeAt s.data.toList i).1)) := by
      intro i hi
      have hbb : bs[i]? = some (bs[i]'(by rw [hbl]; omega)) := List.getElem?_eq_getElem _
      have hh := hrows i _ _ (HAT.out i hi) hbb
      exact ⟨_, row_cell hown hbb, (pair_cells hh).1⟩
    clear hb1 hb2 hb2' hrows hown hbl
    go_loop [4, 6] (fun t i => ∃ (k : Nat) (m : Int), i = .int .i64 k ∧ k ≤ s.size ∧ t = .int .i64 m ∧ Hid (areaTo s.data.toList k = m) ∧ -40 * (k : Int) ≤ m ∧ m ≤ 40 * (k : Int)) (fun _ i => s.size - (intOf i).toNat)
    case atStart => exact ⟨0, 0, rfl, Nat.zero_le _, rfl, rfl, by omega, by omega⟩
    case round =>
      obtain ⟨k, m, rfl, hk, rfl, HT, hm0, hm1⟩ := hrel
      by_cases hlt : k < s.size
      · obtain ⟨b, c0, c1⟩ := hcell.out k hlt
        have hr := Tw.placeAt_range s.data.toList k
        have hsucc : areaTo s.data.toList (k + 1) = areaTo s.data.toList k + (Tw.placeAt s.data.toList k).1 * Tw.north (Tw.dir s[k]) := areaTo_succ (by rw [size_data]; exact hlt)
        obtain ⟨p, hp⟩ : ∃ p, (Tw.placeAt s.data.toList k).1 = p := ⟨_, rfl⟩
        rw [hp] at hr hsucc c1
        have i1 : (0 : Int) ≤ (k : Int) := by omega
        have i2 : (k : Int) < (n : Int) := by omega
        have h1 := hr.1
        have h2 := hr.2.1
        have HSU := Lib.hid hsucc
        have hz1 := IntWalk.i64_in (m + p) ⟨by omega, by omega⟩
        have hz2 := IntWalk.i64_in (m - p) ⟨by omega, by omega⟩
        clear hr hsucc hp
        go_wp2_with fail
        all_goals
          go_round
          case rel =>
            first
              | (have h := eq_of_nat (b := s[k]) (n := 110) (by assumption); exact ⟨k + 1, _, by go_num, by omega, rfl, (by show _ = _; rw [HSU.out, HT.out, h]; simp [Tw.north, Tw.dir]), by omega, by omega⟩)
              | (have h := eq_of_nat (b := s[k]) (n := 115) (by assumption); exact ⟨k + 1, _, by go_num, by omega, rfl, (by show _ = _; rw [HSU.out, HT.out, h, north_of]; simp; omega), by omega, by omega⟩)
              | exact ⟨k + 1, _, by go_num, by omega, rfl, (by have e1 := ne_of_nat (b := s[k]) (n := 110) (by omega) (by assumption); have e2 := ne_of_nat (b := s[k]) (n := 115) (by omega) (by assumption); show _ = _; rw [HSU.out, HT.out, north_of, if_neg (show ¬ s[k] = 110 from e1), if_neg (show ¬ s[k] = 115 from e2)]; omega), by omega, by omega⟩
          case measure => simp [intOf]; omega
      · obtain rfl : k = s.size := by omega
        go_wp2_with fail
        go_ret2
        refine ⟨?_, HB.out⟩
        rw [areaRes, HCL.out, ← HT.out, ← areaTo_all, size_data]
        rfl

end Go.Proofs.YtccdfndnjjjgfaaGreatDoor

namespace Go.Proofs.YtccdfndnjjjgfaaGreatDoor
open Go.RowKit

theorem letter_four {c : UInt8} (h : 0 ≤ Tw.dir c) : c = 101 ∨ c = 110 ∨ c = 119 ∨ c = 115 := by
  unfold Tw.dir at h
  by_cases h1 : c = 101
  · exact .inl h1
  · by_cases h2 : c = 110
    · exact .inr (.inl h2)
    · by_cases h3 : c = 119
      · exact .inr (.inr (.inl h3))
      · by_cases h4 : c = 115
        · exact .inr (.inr (.inr h4))
        · rw [if_neg h1, if_neg h2, if_neg h3, if_neg h4] at h
          omega
/-- The steps laid and the place behind one more letter. -/
theorem ups_e {l : List UInt8} {k : Nat} (hk : k < l.length) (h : l[k] = 101) : Tw.upsTo l (k + 1) = Tw.upsTo l k ∧ Tw.placeAt l (k + 1) = ((Tw.placeAt l k).1 + 1, (Tw.placeAt l k).2) := by
  rw [Tw.upsTo_succ hk, Tw.placeAt_succ l k hk, h]
  exact ⟨List.append_nil _, by show (_ + Tw.east (Tw.dir 101), _ + Tw.north (Tw.dir 101)) = _; rw [show Tw.east (Tw.dir 101) = 1 from rfl, show Tw.north (Tw.dir 101) = 0 from rfl, Int.add_zero]⟩
theorem ups_w {l : List UInt8} {k : Nat} (hk : k < l.length) (h : l[k] = 119) : Tw.upsTo l (k + 1) = Tw.upsTo l k ∧ Tw.placeAt l (k + 1) = ((Tw.placeAt l k).1 - 1, (Tw.placeAt l k).2) := by
  rw [Tw.upsTo_succ hk, Tw.placeAt_succ l k hk, h]
  exact ⟨List.append_nil _, by show (_ + Tw.east (Tw.dir 119), _ + Tw.north (Tw.dir 119)) = _; rw [show Tw.east (Tw.dir 119) = -1 from rfl, show Tw.north (Tw.dir 119) = 0 from rfl, Int.add_zero]; rfl⟩
theorem ups_n {l : List UInt8} {k : Nat} (hk : k < l.length) (h : l[k] = 110) : Tw.upsTo l (k + 1) = Tw.upsTo l k ++ [((Tw.placeAt l k).1, (Tw.placeAt l k).2, 1)] ∧ Tw.placeAt l (k + 1) = ((Tw.placeAt l k).1, (Tw.placeAt l k).2 + 1) := by
  rw [Tw.upsTo_succ hk, Tw.placeAt_succ l k hk, h]
  refine ⟨?_, by show (_ + Tw.east (Tw.dir 110), _ + Tw.north (Tw.dir 110)) = _; rw [show Tw.east (Tw.dir 110) = 0 from rfl, show Tw.north (Tw.dir 110) = 1 from rfl, Int.add_zero]⟩
  rw [show Tw.north (Tw.dir 110) = 1 from rfl, if_neg (by decide)]
  congr 3
  rw [Int.min_eq_left (by omega)]
theorem ups_s {l : List UInt8} {k : Nat} (hk : k < l.length) (h : l[k] = 115) : Tw.upsTo l (k + 1) = Tw.upsTo l k ++ [((Tw.placeAt l k).1, (Tw.placeAt l k).2 - 1, -1)] ∧ Tw.placeAt l (k + 1) = ((Tw.placeAt l k).1, (Tw.placeAt l k).2 - 1) := by
  rw [Tw.upsTo_succ hk, Tw.placeAt_succ l k hk, h]
  refine ⟨?_, by show (_ + Tw.east (Tw.dir 115), _ + Tw.north (Tw.dir 115)) = _; rw [show Tw.east (Tw.dir 115) = 0 from rfl, show Tw.north (Tw.dir 115) = -1 from rfl, Int.add_zero]; rfl⟩
  rw [show Tw.north (Tw.dir 115) = -1 from rfl, if_neg (by decide)]
  congr 3
  rw [Int.min_eq_right (by omega)]
  rfl
theorem upsTo_signs {l : List UInt8} {k : Nat} : ∀ u ∈ Tw.upsTo l k, u.2.2 = 1 ∨ u.2.2 = -1 := Tw.ups_signs
theorem upsTo_len {l : List UInt8} {k : Nat} : (Tw.upsTo l k).length ≤ k := by
  have := Tw.ups_len (l.take k) (0, 0)
  rw [List.length_take] at this
  exact Nat.le_trans this (Nat.min_le_left _ _)
theorem int_nat_one (r : Nat) : ((r : Int) == 1) = (r == 1) := by
  rw [Bool.eq_iff_iff, beq_iff_eq, beq_iff_eq]
  omega

set_option maxRecDepth 100000 in
set_option maxHeartbeats 3200000 in
theorem specWindingOf (s : ByteArray) (x y : Int) (w : World) (hs : s.size ≤ 1048576) (hcl : Tw.closed s.data.toList = true) :
    Calls Tryz.prog 108 #[.string s, .int .i64 x, .int .i64 y] w fun e w' => e = .returned (.int .i64 (Tw.wind (Tw.ups s.data.toList) x y)) ∧ Below w.heap.size w w' := by
  have hc := specClosedOk s w hs
  rw [hcl] at hc
  have HC := Lib.hid hc
  have HOK := Lib.hid (Tw.closed_ok hcl)
  have h40 : s.size ≤ 40 := by have := Tw.walkOk_len HOK.out; rwa [size_data] at this
  clear hc hcl
  go_enter Tryz.func108, Tryz.ntmps108
  go_wp2_with (first
    | (go_at_call 53; refine HC.out.mono ?_; rintro e w1 ⟨rfl, hb1⟩))
  have HB := Lib.hid hb1
  clear hb1
  go_loop [7, 8, 9, 10] (fun n a b i => ∃ (k : Nat) (m p q : Int), i = .int .i64 k ∧ k ≤ s.size ∧ n = .int .i64 m ∧ a = .int .i64 p ∧ b = .int .i64 q ∧ -40 ≤ p ∧ p ≤ 40 ∧ -40 ≤ q ∧ q ≤ 40 ∧ -40 ≤ m ∧ m ≤ 40 ∧ Hid (Tw.placeAt s.data.toList k = (p, q)) ∧ Hid (Tw.wind (Tw.upsTo s.data.toList k) x y = m)) (fun _ _ _ i => s.size - (intOf i).toNat)
  case atStart => exact ⟨0, 0, 0, 0, rfl, Nat.zero_le _, rfl, rfl, rfl, by omega, by omega, by omega, by omega, by omega, by omega, by show _ = _; rw [Tw.placeAt_zero], rfl⟩
  case round =>
    obtain ⟨k, m, p, q, rfl, hk, rfl, rfl, rfl, hp0, hp1, hq0, hq1, hm0, hm1, HP, HW⟩ := hrel
    by_cases hlt : k < s.size
    · have hl : k < s.data.toList.length := by rw [size_data]; exact hlt
      have hd : 0 ≤ Tw.dir s[k] := Tw.walkOk_dir HOK.out (k := k) (by rw [size_data]; exact hlt)
      have HRG : Hid (-40 ≤ (Tw.placeAt s.data.toList (k + 1)).1 ∧ (Tw.placeAt s.data.toList (k + 1)).1 ≤ 40 ∧ -40 ≤ (Tw.placeAt s.data.toList (k + 1)).2 ∧ (Tw.placeAt s.data.toList (k + 1)).2 ≤ 40) := by
        have := Tw.placeAt_range s.data.toList (k + 1)
        exact ⟨by omega, by omega, by omega, by omega⟩
      have HWB : Hid (-40 ≤ Tw.wind (Tw.upsTo s.data.toList (k + 1)) x y ∧ Tw.wind (Tw.upsTo s.data.toList (k + 1)) x y ≤ 40) := by
        have h1 := Tw.wind_farther (Tw.upsTo s.data.toList (k + 1)) x y upsTo_signs
        have h2 := upsTo_len (l := s.data.toList) (k := k + 1)
        exact ⟨by omega, by omega⟩
      have hi0 : (0 : Int) ≤ (k : Int) := by omega
      have hi1 : (k : Int) < (s.size : Int) := by omega
      rcases letter_four hd with hc | hc | hc | hc
      · have hu := ups_e hl hc
        rw [HP.out] at hu
        have HU := Lib.hid hu
        have hn : (s[k].toNat : Int) = 101 := by rw [hc]; rfl
        clear hu hc hd
        go_wp2_with fail
        go_round
        case rel =>
          have h1 := HU.out.1
          have h2 := HU.out.2
          have h3 := HRG.out
          rw [h2] at h3
          exact ⟨k + 1, m, p + 1, q, by go_num, by omega, rfl, rfl, rfl, h3.1, h3.2.1, h3.2.2.1, h3.2.2.2, hm0, hm1, h2, by show _ = _; rw [h1]; exact HW.out⟩
        case measure => simp [intOf]; omega
      · have hu := ups_n hl hc
        rw [HP.out] at hu
        have HU := Lib.hid hu
        have hn : (s[k].toNat : Int) = 110 := by rw [hc]; rfl
        clear hu hc hd
        by_cases hy : q = y
        · have HY := Lib.hid hy
          have hb : (q == y) = true := beq_iff_eq.2 hy
          clear hy
          by_cases hx : x < p
          · have HX := Lib.hid hx
            go_wp2_with fail
            go_round
            case rel =>
              have h1 := HU.out.1
              have h2 := HU.out.2
              have h3 := HRG.out
              have h4 := HWB.out
              rw [h2] at h3
              have e : Tw.wind (Tw.upsTo s.data.toList (k + 1)) x y = m + 1 := by rw [h1, Tw.wind_append, Tw.wind_one, HW.out]; unfold Tw.oneWind; rw [if_pos ⟨HY.out, HX.out⟩]
              rw [e] at h4
              exact ⟨k + 1, m + 1, p, q + 1, by go_num, by omega, rfl, rfl, rfl, h3.1, h3.2.1, h3.2.2.1, h3.2.2.2, h4.1, h4.2, h2, e⟩
            case measure => simp [intOf]; omega
          · have HNO : Hid (¬ (q = y ∧ x < p)) := fun h => hx h.2
            go_wp2_with fail
            go_round
            case rel =>
              have h1 := HU.out.1
              have h2 := HU.out.2
              have h3 := HRG.out
              have h4 := HWB.out
              rw [h2] at h3
              have e : Tw.wind (Tw.upsTo s.data.toList (k + 1)) x y = m := by rw [h1, Tw.wind_append, Tw.wind_one, HW.out]; unfold Tw.oneWind; rw [if_neg HNO.out]; exact Int.add_zero _
              rw [e] at h4
              exact ⟨k + 1, m, p, q + 1, by go_num, by omega, rfl, rfl, rfl, h3.1, h3.2.1, h3.2.2.1, h3.2.2.2, h4.1, h4.2, h2, e⟩
            case measure => simp [intOf]; omega
        · have hb : (q == y) = false := beq_false_of_ne hy
          have HNO : Hid (¬ (q = y ∧ x < p)) := fun h => hy h.1
          clear hy
          go_wp2_with fail
          go_round
          case rel =>
            have h1 := HU.out.1
            have h2 := HU.out.2
            have h3 := HRG.out
            have h4 := HWB.out
            rw [h2] at h3
            have e : Tw.wind (Tw.upsTo s.data.toList (k + 1)) x y = m := by rw [h1, Tw.wind_append, Tw.wind_one, HW.out]; unfold Tw.oneWind; rw [if_neg HNO.out]; exact Int.add_zero _
            rw [e] at h4
            exact ⟨k + 1, m, p, q + 1, by go_num, by omega, rfl, rfl, rfl, h3.1, h3.2.1, h3.2.2.1, h3.2.2.2, h4.1, h4.2, h2, e⟩
          case measure => simp [intOf]; omega
      · have hu := ups_w hl hc
        rw [HP.out] at hu
        have HU := Lib.hid hu
        have hn : (s[k].toNat : Int) = 119 := by rw [hc]; rfl
        clear hu hc hd
        go_wp2_with fail
        go_round
        case rel =>
          have h1 := HU.out.1
          have h2 := HU.out.2
          have h3 := HRG.out
          rw [h2] at h3
          exact ⟨k + 1, m, p - 1, q, by go_num, by omega, rfl, rfl, rfl, h3.1, h3.2.1, h3.2.2.1, h3.2.2.2, hm0, hm1, h2, by show _ = _; rw [h1]; exact HW.out⟩
        case measure => simp [intOf]; omega
      · have hu := ups_s hl hc
        rw [HP.out] at hu
        have HU := Lib.hid hu
        have hn : (s[k].toNat : Int) = 115 := by rw [hc]; rfl
        clear hu hc hd
        by_cases hy : q - 1 = y
        · have HY := Lib.hid hy
          have hb : (q - 1 == y) = true := beq_iff_eq.2 hy
          clear hy
          by_cases hx : x < p
          · have HX := Lib.hid hx
            go_wp2_with fail
            go_round
            case rel =>
              have h1 := HU.out.1
              have h2 := HU.out.2
              have h3 := HRG.out
              have h4 := HWB.out
              rw [h2] at h3
              have e : Tw.wind (Tw.upsTo s.data.toList (k + 1)) x y = m - 1 := by rw [h1, Tw.wind_append, Tw.wind_one, HW.out]; unfold Tw.oneWind; rw [if_pos ⟨HY.out, HX.out⟩]; rfl
              rw [e] at h4
              exact ⟨k + 1, m - 1, p, q - 1, by go_num, by omega, rfl, rfl, rfl, h3.1, h3.2.1, h3.2.2.1, h3.2.2.2, h4.1, h4.2, h2, e⟩
            case measure => simp [intOf]; omega
          · have HNO : Hid (¬ ((q - 1) = y ∧ x < p)) := fun h => hx h.2
            go_wp2_with fail
            go_round
            case rel =>
              have h1 := HU.out.1
              have h2 := HU.out.2
              have h3 := HRG.out
              have h4 := HWB.out
              rw [h2] at h3
              have e : Tw.wind (Tw.upsTo s.data.toList (k + 1)) x y = m := by rw [h1, Tw.wind_append, Tw.wind_one, HW.out]; unfold Tw.oneWind; rw [if_neg HNO.out]; exact Int.add_zero _
              rw [e] at h4
              exact ⟨k + 1, m, p, q - 1, by go_num, by omega, rfl, rfl, rfl, h3.1, h3.2.1, h3.2.2.1, h3.2.2.2, h4.1, h4.2, h2, e⟩
            case measure => simp [intOf]; omega
        · have hb : (q - 1 == y) = false := beq_false_of_ne hy
          have HNO : Hid (¬ ((q - 1) = y ∧ x < p)) := fun h => hy h.1
          clear hy
          go_wp2_with fail
          go_round
          case rel =>
            have h1 := HU.out.1
            have h2 := HU.out.2
            have h3 := HRG.out
            have h4 := HWB.out
            rw [h2] at h3
            have e : Tw.wind (Tw.upsTo s.data.toList (k + 1)) x y = m := by rw [h1, Tw.wind_append, Tw.wind_one, HW.out]; unfold Tw.oneWind; rw [if_neg HNO.out]; exact Int.add_zero _
            rw [e] at h4
            exact ⟨k + 1, m, p, q - 1, by go_num, by omega, rfl, rfl, rfl, h3.1, h3.2.1, h3.2.2.1, h3.2.2.2, h4.1, h4.2, h2, e⟩
          case measure => simp [intOf]; omega
    · obtain rfl : k = s.size := by omega
      go_wp2_with fail
      go_ret
      refine ⟨?_, HB.out⟩
      have e := HW.out
      rw [← size_data, Tw.upsTo_all] at e
      rw [e]
      rfl

set_option maxRecDepth 100000 in
set_option maxHeartbeats 3200000 in
theorem specWithin (s : ByteArray) (x y : Int) (w : World) (hok : Tw.walkOk s.data.toList = true) :
    Calls Tryz.prog 109 #[.string s, .int .i64 x, .int .i64 y] w fun e w' => e = .returned (.bool (Tw.odd1 (Tw.ups s.data.toList) x y == 1)) ∧ w = w' := by
  have HOK := Lib.hid hok
  have h40 : s.size ≤ 40 := by have := Tw.walkOk_len HOK.out; rwa [size_data] at this
  clear hok
  go_enter Tryz.func109, Tryz.ntmps109
  go_wp2
  go_loop [7, 8, 9, 10] (fun n a b i => ∃ (k m : Nat) (p q : Int), i = .int .i64 k ∧ k ≤ s.size ∧ n = .int .i64 m ∧ a = .int .i64 p ∧ b = .int .i64 q ∧ -40 ≤ p ∧ p ≤ 40 ∧ -40 ≤ q ∧ q ≤ 40 ∧ m ≤ 40 ∧ Hid (Tw.placeAt s.data.toList k = (p, q)) ∧ Hid (Tw.farther (Tw.upsTo s.data.toList k) x y = m)) (fun _ _ _ i => s.size - (intOf i).toNat)
  case atStart => exact ⟨0, 0, 0, 0, rfl, Nat.zero_le _, rfl, rfl, rfl, by omega, by omega, by omega, by omega, by omega, by show _ = _; rw [Tw.placeAt_zero], rfl⟩
  case round =>
    obtain ⟨k, m, p, q, rfl, hk, rfl, rfl, rfl, hp0, hp1, hq0, hq1, hm1, HP, HW⟩ := hrel
    by_cases hlt : k < s.size
    · have hl : k < s.data.toList.length := by rw [size_data]; exact hlt
      have hd : 0 ≤ Tw.dir s[k] := Tw.walkOk_dir HOK.out (k := k) (by rw [size_data]; exact hlt)
      have HRG : Hid (-40 ≤ (Tw.placeAt s.data.toList (k + 1)).1 ∧ (Tw.placeAt s.data.toList (k + 1)).1 ≤ 40 ∧ -40 ≤ (Tw.placeAt s.data.toList (k + 1)).2 ∧ (Tw.placeAt s.data.toList (k + 1)).2 ≤ 40) := by
        have := Tw.placeAt_range s.data.toList (k + 1)
        exact ⟨by omega, by omega, by omega, by omega⟩
      have HWB : Hid (Tw.farther (Tw.upsTo s.data.toList (k + 1)) x y ≤ 40) := by
        have h1 := Tw.wind_farther (Tw.upsTo s.data.toList (k + 1)) x y upsTo_signs
        have h2 := upsTo_len (l := s.data.toList) (k := k + 1)
        show _ ≤ _
        omega
      have hi0 : (0 : Int) ≤ (k : Int) := by omega
      have hi1 : (k : Int) < (s.size : Int) := by omega
      rcases letter_four hd with hc | hc | hc | hc
      · have hu := ups_e hl hc
        rw [HP.out] at hu
        have HU := Lib.hid hu
        have hn : (s[k].toNat : Int) = 101 := by rw [hc]; rfl
        clear hu hc hd
        go_wp2_with fail
        go_round
        case rel =>
          have h1 := HU.out.1
          have h2 := HU.out.2
          have h3 := HRG.out
          rw [h2] at h3
          exact ⟨k + 1, m, p + 1, q, by go_num, by omega, rfl, rfl, rfl, h3.1, h3.2.1, h3.2.2.1, h3.2.2.2, hm1, h2, by show _ = _; rw [h1]; exact HW.out⟩
        case measure => simp [intOf]; omega
      · have hu := ups_n hl hc
        rw [HP.out] at hu
        have HU := Lib.hid hu
        have hn : (s[k].toNat : Int) = 110 := by rw [hc]; rfl
        clear hu hc hd
        by_cases hy : q = y
        · have HY := Lib.hid hy
          have hb : (q == y) = true := beq_iff_eq.2 hy
          clear hy
          by_cases hx : x < p
          · have HX := Lib.hid hx
            go_wp2_with fail
            go_round
            case rel =>
              have h1 := HU.out.1
              have h2 := HU.out.2
              have h3 := HRG.out
              have h4 := HWB.out
              rw [h2] at h3
              have e : Tw.farther (Tw.upsTo s.data.toList (k + 1)) x y = m + 1 := by rw [h1, Tw.farther_append, Tw.farther_one, HW.out]; unfold Tw.oneOdd; rw [if_pos ⟨HY.out, HX.out⟩]
              rw [e] at h4
              exact ⟨k + 1, m + 1, p, q + 1, by go_num, by omega, (by go_num), rfl, rfl, h3.1, h3.2.1, h3.2.2.1, h3.2.2.2, h4, h2, e⟩
            case measure => simp [intOf]; omega
          · have HNO : Hid (¬ (q = y ∧ x < p)) := fun h => hx h.2
            go_wp2_with fail
            go_round
            case rel =>
              have h1 := HU.out.1
              have h2 := HU.out.2
              have h3 := HRG.out
              have h4 := HWB.out
              rw [h2] at h3
              have e : Tw.farther (Tw.upsTo s.data.toList (k + 1)) x y = m := by rw [h1, Tw.farther_append, Tw.farther_one, HW.out]; unfold Tw.oneOdd; rw [if_neg HNO.out]; rfl
              rw [e] at h4
              exact ⟨k + 1, m, p, q + 1, by go_num, by omega, rfl, rfl, rfl, h3.1, h3.2.1, h3.2.2.1, h3.2.2.2, h4, h2, e⟩
            case measure => simp [intOf]; omega
        · have hb : (q == y) = false := beq_false_of_ne hy
          have HNO : Hid (¬ (q = y ∧ x < p)) := fun h => hy h.1
          clear hy
          go_wp2_with fail
          go_round
          case rel =>
            have h1 := HU.out.1
            have h2 := HU.out.2
            have h3 := HRG.out
            have h4 := HWB.out
            rw [h2] at h3
            have e : Tw.farther (Tw.upsTo s.data.toList (k + 1)) x y = m := by rw [h1, Tw.farther_append, Tw.farther_one, HW.out]; unfold Tw.oneOdd; rw [if_neg HNO.out]; rfl
            rw [e] at h4
            exact ⟨k + 1, m, p, q + 1, by go_num, by omega, rfl, rfl, rfl, h3.1, h3.2.1, h3.2.2.1, h3.2.2.2, h4, h2, e⟩
          case measure => simp [intOf]; omega
      · have hu := ups_w hl hc
        rw [HP.out] at hu
        have HU := Lib.hid hu
        have hn : (s[k].toNat : Int) = 119 := by rw [hc]; rfl
        clear hu hc hd
        go_wp2_with fail
        go_round
        case rel =>
          have h1 := HU.out.1
          have h2 := HU.out.2
          have h3 := HRG.out
          rw [h2] at h3
          exact ⟨k + 1, m, p - 1, q, by go_num, by omega, rfl, rfl, rfl, h3.1, h3.2.1, h3.2.2.1, h3.2.2.2, hm1, h2, by show _ = _; rw [h1]; exact HW.out⟩
        case measure => simp [intOf]; omega
      · have hu := ups_s hl hc
        rw [HP.out] at hu
        have HU := Lib.hid hu
        have hn : (s[k].toNat : Int) = 115 := by rw [hc]; rfl
        clear hu hc hd
        by_cases hy : q - 1 = y
        · have HY := Lib.hid hy
          have hb : (q - 1 == y) = true := beq_iff_eq.2 hy
          clear hy
          by_cases hx : x < p
          · have HX := Lib.hid hx
            go_wp2_with fail
            go_round
            case rel =>
              have h1 := HU.out.1
              have h2 := HU.out.2
              have h3 := HRG.out
              have h4 := HWB.out
              rw [h2] at h3
              have e : Tw.farther (Tw.upsTo s.data.toList (k + 1)) x y = m + 1 := by rw [h1, Tw.farther_append, Tw.farther_one, HW.out]; unfold Tw.oneOdd; rw [if_pos ⟨HY.out, HX.out⟩]
              rw [e] at h4
              exact ⟨k + 1, m + 1, p, q - 1, by go_num, by omega, (by go_num), rfl, rfl, h3.1, h3.2.1, h3.2.2.1, h3.2.2.2, h4, h2, e⟩
            case measure => simp [intOf]; omega
          · have HNO : Hid (¬ ((q - 1) = y ∧ x < p)) := fun h => hx h.2
            go_wp2_with fail
            go_round
            case rel =>
              have h1 := HU.out.1
              have h2 := HU.out.2
              have h3 := HRG.out
              have h4 := HWB.out
              rw [h2] at h3
              have e : Tw.farther (Tw.upsTo s.data.toList (k + 1)) x y = m := by rw [h1, Tw.farther_append, Tw.farther_one, HW.out]; unfold Tw.oneOdd; rw [if_neg HNO.out]; rfl
              rw [e] at h4
              exact ⟨k + 1, m, p, q - 1, by go_num, by omega, rfl, rfl, rfl, h3.1, h3.2.1, h3.2.2.1, h3.2.2.2, h4, h2, e⟩
            case measure => simp [intOf]; omega
        · have hb : (q - 1 == y) = false := beq_false_of_ne hy
          have HNO : Hid (¬ ((q - 1) = y ∧ x < p)) := fun h => hy h.1
          clear hy
          go_wp2_with fail
          go_round
          case rel =>
            have h1 := HU.out.1
            have h2 := HU.out.2
            have h3 := HRG.out
            have h4 := HWB.out
            rw [h2] at h3
            have e : Tw.farther (Tw.upsTo s.data.toList (k + 1)) x y = m := by rw [h1, Tw.farther_append, Tw.farther_one, HW.out]; unfold Tw.oneOdd; rw [if_neg HNO.out]; rfl
            rw [e] at h4
            exact ⟨k + 1, m, p, q - 1, by go_num, by omega, rfl, rfl, rfl, h3.1, h3.2.1, h3.2.2.1, h3.2.2.2, h4, h2, e⟩
          case measure => simp [intOf]; omega
    · obtain rfl : k = s.size := by omega
      have e := HW.out
      rw [← size_data, Tw.upsTo_all] at e
      have HE : Hid (Tw.odd1 (Tw.ups s.data.toList) x y = m % 2) := by show _ = _; unfold Tw.odd1; rw [e]
      obtain ⟨r, hr⟩ : ∃ r, m % 2 = r := ⟨_, rfl⟩
      have er : (m : Int).tmod 2 = (r : Int) := by rw [Int.tmod_eq_emod_of_nonneg (by omega)]; omega
      have er2 : (m : Int) % 2 = (r : Int) := by omega
      have HRR := Lib.hid hr
      clear e hr
      go_wp2_with fail
      go_ret
      refine ⟨?_, rfl⟩
      rw [HE.out, HRR.out]
      exact ret_bool (int_nat_one r)

end Go.Proofs.YtccdfndnjjjgfaaGreatDoor

namespace Go.Proofs.YtccdfndnjjjgfaaGreatDoor
open Go.RowKit

/-- The places from the first step on are all different, up to one. -/
def Apart (l : List UInt8) (k : Nat) : Prop := ∀ i j, 1 ≤ i → i < j → j < k → Tw.placeAt l i ≠ Tw.placeAt l j
theorem apart_more {l : List UInt8} {k m : Nat} {p q : Int × Int} (h : ∀ i, 1 ≤ i → i < m → Tw.placeAt l i ≠ Tw.placeAt l k) (hp : Tw.placeAt l k = p) (hq : Tw.placeAt l m = q) (hne : ¬ p = q) (i : Nat) (h1 : 1 ≤ i) (h2 : i < m + 1) : Tw.placeAt l i ≠ Tw.placeAt l k := by
  by_cases hi : i = m
  · subst hi
    rw [hp, hq]
    exact fun e => hne e.symm
  · exact h i h1 (by omega)
theorem apart_next {l : List UInt8} {k : Nat} (h : Apart l k) (h2 : ∀ i, 1 ≤ i → i < k → Tw.placeAt l i ≠ Tw.placeAt l k) : Apart l (k + 1) := fun i j h1 hij hj => by
  by_cases hjk : j = k
  · subst hjk
    exact h2 i h1 hij
  · exact h i j h1 hij (by omega)
theorem end_start {l : List UInt8} (h : Tw.closed l = true) : Tw.placeAt l l.length = Tw.placeAt l 0 := by
  rw [Tw.placeAt_all, Tw.placeAt_zero]
  unfold Tw.closed at h
  simp at h
  exact h.2
theorem simple_dup {l : List UInt8} {i j : Nat} (h1 : 1 ≤ i) (hij : i < j) (hj : j ≤ l.length) (h : Tw.placeAt l j = Tw.placeAt l i) : Tw.simple l = false := by
  rw [Bool.eq_false_iff]
  intro hs
  have hc : Tw.closed l = true := by unfold Tw.simple at hs; simp at hs; exact hs.1
  have hr := (Tw.simple_iff hc).1 hs
  by_cases hjl : j = l.length
  · rw [hjl, end_start hc] at h
    exact hr 0 i (by omega) (by omega) h
  · exact hr i j hij (by omega) h.symm
theorem simple_apart {l : List UInt8} (h : Apart l (l.length + 1)) : Tw.simple l = Tw.closed l := by
  cases hc : Tw.closed l
  · exact Tw.simple_open hc
  · refine (Tw.simple_iff hc).2 (fun i j hij hj e => ?_)
    by_cases hi : i = 0
    · subst hi
      rw [← end_start hc] at e
      exact h j l.length (by omega) hj (by omega) e.symm
    · exact h i j (by omega) hij (by omega) e

set_option maxRecDepth 100000 in
set_option maxHeartbeats 3200000 in
theorem specSimple_is (s : ByteArray) (w : World) (hs : s.size ≤ 1048576) (hok : Tw.walkOk s.data.toList = true) :
    Calls Tryz.prog 54 #[.string s] w fun e w' => e = .returned (.bool (Tw.simple s.data.toList)) ∧ Below w.heap.size w w' := by
  have HOK := Lib.hid hok
  clear hok
  have h40 : s.size ≤ 40 := by have := Tw.walkOk_len HOK.out; rwa [size_data] at this
  obtain ⟨ps, hps⟩ : ∃ ps, Tw.places s.data.toList = ps := ⟨_, rfl⟩
  obtain ⟨n, hn⟩ : ∃ n, ps.length = n := ⟨_, rfl⟩
  have hn41 : 1 ≤ n ∧ n ≤ 41 := by rw [← hn, ← hps, Tw.places_length, size_data]; omega
  have hpa : ∀ i, i < n → ps[i]? = some (Tw.placeAt s.data.toList i) := fun i hi => by
    rw [← hps]
    exact Tw.placesTo_get? _ _ _ (by rw [← hn, ← hps, Tw.places_length] at hi; exact hi)
  have hns : n = s.data.toList.length + 1 := by rw [← hn, ← hps, Tw.places_length]
  have HPA := Lib.hid hpa
  have HNS := Lib.hid hns
  have HPS := Lib.hid hps
  have HN := Lib.hid hn
  clear hps hn hpa hns
  have hcl := fun W => specClosedOk s W hs
  obtain ⟨c, hc⟩ : ∃ c, Tw.closed s.data.toList = c := ⟨_, rfl⟩
  rw [hc] at hcl
  have HCC := Lib.hid hc
  have HCL := Lib.hid hcl
  clear hcl hc
  go_enter Tryz.func54, Tryz.ntmps54
  go_wp2_with (first
    | (go_at_call 50; refine (specPlacesOf_n _ _ hs HOK.out ps n HPS.out HN.out).mono ?_; rintro e w1 ⟨g, cap, bs, rfl, hbl, hown, hrows, hb1⟩))
  have HBL := Lib.hid hbl
  clear hbl
  have hgb := hown.lt g rfl
  have hcell : Hid (∀ (i : Nat), i < n → ∃ (p : Int × Int) (b : Nat), Tw.placeAt s.data.toList i = p ∧ b < w1.heap.size ∧ w1.cell? ⟨g, i, none⟩ = some (.slice (some ⟨b, 0, none⟩) 2 2) ∧ w1.cell? ⟨b, 0, none⟩ = some (.int .i64 p.1) ∧ w1.cell? ⟨b, 1, none⟩ = some (.int .i64 p.2)) := by
    intro i hi
    have hp : ps[i]? = some (ps[i]'(by rw [HN.out]; exact hi)) := List.getElem?_eq_getElem _
    have hbb : bs[i]? = some (bs[i]'(by rw [HBL.out]; exact hi)) := List.getElem?_eq_getElem _
    have hh := hrows i _ _ hp hbb
    have he := HPA.out i hi
    rw [hp] at he
    exact ⟨_, _, (Option.some.inj he).symm, lt_of_heap hh, row_cell hown hbb, (pair_cells hh).1, (pair_cells hh).2⟩
  clear hrows
  go_loopw [4, 5] (fun i _ wr => ∃ k : Nat, 1 ≤ k ∧ k ≤ n ∧ i = .int .i64 k ∧ Below w1.heap.size w1 wr ∧ Hid (Apart s.data.toList k)) (fun i _ _ => n - (intOf i).toNat)
  case atStart => exact ⟨1, Nat.le_refl _, by omega, rfl, Below.refl _ _, fun i j h1 h2 h3 => by omega⟩
  case round =>
    obtain ⟨k, hk1, hk, rfl, hbr, HAP⟩ := hrel
    by_cases hlt : k < n
    · go_wp2_with fail
      obtain ⟨wo, hwo⟩ : ∃ wo : World, wo = wr := ⟨_, rfl⟩
      subst hwo
      go_loopw [5] (fun j wr => ∃ m : Nat, 1 ≤ m ∧ m ≤ k ∧ j = .int .i64 m ∧ Below w1.heap.size w1 wr ∧ Hid (∀ i, 1 ≤ i → i < m → Tw.placeAt s.data.toList i ≠ Tw.placeAt s.data.toList k)) (fun j _ => k - (intOf j).toNat)
      case atStart => exact ⟨1, Nat.le_refl _, hk1, rfl, hbr, fun i h1 h2 => by omega⟩
      case round =>
        obtain ⟨m, hm1, hm, rfl, hbr2, HAM⟩ := hrel
        by_cases hlt2 : m < k
        · obtain ⟨p, b, hpk, hb, c1, c2, c3⟩ := hcell.out k hlt
          obtain ⟨q, d, hqm, hd, e1, e2, e3⟩ := hcell.out m (by omega)
          have HPK := Lib.hid hpk
          have HQM := Lib.hid hqm
          clear hpk hqm
          have C1 := (hbr2.cell (p := ⟨g, k, none⟩) hgb.2).trans c1
          have C2 := (hbr2.cell (p := ⟨b, 0, none⟩) hb).trans c2
          have C3 := (hbr2.cell (p := ⟨b, 1, none⟩) hb).trans c3
          have E1 := (hbr2.cell (p := ⟨g, m, none⟩) hgb.2).trans e1
          have E2 := (hbr2.cell (p := ⟨d, 0, none⟩) hd).trans e2
          have E3 := (hbr2.cell (p := ⟨d, 1, none⟩) hd).trans e3
          clear c1 c2 c3 e1 e2 e3
          have i1 : (0 : Int) ≤ (k : Int) := by omega
          have i2 : (k : Int) < (n : Int) := by omega
          have i3 : (0 : Int) ≤ (m : Int) := by omega
          have i4 : (m : Int) < (n : Int) := by omega
          have i5 : (m : Int) < (k : Int) := by omega
          cases hx1 : (p.1 == q.1)
          · have HNE : Hid (¬ p = q) := fun e => by rw [e] at hx1; simp at hx1
            go_wp2_with fail
            go_quiet (fail)
            go_wp2
            go_roundw
            case rel => exact ⟨m + 1, by omega, by omega, by go_num, below_drewN hbr2 _, fun i h1 h2 => apart_more HAM.out HPK.out HQM.out HNE.out i h1 h2⟩
            case measure => simp [intOf]; omega
          · cases hy1 : (p.2 == q.2)
            · have HNE : Hid (¬ p = q) := fun e => by rw [e] at hy1; simp at hy1
              go_wp2_with fail
              go_quiet (fail)
              go_wp2
              go_roundw
              case rel => exact ⟨m + 1, by omega, by omega, by go_num, below_drewN hbr2 _, fun i h1 h2 => apart_more HAM.out HPK.out HQM.out HNE.out i h1 h2⟩
              case measure => simp [intOf]; omega
            · have HEQ : Hid (p = q) := Prod.ext (beq_iff_eq.1 hx1) (beq_iff_eq.1 hy1)
              go_wp2_with fail
              go_quiet (fail)
              go_wp2
              go_ret
              exact ⟨ret_bool (simple_dup hm1 hlt2 (by have := HNS.out; omega) (by rw [HPK.out, HQM.out, HEQ.out])).symm, below_drewN (hb1.trans (hbr2.mono hb1.size)) _⟩
        · obtain rfl : m = k := by omega
          go_wp2
          go_roundw
          case rel => exact ⟨m + 1, by omega, by omega, by go_num, hbr2, apart_next HAP.out HAM.out⟩
          case measure => simp [intOf]; omega
    · obtain rfl : k = n := by omega
      go_wp2_with (first | (go_at_call 53; refine (HCL.out _).mono ?_; rintro e w2 ⟨rfl, hb2⟩))
      go_ret
      exact ⟨ret_bool (by rw [← HCC.out]; exact (simple_apart (by rw [← HNS.out]; exact HAP.out)).symm), (hb1.trans (hbr.mono hb1.size)).trans (hb2.mono (hb1.trans (hbr.mono hb1.size)).size)⟩
set_option maxHeartbeats 800000 in
theorem specSimple_eq (s : ByteArray) (w : World) (hs : s.size ≤ 1048576) (hok : Tw.walkOk s.data.toList = true) (b : Bool) (h : Tw.simple s.data.toList = b) :
    Calls Tryz.prog 54 #[.string s] w fun e w' => e = .returned (.bool b) ∧ Below w.heap.size w w' := by
  rw [← h]
  exact specSimple_is s w hs hok

end Go.Proofs.YtccdfndnjjjgfaaGreatDoor

namespace Go.Proofs.YtccdfndnjjjgfaaGreatDoor
open Go.RowKit

/-- What the loops over the squares have seen. -/
def MostSeen (us : List (Int × Int × Int)) (M X Y : Int) : Prop := (∀ x y, -20 ≤ x → x < X → -20 ≤ y → y ≤ 20 → Tw.wind us x y ≤ M ∧ -Tw.wind us x y ≤ M) ∧ (∀ y, -20 ≤ y → y < Y → Tw.wind us X y ≤ M ∧ -Tw.wind us X y ≤ M) ∧ (M = 0 ∨ ∃ x y, Tw.wind us x y = M ∨ -Tw.wind us x y = M)
theorem MostSeen.step {us : List (Int × Int × Int)} {M X Y : Int} (h : MostSeen us M X Y) : MostSeen us (max M (max (Tw.wind us X Y) (-Tw.wind us X Y))) X (Y + 1) := by
  obtain ⟨h1, h2, h3⟩ := h
  refine ⟨fun x y a b c d => ?_, fun y a b => ?_, ?_⟩
  · have := h1 x y a b c d
    clear h1 h2 h3
    omega
  · by_cases hy : y = Y
    · subst hy
      clear h1 h2 h3
      omega
    · have := h2 y a (by omega)
      clear h1 h2 h3
      omega
  · by_cases hz : max (Tw.wind us X Y) (-Tw.wind us X Y) ≤ M
    · rw [Int.max_eq_left hz]
      exact h3
    · refine .inr ⟨X, Y, ?_⟩
      clear h1 h2 h3
      omega
theorem MostSeen.next {us : List (Int × Int × Int)} {M X : Int} (h : MostSeen us M X 21) : MostSeen us M (X + 1) (-20) := by
  obtain ⟨h1, h2, h3⟩ := h
  refine ⟨fun x y a b c d => ?_, fun y a b => absurd b (by omega), h3⟩
  by_cases hx : x = X
  · subst hx
    exact h2 y c (by omega)
  · exact h1 x y a (by omega) c d

set_option maxRecDepth 100000 in
set_option maxHeartbeats 3200000 in
theorem specMost (s : ByteArray) (w : World) (hs : s.size ≤ 1048576) :
    Calls Tryz.prog 59 #[.string s] w fun e w' => e = .returned (.int .i64 (Tw.mostRes s.data.toList)) ∧ Below w.heap.size w w' := by
  have HC := Lib.hid (fun W => specClosedOk s W hs)
  cases hcl : Tw.closed s.data.toList
  · rw [hcl] at HC
    have HCL := Lib.hid hcl
    clear hcl
    go_enter Tryz.func59, Tryz.ntmps59
    go_wp2
    refine wp_loop_rounds 1 ?_
    rw [rounds_succ]
    go_wp2_with (first
      | (go_at_call 53; first
          | (refine (HC.out w).mono ?_; rintro e w1 ⟨rfl, hb1⟩)
          | (refine (HC.out w1).mono ?_; rintro e w2 ⟨rfl, hb2⟩)))
    go_ret
    exact ⟨by unfold Tw.mostRes; rw [HCL.out]; rfl, hb1.trans (hb2.mono hb1.size)⟩
  · rw [hcl] at HC
    have HCL := Lib.hid hcl
    have HMO := Lib.hid (fun m => Tw.mostRes_is (m := m) hcl)
    have HWO : Hid (∀ x y, x < -20 ∨ 20 ≤ x ∨ y < -20 ∨ 20 ≤ y → Tw.wind (Tw.ups s.data.toList) x y = 0) := fun x y h => Tw.wind_out hcl h
    have HWB : Hid (∀ x y, -40 ≤ Tw.wind (Tw.ups s.data.toList) x y ∧ Tw.wind (Tw.ups s.data.toList) x y ≤ 40) := fun x y => by
      have h1 := Tw.wind_farther (Tw.ups s.data.toList) x y Tw.ups_signs
      have h2 := Tw.ups_len s.data.toList (0, 0)
      have h3 := Tw.walkOk_len (Tw.closed_ok hcl)
      have h4 : (Tw.ups s.data.toList).length ≤ s.data.toList.length := h2
      omega
    have HWI := Lib.hid (fun x y W => specWindingOf s x y W hs hcl)
    obtain ⟨us, hus⟩ : ∃ us, Tw.ups s.data.toList = us := ⟨_, rfl⟩
    rw [hus] at HMO HWO HWB HWI
    clear hcl hus
    go_enter Tryz.func59, Tryz.ntmps59
    go_wp2
    go_loopw [3, 4, 5, 6] (fun m xv _ _ wr => ∃ M X : Int, m = .int .i64 M ∧ xv = .int .i64 X ∧ -20 ≤ X ∧ X ≤ 21 ∧ 0 ≤ M ∧ M ≤ 40 ∧ Hid (MostSeen us M X (-20)) ∧ Below w.heap.size w wr) (fun _ xv _ _ _ => (21 - intOf xv).toNat)
    case atStart => exact ⟨0, -20, rfl, rfl, by omega, by omega, by omega, by omega, ⟨fun x y a b => absurd b (by omega), fun y a b => absurd b (by omega), .inl rfl⟩, Below.refl _ _⟩
    case round =>
      obtain ⟨M, X, rfl, rfl, hX0, hX1, hM0, hM1, HS, hbr⟩ := hrel
      by_cases hlt : X ≤ 20
      · go_wp2_with (first
          | (go_at_call 53; refine (HC.out _).mono ?_; rintro e w1 ⟨rfl, hb1⟩))
        have hbr1 := hbr.trans (hb1.mono hbr.size)
        go_loopw [3, 5, 6] (fun m yv _ wq => ∃ M Y : Int, m = .int .i64 M ∧ yv = .int .i64 Y ∧ -20 ≤ Y ∧ Y ≤ 21 ∧ 0 ≤ M ∧ M ≤ 40 ∧ Hid (MostSeen us M X Y) ∧ Below w.heap.size w wq) (fun _ yv _ _ => (21 - intOf yv).toNat)
        case atStart => exact ⟨M, -20, rfl, rfl, by omega, by omega, hM0, hM1, HS, hbr1⟩
        case round =>
          obtain ⟨M2, Y, rfl, rfl, hY0, hY1, hN0, hN1, HQ, hbq⟩ := hrel
          by_cases hlt2 : Y ≤ 20
          · have hwb := HWB.out X Y
            have hst := HQ.out.step
            have hwi := HWI.out X Y
            obtain ⟨v, hv⟩ : ∃ v, Tw.wind us X Y = v := ⟨_, rfl⟩
            rw [hv] at hwb hst hwi
            have HST := Lib.hid hst
            have HWV := Lib.hid hwi
            clear hst hwi hv
            go_wp2_with (first
              | (go_at_call 108; refine (HWV.out _).mono ?_; rintro e w2 ⟨rfl, hb2⟩))
            go_roundw
            case rel => exact ⟨max M2 (max v (-v)), Y + 1, rfl, rfl, by omega, by omega, by omega, by omega, HST, hbq.trans (hb2.mono hbq.size)⟩
            case measure => simp [intOf]; omega
          · obtain rfl : Y = 21 := by omega
            go_wp2_with fail
            go_roundw
            case rel => exact ⟨M2, X + 1, rfl, rfl, by omega, by omega, hN0, hN1, HQ.out.next, hbq⟩
            case measure => simp [intOf]; omega
      · obtain rfl : X = 21 := by omega
        go_wp2_with (first
          | (go_at_call 53; refine (HC.out _).mono ?_; rintro e w1 ⟨rfl, hb1⟩))
        go_ret
        refine ⟨?_, hbr.trans (hb1.mono hbr.size)⟩
        have hmost : Tw.Most us M := by
          refine ⟨hM0, fun x y => ?_, HS.out.2.2⟩
          by_cases hxy : x < -20 ∨ 20 ≤ x ∨ y < -20 ∨ 20 ≤ y
          · rw [HWO.out x y hxy]
            omega
          · exact HS.out.1 x y (by omega) (by omega) (by omega) (by omega)
        rw [HMO.out M hmost]
        rfl

set_option maxRecDepth 100000 in
set_option maxHeartbeats 3200000 in
theorem specSquares (s : ByteArray) (w : World) (hs : s.size ≤ 1048576) (hok : Tw.walkOk s.data.toList = true) :
    Calls Tryz.prog 60 #[.string s] w fun e w' => e = .returned (.int .i64 (Tw.squaresRes s.data.toList)) ∧ Below w.heap.size w w' := by
  have hc := specSimple_is s w hs hok
  cases hsm : Tw.simple s.data.toList
  · rw [hsm] at hc
    have HC := Lib.hid hc
    have HSM := Lib.hid hsm
    clear hc hsm
    go_enter Tryz.func60, Tryz.ntmps60
    go_wp2_with (first
      | (go_at_call 54; refine HC.out.mono ?_; rintro e w1 ⟨rfl, hb1⟩))
    go_ret
    exact ⟨by unfold Tw.squaresRes; rw [HSM.out]; rfl, hb1⟩
  · rw [hsm] at hc
    have HC := Lib.hid hc
    have HSR : Hid (Tw.squaresRes s.data.toList = (Tw.inside s.data.toList : Int)) := by show _ = _; unfold Tw.squaresRes; rw [if_pos hsm]
    have HWI := Lib.hid (fun x y W => specWithin s x y W hok)
    obtain ⟨us, hus⟩ : ∃ us, Tw.ups s.data.toList = us := ⟨_, rfl⟩
    have HIN : Hid (Tw.inside s.data.toList = Tw.sumTo (-40) 81 (fun x => Tw.sumTo (-40) 81 (fun y => Tw.odd1 us x y))) := by show _ = _; unfold Tw.inside; rw [hus]
    have HB1 : Hid (∀ x (j : Nat), j ≤ 81 → Tw.sumTo (-40) j (fun y => Tw.odd1 us x y) ≤ 81) := fun x j hj => by
      have := Tw.sumTo_le (a := -40) (n := j) (f := fun y => Tw.odd1 us x y) (c := 1) (fun y => by show Tw.farther _ _ _ % 2 ≤ 1; omega)
      omega
    have HB2 : Hid (∀ (i : Nat), i ≤ 81 → Tw.sumTo (-40) i (fun x => Tw.sumTo (-40) 81 (fun y => Tw.odd1 us x y)) ≤ 6561) := fun i hi => by
      have := Tw.sumTo_le (a := -40) (n := i) (f := fun x => Tw.sumTo (-40) 81 (fun y => Tw.odd1 us x y)) (c := 81) (fun x => HB1.out x 81 (by omega))
      omega
    rw [hus] at HWI
    clear hc hsm hus
    go_enter Tryz.func60, Tryz.ntmps60
    go_wp2_with (first
      | (go_at_call 54; refine HC.out.mono ?_; rintro e w1 ⟨rfl, hb1⟩))
    go_loop [3, 4, 5] (fun nv xv _ => ∃ (m i : Nat), nv = .int .i64 m ∧ xv = .int .i64 ((i : Int) - 40) ∧ i ≤ 81 ∧ m ≤ 10000 ∧ Hid (Tw.sumTo (-40) i (fun x => Tw.sumTo (-40) 81 (fun y => Tw.odd1 us x y)) = m)) (fun _ xv _ => (41 - intOf xv).toNat)
    case atStart => exact ⟨0, 0, rfl, rfl, by omega, by omega, rfl⟩
    case round =>
      obtain ⟨m, i, rfl, rfl, hi, hm, HM⟩ := hrel
      obtain ⟨X, hX⟩ : ∃ X : Int, (i : Int) - 40 = X := ⟨_, rfl⟩
      rw [hX]
      by_cases hlt : X ≤ 40
      · have hX0 : -40 ≤ X := by omega
        have HX := Lib.hid hX
        clear hX
        go_wp2_with fail
        go_loop [3, 5] (fun nv yv => ∃ (m2 j : Nat) (Y : Int), nv = .int .i64 m2 ∧ yv = .int .i64 Y ∧ Hid ((j : Int) - 40 = Y) ∧ -40 ≤ Y ∧ Y ≤ 41 ∧ m2 ≤ 10000 ∧ Hid (m + Tw.sumTo (-40) j (fun y => Tw.odd1 us X y) = m2)) (fun _ yv => (41 - intOf yv).toNat)
        case atStart => exact ⟨m, 0, -40, rfl, rfl, by show _ = _; omega, by omega, by omega, hm, rfl⟩
        case round =>
          obtain ⟨m2, j, Y, rfl, rfl, HY, hY0, hY1, hm2, HM2⟩ := hrel
          by_cases hlt2 : Y ≤ 40
          · have hwi := HWI.out X Y
            have hb := HB1.out X (j + 1) (by have := HY.out; omega)
            have hb2 := HB2.out i hi
            rw [HM.out] at hb2
            have hsu : Tw.sumTo (-40) (j + 1) (fun y => Tw.odd1 us X y) = Tw.sumTo (-40) j (fun y => Tw.odd1 us X y) + Tw.odd1 us X Y := by
              show Tw.sumTo (-40) j (fun y => Tw.odd1 us X y) + Tw.odd1 us X (-40 + (j : Int)) = _
              rw [show -40 + (j : Int) = Y from by have := HY.out; omega]
            rw [hsu] at hb
            have hm2' := HM2.out
            obtain ⟨o, ho⟩ : ∃ o, Tw.odd1 us X Y = o := ⟨_, rfl⟩
            have ho2 : o = 0 ∨ o = 1 := by rw [← ho]; show Tw.farther _ _ _ % 2 = 0 ∨ Tw.farther _ _ _ % 2 = 1; omega
            rw [ho] at hwi hb hsu
            have HSU := Lib.hid hsu
            have HWV := Lib.hid hwi
            have hmb : m2 + o ≤ 10000 := by omega
            clear hwi hb hb2 hsu hm2' ho
            rcases ho2 with rfl | rfl
            · go_wp2_with (first
                | (go_at_call 109; refine (HWV.out _).mono ?_; rintro e w2 ⟨rfl, rfl⟩))
              go_round
              case rel => exact ⟨m2, j + 1, Y + 1, rfl, rfl, by show _ = _; have := HY.out; omega, by omega, by omega, hm2, by show _ = _; rw [HSU.out]; exact HM2.out⟩
              case measure => simp [intOf]; omega
            · go_wp2_with (first
                | (go_at_call 109; refine (HWV.out _).mono ?_; rintro e w2 ⟨rfl, rfl⟩))
              go_round
              case rel => exact ⟨m2 + 1, j + 1, Y + 1, by go_num, rfl, by show _ = _; have := HY.out; omega, by omega, by omega, by omega, by show _ = _; rw [HSU.out, ← Nat.add_assoc, HM2.out]⟩
              case measure => simp [intOf]; omega
          · obtain rfl : Y = 41 := by omega
            obtain rfl : j = 81 := by have := HY.out; omega
            go_wp2_with fail
            go_round
            case rel =>
              refine ⟨m2, i + 1, rfl, ?_, by have := HX.out; omega, hm2, ?_⟩
              · have := HX.out
                exact congrArg (Value.int .i64) (by omega)
              · show Tw.sumTo (-40) i (fun x => Tw.sumTo (-40) 81 (fun y => Tw.odd1 us x y)) + Tw.sumTo (-40) 81 (fun y => Tw.odd1 us (-40 + (i : Int)) y) = m2
                rw [HM.out, show -40 + (i : Int) = X from by have := HX.out; omega]
                exact HM2.out
            case measure => simp [intOf]; omega
      · obtain rfl : i = 81 := by omega
        obtain rfl : X = 41 := by omega
        clear hX
        go_wp2_with fail
        go_ret
        refine ⟨?_, hb1⟩
        rw [HSR.out, HIN.out, HM.out]
        rfl

end Go.Proofs.YtccdfndnjjjgfaaGreatDoor

namespace Go.Proofs.YtccdfndnjjjgfaaGreatDoor
open Go.RowKit

set_option maxRecDepth 100000 in
set_option maxHeartbeats 1600000 in
theorem specLine_0 (s : ByteArray) (a : Option Addr) (c L : Nat) (zs : List ByteArray) (X : ByteArray) (w : World) (h : StrsAt w (.slice a L c) zs) (HL : Hid (zs.length = L)) (hok : Hid (deskOk s zs = true)) (hX : X.size ≤ 1048576) (hr : Hid (readOf X.data.toList = ((0, 0), false))) (hXe : X = ⟨#[119, 97, 108, 107]⟩) :
    Calls Tryz.prog 22 #[.agg #[.string s, .slice a L c], .string X] w (LineOut w s zs (askText 0 s)) := by
  have q0 : (X.toList == [119, 97, 108, 107]) = true := by rw [Lib.toList_data, hXe]; decide
  obtain ⟨h1, h8, hz⟩ := deskOk_parts hok.out
  have h40 : s.size ≤ 40 := by have := Tw.walkOk_len h1; rwa [size_data] at this
  obtain ⟨e0, hsz, r0, r1⟩ := desk2_in w s (.slice a L c)
  obtain ⟨W, hW⟩ : ∃ W, deskBox2 w s (.slice a L c) = W := ⟨_, rfl⟩
  rw [hW] at e0 hsz r0 r1
  unfold deskBox2 at hW
  have HW := Lib.hid hW
  have HDK := Lib.hid (deskOk_named s (.slice a L c) zs W (e0.strs h) (by have := ok_size h1; omega) (by omega) (fun z hz9 => by have := ok_size (hz z hz9); omega) true hok.out)
  have HRD : Hid (∀ Y : World, Calls Tryz.prog 48 #[.string X] Y fun e w' => e = .returned (.tuple #[.agg #[.int .i64 0, .int .i64 0], .bool false]) ∧ Below Y.heap.size Y w') := fun Y => by
    refine (specReadDeed X Y hX).mono ?_
    rintro e w' ⟨he, hb⟩
    rw [hr.out] at he
    exact ⟨he, hb⟩
  have HCP : Hid (∀ Y, Ext W Y → Calls Tryz.prog 38 #[.agg #[.string s, .slice a L c]] Y fun e w' => ∃ g2 c2, e = .returned (.agg #[.string s, .slice (some ⟨g2, 0, none⟩) L c2]) ∧ PastAt w' (.slice (some ⟨g2, 0, none⟩) L c2) zs ∧ W.heap.size ≤ g2 ∧ Ext W w') := fun Y hY => by
    refine (copy_named s (.slice a L c) zs Y ((e0.trans hY).strs h) L HL.out (by have := HL.out; omega)).mono ?_
    rintro e w' ⟨g2, c2, he, hown2, hp2, hb2⟩
    exact ⟨g2, c2, he, hp2, by have := (hown2.lt g2 rfl).1; have := hY.size; omega, hY.call hb2⟩
  have R0 := Lib.hid r0
  have R1 := Lib.hid r1
  have E0 := Lib.hid e0
  have c0 := cell_of_row _ _ 0 _ _ _ r0
  have c1 := cell_of_row _ _ 1 _ _ _ r0
  have HWS := Lib.hid hsz
  have hs : s.size ≤ 1048576 := by omega
  have f9 : ¬ 9223372036854775807 < 1 + s.size := by omega
  have HT : Hid (askText 0 s = ⟨#[58]⟩ ++ s) := rfl
  obtain ⟨t, ht⟩ : ∃ t, askText 0 s = t := ⟨_, rfl⟩
  rw [ht] at HT ⊢
  clear hW r0 r1 h hz h1 h8 e0 hsz hXe ht
  go_enter Tryz.func22, Tryz.ntmps22
  go_wp2_with fail
  rw [HW.out]
  go_upto_region 13 with (first
    | (go_at_call 24; refine HDK.out.mono ?_; rintro e w1 ⟨rfl, hb1⟩; have E1 : Ext W w1 := hb1; have hr1 := E1.row R0.out; have k0 := cell_of_row _ _ 0 _ _ _ hr1; have k1 := cell_of_row _ _ 1 _ _ _ hr1; clear hb1 hr1)
    | (go_at_call 38; refine (HCP.out w1 E1).mono ?_; rintro e w2 ⟨g2, c2, rfl, hp2, hg2, E2⟩; have hO : w.heap.size + 1 < w2.heap.size := (by have h8 := E2.size; have h9 := HWS.out; omega); have l3 := lin_new (x := s) E2 hp2 hg2; clear hp2 hg2)
    | (go_at_call 48; refine (HRD.out _).mono ?_; rintro e w4 ⟨rfl, hb4⟩; have l4 := (l3.call hb4).alloc (.cells #[.int .i64 0, .int .i64 0] 53); have hr4 := l4.ext.row R0.out; have l0 := cell_of_row _ _ 0 _ _ _ hr4; have hrr := l4.ext.row R1.out; have f0 := frozen_of_row _ _ 0 _ _ hrr; have f1 := frozen_of_row _ _ 1 _ _ hrr; have m0 := cell_of_row _ _ 0 _ _ _ hrr; have m1 := cell_of_row _ _ 1 _ _ _ hrr; have n0 := l4.cells.1; have n1 := l4.cells.2; have qq := pair_put hrr (.string s) (.slice (some ⟨g2, 0, none⟩) L c2); have rq0 := cell_of_row _ _ 0 _ _ _ qq; have rq1 := cell_of_row _ _ 1 _ _ _ qq; clear hrr qq; clear hb4 hr4))
  have HT2 : t = ⟨#[58]⟩ ++ s := HT.out
  subst HT2
  go_wp2
  refine bodyPost_ret (v := .tuple #[.agg #[.string s, .slice (some ⟨g2, 0, none⟩) L c2], .string (⟨#[58]⟩ ++ s)]) (by simp [results, Tryz.results22, go_sem, rq0, rq1]) rfl ?_
  exact lin_done E0.out l4 HWS.out
set_option maxRecDepth 100000 in
set_option maxHeartbeats 1600000 in
theorem specLine_2 (s : ByteArray) (a : Option Addr) (c L : Nat) (zs : List ByteArray) (X : ByteArray) (w : World) (h : StrsAt w (.slice a L c) zs) (HL : Hid (zs.length = L)) (hok : Hid (deskOk s zs = true)) (hX : X.size ≤ 1048576) (hr : Hid (readOf X.data.toList = ((0, 0), false))) (hXe : X = ⟨#[99, 108, 111, 115, 101, 100]⟩) :
    Calls Tryz.prog 22 #[.agg #[.string s, .slice a L c], .string X] w (LineOut w s zs (askText 2 s)) := by
  have q0 : (X.toList == [119, 97, 108, 107]) = false := by rw [Lib.toList_data, hXe]; decide
  have q1 : (X.toList == [101, 110, 100]) = false := by rw [Lib.toList_data, hXe]; decide
  have q2 : (X.toList == [99, 108, 111, 115, 101, 100]) = true := by rw [Lib.toList_data, hXe]; decide
  obtain ⟨h1, h8, hz⟩ := deskOk_parts hok.out
  have h40 : s.size ≤ 40 := by have := Tw.walkOk_len h1; rwa [size_data] at this
  obtain ⟨e0, hsz, r0, r1⟩ := desk2_in w s (.slice a L c)
  obtain ⟨W, hW⟩ : ∃ W, deskBox2 w s (.slice a L c) = W := ⟨_, rfl⟩
  rw [hW] at e0 hsz r0 r1
  unfold deskBox2 at hW
  have HW := Lib.hid hW
  have HDK := Lib.hid (deskOk_named s (.slice a L c) zs W (e0.strs h) (by have := ok_size h1; omega) (by omega) (fun z hz9 => by have := ok_size (hz z hz9); omega) true hok.out)
  have HRD : Hid (∀ Y : World, Calls Tryz.prog 48 #[.string X] Y fun e w' => e = .returned (.tuple #[.agg #[.int .i64 0, .int .i64 0], .bool false]) ∧ Below Y.heap.size Y w') := fun Y => by
    refine (specReadDeed X Y hX).mono ?_
    rintro e w' ⟨he, hb⟩
    rw [hr.out] at he
    exact ⟨he, hb⟩
  have HCP : Hid (∀ Y, Ext W Y → Calls Tryz.prog 38 #[.agg #[.string s, .slice a L c]] Y fun e w' => ∃ g2 c2, e = .returned (.agg #[.string s, .slice (some ⟨g2, 0, none⟩) L c2]) ∧ PastAt w' (.slice (some ⟨g2, 0, none⟩) L c2) zs ∧ W.heap.size ≤ g2 ∧ Ext W w') := fun Y hY => by
    refine (copy_named s (.slice a L c) zs Y ((e0.trans hY).strs h) L HL.out (by have := HL.out; omega)).mono ?_
    rintro e w' ⟨g2, c2, he, hown2, hp2, hb2⟩
    exact ⟨g2, c2, he, hp2, by have := (hown2.lt g2 rfl).1; have := hY.size; omega, hY.call hb2⟩
  have R0 := Lib.hid r0
  have R1 := Lib.hid r1
  have E0 := Lib.hid e0
  have c0 := cell_of_row _ _ 0 _ _ _ r0
  have c1 := cell_of_row _ _ 1 _ _ _ r0
  have HWS := Lib.hid hsz
  have hs : s.size ≤ 1048576 := by omega
  have hc := fun Y => specClosedOk s Y hs
  obtain ⟨b, hb⟩ : ∃ b, Tw.closed s.data.toList = b := ⟨_, rfl⟩
  have HT : Hid (askText 2 s = yesText b) := by show _ = _; rw [← hb]; rfl
  simp only [hb] at hc
  have HC := Lib.hid hc
  have hy := l12Yes_any b
  obtain ⟨t, ht⟩ : ∃ t, askText 2 s = t := ⟨_, rfl⟩
  rw [ht] at HT ⊢
  clear hW r0 r1 h hz h1 h8 e0 hsz hXe ht hc hb
  go_enter Tryz.func22, Tryz.ntmps22
  go_wp2_with fail
  rw [HW.out]
  go_upto_region 19 with (first
    | (go_at_call 24; refine HDK.out.mono ?_; rintro e w1 ⟨rfl, hb1⟩; have E1 : Ext W w1 := hb1; have hr1 := E1.row R0.out; have k0 := cell_of_row _ _ 0 _ _ _ hr1; have k1 := cell_of_row _ _ 1 _ _ _ hr1; clear hb1 hr1)
    | (go_at_call 38; refine (HCP.out w1 E1).mono ?_; rintro e w2 ⟨g2, c2, rfl, hp2, hg2, E2⟩; have hO : w.heap.size + 1 < w2.heap.size := (by have h8 := E2.size; have h9 := HWS.out; omega); have l3 := lin_new (x := s) E2 hp2 hg2; clear hp2 hg2)
    | (go_at_call 48; refine (HRD.out _).mono ?_; rintro e w4 ⟨rfl, hb4⟩; have l4 := (l3.call hb4).alloc (.cells #[.int .i64 0, .int .i64 0] 53); have hr4 := l4.ext.row R0.out; have l0 := cell_of_row _ _ 0 _ _ _ hr4; have hrr := l4.ext.row R1.out; have f0 := frozen_of_row _ _ 0 _ _ hrr; have f1 := frozen_of_row _ _ 1 _ _ hrr; have m0 := cell_of_row _ _ 0 _ _ _ hrr; have m1 := cell_of_row _ _ 1 _ _ _ hrr; have n0 := l4.cells.1; have n1 := l4.cells.2; have qq := pair_put hrr (.string s) (.slice (some ⟨g2, 0, none⟩) L c2); have rq0 := cell_of_row _ _ 0 _ _ _ qq; have rq1 := cell_of_row _ _ 1 _ _ _ qq; clear hrr qq; clear hb4 hr4))
  have HT2 : yesText b = t := HT.out.symm
  rw [HT2] at hy
  have HY := Lib.hid hy
  clear hy HT2
  go_region_held3 (fun w' => w'.cell? ⟨w2.heap.size, 0, none⟩ = some (.string s) ∧ w'.cell? ⟨w2.heap.size, 1, none⟩ = some (.slice (some ⟨g2, 0, none⟩) L c2))
    (first
      | exact Lin.cells (by assumption)
      | exact (Lin.drew (by assumption)).cells
      | exact other_cells (by omega) (Lin.cells (by assumption)).1 (Lin.cells (by assumption)).2)
    (first
      | (go_at_call 52; refine (HY.out _).mono ?_; rintro e wB ⟨rfl, rfl⟩)
      | (go_at_call 53; refine (HC.out _).mono ?_; rintro e wA ⟨rfl, hbA⟩; have lA : Lin W w2.heap.size s g2 c2 L zs wA := Lin.call (by first | assumption | exact Lin.drew (by assumption)) hbA; have hrr := lA.ext.row R1.out; have f0 := frozen_of_row _ _ 0 _ _ hrr; have f1 := frozen_of_row _ _ 1 _ _ hrr; have m0 := cell_of_row _ _ 0 _ _ _ hrr; have m1 := cell_of_row _ _ 1 _ _ _ hrr; have n0 := lA.cells.1; have n1 := lA.cells.2; have qq := pair_put hrr (.string s) (.slice (some ⟨g2, 0, none⟩) L c2); have rq0 := cell_of_row _ _ 0 _ _ _ qq; have rq1 := cell_of_row _ _ 1 _ _ _ qq; clear hrr qq))
  all_goals
    go_wp2
    refine bodyPost_ret (v := .tuple #[.agg #[.string s, .slice (some ⟨g2, 0, none⟩) L c2], .string t]) (by simp [results, Tryz.results22, go_sem, rq0, rq1]) rfl ?_
    exact lin_done E0.out (by first | assumption | exact Lin.drew (by assumption)) HWS.out
set_option maxRecDepth 100000 in
set_option maxHeartbeats 1600000 in
theorem specLine_3 (s : ByteArray) (a : Option Addr) (c L : Nat) (zs : List ByteArray) (X : ByteArray) (w : World) (h : StrsAt w (.slice a L c) zs) (HL : Hid (zs.length = L)) (hok : Hid (deskOk s zs = true)) (hX : X.size ≤ 1048576) (hr : Hid (readOf X.data.toList = ((0, 0), false))) (hXe : X = ⟨#[115, 105, 109, 112, 108, 101]⟩) :
    Calls Tryz.prog 22 #[.agg #[.string s, .slice a L c], .string X] w (LineOut w s zs (askText 3 s)) := by
  have q0 : (X.toList == [119, 97, 108, 107]) = false := by rw [Lib.toList_data, hXe]; decide
  have q1 : (X.toList == [101, 110, 100]) = false := by rw [Lib.toList_data, hXe]; decide
  have q2 : (X.toList == [99, 108, 111, 115, 101, 100]) = false := by rw [Lib.toList_data, hXe]; decide
  have q3 : (X.toList == [115, 105, 109, 112, 108, 101]) = true := by rw [Lib.toList_data, hXe]; decide
  obtain ⟨h1, h8, hz⟩ := deskOk_parts hok.out
  have h40 : s.size ≤ 40 := by have := Tw.walkOk_len h1; rwa [size_data] at this
  obtain ⟨e0, hsz, r0, r1⟩ := desk2_in w s (.slice a L c)
  obtain ⟨W, hW⟩ : ∃ W, deskBox2 w s (.slice a L c) = W := ⟨_, rfl⟩
  rw [hW] at e0 hsz r0 r1
  unfold deskBox2 at hW
  have HW := Lib.hid hW
  have HDK := Lib.hid (deskOk_named s (.slice a L c) zs W (e0.strs h) (by have := ok_size h1; omega) (by omega) (fun z hz9 => by have := ok_size (hz z hz9); omega) true hok.out)
  have HRD : Hid (∀ Y : World, Calls Tryz.prog 48 #[.string X] Y fun e w' => e = .returned (.tuple #[.agg #[.int .i64 0, .int .i64 0], .bool false]) ∧ Below Y.heap.size Y w') := fun Y => by
    refine (specReadDeed X Y hX).mono ?_
    rintro e w' ⟨he, hb⟩
    rw [hr.out] at he
    exact ⟨he, hb⟩
  have HCP : Hid (∀ Y, Ext W Y → Calls Tryz.prog 38 #[.agg #[.string s, .slice a L c]] Y fun e w' => ∃ g2 c2, e = .returned (.agg #[.string s, .slice (some ⟨g2, 0, none⟩) L c2]) ∧ PastAt w' (.slice (some ⟨g2, 0, none⟩) L c2) zs ∧ W.heap.size ≤ g2 ∧ Ext W w') := fun Y hY => by
    refine (copy_named s (.slice a L c) zs Y ((e0.trans hY).strs h) L HL.out (by have := HL.out; omega)).mono ?_
    rintro e w' ⟨g2, c2, he, hown2, hp2, hb2⟩
    exact ⟨g2, c2, he, hp2, by have := (hown2.lt g2 rfl).1; have := hY.size; omega, hY.call hb2⟩
  have R0 := Lib.hid r0
  have R1 := Lib.hid r1
  have E0 := Lib.hid e0
  have c0 := cell_of_row _ _ 0 _ _ _ r0
  have c1 := cell_of_row _ _ 1 _ _ _ r0
  have HWS := Lib.hid hsz
  have hs : s.size ≤ 1048576 := by omega
  have hc := fun Y => specSimple_is s Y hs h1
  obtain ⟨b, hb⟩ : ∃ b, Tw.simple s.data.toList = b := ⟨_, rfl⟩
  have HT : Hid (askText 3 s = yesText b) := by show _ = _; rw [← hb]; rfl
  simp only [hb] at hc
  have HC := Lib.hid hc
  have hy := l12Yes_any b
  obtain ⟨t, ht⟩ : ∃ t, askText 3 s = t := ⟨_, rfl⟩
  rw [ht] at HT ⊢
  clear hW r0 r1 h hz h1 h8 e0 hsz hXe ht hc hb
  go_enter Tryz.func22, Tryz.ntmps22
  go_wp2_with fail
  rw [HW.out]
  go_upto_region 21 with (first
    | (go_at_call 24; refine HDK.out.mono ?_; rintro e w1 ⟨rfl, hb1⟩; have E1 : Ext W w1 := hb1; have hr1 := E1.row R0.out; have k0 := cell_of_row _ _ 0 _ _ _ hr1; have k1 := cell_of_row _ _ 1 _ _ _ hr1; clear hb1 hr1)
    | (go_at_call 38; refine (HCP.out w1 E1).mono ?_; rintro e w2 ⟨g2, c2, rfl, hp2, hg2, E2⟩; have hO : w.heap.size + 1 < w2.heap.size := (by have h8 := E2.size; have h9 := HWS.out; omega); have l3 := lin_new (x := s) E2 hp2 hg2; clear hp2 hg2)
    | (go_at_call 48; refine (HRD.out _).mono ?_; rintro e w4 ⟨rfl, hb4⟩; have l4 := (l3.call hb4).alloc (.cells #[.int .i64 0, .int .i64 0] 53); have hr4 := l4.ext.row R0.out; have l0 := cell_of_row _ _ 0 _ _ _ hr4; have hrr := l4.ext.row R1.out; have f0 := frozen_of_row _ _ 0 _ _ hrr; have f1 := frozen_of_row _ _ 1 _ _ hrr; have m0 := cell_of_row _ _ 0 _ _ _ hrr; have m1 := cell_of_row _ _ 1 _ _ _ hrr; have n0 := l4.cells.1; have n1 := l4.cells.2; have qq := pair_put hrr (.string s) (.slice (some ⟨g2, 0, none⟩) L c2); have rq0 := cell_of_row _ _ 0 _ _ _ qq; have rq1 := cell_of_row _ _ 1 _ _ _ qq; clear hrr qq; clear hb4 hr4))
  have HT2 : yesText b = t := HT.out.symm
  rw [HT2] at hy
  have HY := Lib.hid hy
  clear hy HT2
  go_region_held3 (fun w' => w'.cell? ⟨w2.heap.size, 0, none⟩ = some (.string s) ∧ w'.cell? ⟨w2.heap.size, 1, none⟩ = some (.slice (some ⟨g2, 0, none⟩) L c2))
    (first
      | exact Lin.cells (by assumption)
      | exact (Lin.drew (by assumption)).cells
      | exact other_cells (by omega) (Lin.cells (by assumption)).1 (Lin.cells (by assumption)).2)
    (first
      | (go_at_call 52; refine (HY.out _).mono ?_; rintro e wB ⟨rfl, rfl⟩)
      | (go_at_call 54; refine (HC.out _).mono ?_; rintro e wA ⟨rfl, hbA⟩; have lA : Lin W w2.heap.size s g2 c2 L zs wA := Lin.call (by first | assumption | exact Lin.drew (by assumption)) hbA; have hrr := lA.ext.row R1.out; have f0 := frozen_of_row _ _ 0 _ _ hrr; have f1 := frozen_of_row _ _ 1 _ _ hrr; have m0 := cell_of_row _ _ 0 _ _ _ hrr; have m1 := cell_of_row _ _ 1 _ _ _ hrr; have n0 := lA.cells.1; have n1 := lA.cells.2; have qq := pair_put hrr (.string s) (.slice (some ⟨g2, 0, none⟩) L c2); have rq0 := cell_of_row _ _ 0 _ _ _ qq; have rq1 := cell_of_row _ _ 1 _ _ _ qq; clear hrr qq))
  all_goals
    go_wp2
    refine bodyPost_ret (v := .tuple #[.agg #[.string s, .slice (some ⟨g2, 0, none⟩) L c2], .string t]) (by simp [results, Tryz.results22, go_sem, rq0, rq1]) rfl ?_
    exact lin_done E0.out (by first | assumption | exact Lin.drew (by assumption)) HWS.out
set_option maxRecDepth 100000 in
set_option maxHeartbeats 1600000 in
theorem specLine_4 (s : ByteArray) (a : Option Addr) (c L : Nat) (zs : List ByteArray) (X : ByteArray) (w : World) (h : StrsAt w (.slice a L c) zs) (HL : Hid (zs.length = L)) (hok : Hid (deskOk s zs = true)) (hX : X.size ≤ 1048576) (hr : Hid (readOf X.data.toList = ((0, 0), false))) (hXe : X = ⟨#[97, 118, 111, 105, 100, 115]⟩) :
    Calls Tryz.prog 22 #[.agg #[.string s, .slice a L c], .string X] w (LineOut w s zs (askText 4 s)) := by
  have q0 : (X.toList == [119, 97, 108, 107]) = false := by rw [Lib.toList_data, hXe]; decide
  have q1 : (X.toList == [101, 110, 100]) = false := by rw [Lib.toList_data, hXe]; decide
  have q2 : (X.toList == [99, 108, 111, 115, 101, 100]) = false := by rw [Lib.toList_data, hXe]; decide
  have q3 : (X.toList == [115, 105, 109, 112, 108, 101]) = false := by rw [Lib.toList_data, hXe]; decide
  have q4 : (X.toList == [97, 118, 111, 105, 100, 115]) = true := by rw [Lib.toList_data, hXe]; decide
  obtain ⟨h1, h8, hz⟩ := deskOk_parts hok.out
  have h40 : s.size ≤ 40 := by have := Tw.walkOk_len h1; rwa [size_data] at this
  obtain ⟨e0, hsz, r0, r1⟩ := desk2_in w s (.slice a L c)
  obtain ⟨W, hW⟩ : ∃ W, deskBox2 w s (.slice a L c) = W := ⟨_, rfl⟩
  rw [hW] at e0 hsz r0 r1
  unfold deskBox2 at hW
  have HW := Lib.hid hW
  have HDK := Lib.hid (deskOk_named s (.slice a L c) zs W (e0.strs h) (by have := ok_size h1; omega) (by omega) (fun z hz9 => by have := ok_size (hz z hz9); omega) true hok.out)
  have HRD : Hid (∀ Y : World, Calls Tryz.prog 48 #[.string X] Y fun e w' => e = .returned (.tuple #[.agg #[.int .i64 0, .int .i64 0], .bool false]) ∧ Below Y.heap.size Y w') := fun Y => by
    refine (specReadDeed X Y hX).mono ?_
    rintro e w' ⟨he, hb⟩
    rw [hr.out] at he
    exact ⟨he, hb⟩
  have HCP : Hid (∀ Y, Ext W Y → Calls Tryz.prog 38 #[.agg #[.string s, .slice a L c]] Y fun e w' => ∃ g2 c2, e = .returned (.agg #[.string s, .slice (some ⟨g2, 0, none⟩) L c2]) ∧ PastAt w' (.slice (some ⟨g2, 0, none⟩) L c2) zs ∧ W.heap.size ≤ g2 ∧ Ext W w') := fun Y hY => by
    refine (copy_named s (.slice a L c) zs Y ((e0.trans hY).strs h) L HL.out (by have := HL.out; omega)).mono ?_
    rintro e w' ⟨g2, c2, he, hown2, hp2, hb2⟩
    exact ⟨g2, c2, he, hp2, by have := (hown2.lt g2 rfl).1; have := hY.size; omega, hY.call hb2⟩
  have R0 := Lib.hid r0
  have R1 := Lib.hid r1
  have E0 := Lib.hid e0
  have c0 := cell_of_row _ _ 0 _ _ _ r0
  have c1 := cell_of_row _ _ 1 _ _ _ r0
  have HWS := Lib.hid hsz
  have hs : s.size ≤ 1048576 := by omega
  have hc := fun Y => specAvoidsOk s Y hs
  obtain ⟨b, hb⟩ : ∃ b, Tw.avoids s.data.toList = b := ⟨_, rfl⟩
  have HT : Hid (askText 4 s = yesText b) := by show _ = _; rw [← hb]; rfl
  simp only [hb] at hc
  have HC := Lib.hid hc
  have hy := l12Yes_any b
  obtain ⟨t, ht⟩ : ∃ t, askText 4 s = t := ⟨_, rfl⟩
  rw [ht] at HT ⊢
  clear hW r0 r1 h hz h1 h8 e0 hsz hXe ht hc hb
  go_enter Tryz.func22, Tryz.ntmps22
  go_wp2_with fail
  rw [HW.out]
  go_upto_region 23 with (first
    | (go_at_call 24; refine HDK.out.mono ?_; rintro e w1 ⟨rfl, hb1⟩; have E1 : Ext W w1 := hb1; have hr1 := E1.row R0.out; have k0 := cell_of_row _ _ 0 _ _ _ hr1; have k1 := cell_of_row _ _ 1 _ _ _ hr1; clear hb1 hr1)
    | (go_at_call 38; refine (HCP.out w1 E1).mono ?_; rintro e w2 ⟨g2, c2, rfl, hp2, hg2, E2⟩; have hO : w.heap.size + 1 < w2.heap.size := (by have h8 := E2.size; have h9 := HWS.out; omega); have l3 := lin_new (x := s) E2 hp2 hg2; clear hp2 hg2)
    | (go_at_call 48; refine (HRD.out _).mono ?_; rintro e w4 ⟨rfl, hb4⟩; have l4 := (l3.call hb4).alloc (.cells #[.int .i64 0, .int .i64 0] 53); have hr4 := l4.ext.row R0.out; have l0 := cell_of_row _ _ 0 _ _ _ hr4; have hrr := l4.ext.row R1.out; have f0 := frozen_of_row _ _ 0 _ _ hrr; have f1 := frozen_of_row _ _ 1 _ _ hrr; have m0 := cell_of_row _ _ 0 _ _ _ hrr; have m1 := cell_of_row _ _ 1 _ _ _ hrr; have n0 := l4.cells.1; have n1 := l4.cells.2; have qq := pair_put hrr (.string s) (.slice (some ⟨g2, 0, none⟩) L c2); have rq0 := cell_of_row _ _ 0 _ _ _ qq; have rq1 := cell_of_row _ _ 1 _ _ _ qq; clear hrr qq; clear hb4 hr4))
  have HT2 : yesText b = t := HT.out.symm
  rw [HT2] at hy
  have HY := Lib.hid hy
  clear hy HT2
  go_region_held3 (fun w' => w'.cell? ⟨w2.heap.size, 0, none⟩ = some (.string s) ∧ w'.cell? ⟨w2.heap.size, 1, none⟩ = some (.slice (some ⟨g2, 0, none⟩) L c2))
    (first
      | exact Lin.cells (by assumption)
      | exact (Lin.drew (by assumption)).cells
      | exact other_cells (by omega) (Lin.cells (by assumption)).1 (Lin.cells (by assumption)).2)
    (first
      | (go_at_call 52; refine (HY.out _).mono ?_; rintro e wB ⟨rfl, rfl⟩)
      | (go_at_call 55; refine (HC.out _).mono ?_; rintro e wA ⟨rfl, hbA⟩; have lA : Lin W w2.heap.size s g2 c2 L zs wA := Lin.call (by first | assumption | exact Lin.drew (by assumption)) hbA; have hrr := lA.ext.row R1.out; have f0 := frozen_of_row _ _ 0 _ _ hrr; have f1 := frozen_of_row _ _ 1 _ _ hrr; have m0 := cell_of_row _ _ 0 _ _ _ hrr; have m1 := cell_of_row _ _ 1 _ _ _ hrr; have n0 := lA.cells.1; have n1 := lA.cells.2; have qq := pair_put hrr (.string s) (.slice (some ⟨g2, 0, none⟩) L c2); have rq0 := cell_of_row _ _ 0 _ _ _ qq; have rq1 := cell_of_row _ _ 1 _ _ _ qq; clear hrr qq))
  all_goals
    go_wp2
    refine bodyPost_ret (v := .tuple #[.agg #[.string s, .slice (some ⟨g2, 0, none⟩) L c2], .string t]) (by simp [results, Tryz.results22, go_sem, rq0, rq1]) rfl ?_
    exact lin_done E0.out (by first | assumption | exact Lin.drew (by assumption)) HWS.out
set_option maxRecDepth 100000 in
set_option maxHeartbeats 1600000 in
theorem specLine_5 (s : ByteArray) (a : Option Addr) (c L : Nat) (zs : List ByteArray) (X : ByteArray) (w : World) (h : StrsAt w (.slice a L c) zs) (HL : Hid (zs.length = L)) (hok : Hid (deskOk s zs = true)) (hX : X.size ≤ 1048576) (hr : Hid (readOf X.data.toList = ((0, 0), false))) (hXe : X = ⟨#[116, 117, 114, 110, 105, 110, 103]⟩) :
    Calls Tryz.prog 22 #[.agg #[.string s, .slice a L c], .string X] w (LineOut w s zs (askText 5 s)) := by
  have q0 : (X.toList == [119, 97, 108, 107]) = false := by rw [Lib.toList_data, hXe]; decide
  have q1 : (X.toList == [101, 110, 100]) = false := by rw [Lib.toList_data, hXe]; decide
  have q2 : (X.toList == [99, 108, 111, 115, 101, 100]) = false := by rw [Lib.toList_data, hXe]; decide
  have q3 : (X.toList == [115, 105, 109, 112, 108, 101]) = false := by rw [Lib.toList_data, hXe]; decide
  have q4 : (X.toList == [97, 118, 111, 105, 100, 115]) = false := by rw [Lib.toList_data, hXe]; decide
  have q5 : (X.toList == [116, 117, 114, 110, 105, 110, 103]) = true := by rw [Lib.toList_data, hXe]; decide
  obtain ⟨h1, h8, hz⟩ := deskOk_parts hok.out
  have h40 : s.size ≤ 40 := by have := Tw.walkOk_len h1; rwa [size_data] at this
  obtain ⟨e0, hsz, r0, r1⟩ := desk2_in w s (.slice a L c)
  obtain ⟨W, hW⟩ : ∃ W, deskBox2 w s (.slice a L c) = W := ⟨_, rfl⟩
  rw [hW] at e0 hsz r0 r1
  unfold deskBox2 at hW
  have HW := Lib.hid hW
  have HDK := Lib.hid (deskOk_named s (.slice a L c) zs W (e0.strs h) (by have := ok_size h1; omega) (by omega) (fun z hz9 => by have := ok_size (hz z hz9); omega) true hok.out)
  have HRD : Hid (∀ Y : World, Calls Tryz.prog 48 #[.string X] Y fun e w' => e = .returned (.tuple #[.agg #[.int .i64 0, .int .i64 0], .bool false]) ∧ Below Y.heap.size Y w') := fun Y => by
    refine (specReadDeed X Y hX).mono ?_
    rintro e w' ⟨he, hb⟩
    rw [hr.out] at he
    exact ⟨he, hb⟩
  have HCP : Hid (∀ Y, Ext W Y → Calls Tryz.prog 38 #[.agg #[.string s, .slice a L c]] Y fun e w' => ∃ g2 c2, e = .returned (.agg #[.string s, .slice (some ⟨g2, 0, none⟩) L c2]) ∧ PastAt w' (.slice (some ⟨g2, 0, none⟩) L c2) zs ∧ W.heap.size ≤ g2 ∧ Ext W w') := fun Y hY => by
    refine (copy_named s (.slice a L c) zs Y ((e0.trans hY).strs h) L HL.out (by have := HL.out; omega)).mono ?_
    rintro e w' ⟨g2, c2, he, hown2, hp2, hb2⟩
    exact ⟨g2, c2, he, hp2, by have := (hown2.lt g2 rfl).1; have := hY.size; omega, hY.call hb2⟩
  have R0 := Lib.hid r0
  have R1 := Lib.hid r1
  have E0 := Lib.hid e0
  have c0 := cell_of_row _ _ 0 _ _ _ r0
  have c1 := cell_of_row _ _ 1 _ _ _ r0
  have HWS := Lib.hid hsz
  have hs : s.size ≤ 1048576 := by omega
  have hc := fun Y => specTurningOf s Y hs
  have hn := turn_bound s.data.toList (by rw [size_data]; exact hs)
  obtain ⟨n, hnn⟩ : ∃ n, (if Tw.closed s.data.toList then turningOf s.data.toList else 0) = n := ⟨_, rfl⟩
  obtain ⟨b, hb⟩ : ∃ b, Tw.closed s.data.toList = b := ⟨_, rfl⟩
  have HT : Hid (askText 5 s = toldText n b) := by show _ = _; rw [← hnn, ← hb]; rfl
  simp only [hnn] at hc hn
  simp only [hb] at hc
  have HC := Lib.hid hc
  have hy := l12Told_any n b (by omega) (by omega)
  obtain ⟨t, ht⟩ : ∃ t, askText 5 s = t := ⟨_, rfl⟩
  rw [ht] at HT ⊢
  clear hW r0 r1 h hz h1 h8 e0 hsz hXe ht hc hb hnn hn
  go_enter Tryz.func22, Tryz.ntmps22
  go_wp2_with fail
  rw [HW.out]
  go_upto_region 25 with (first
    | (go_at_call 24; refine HDK.out.mono ?_; rintro e w1 ⟨rfl, hb1⟩; have E1 : Ext W w1 := hb1; have hr1 := E1.row R0.out; have k0 := cell_of_row _ _ 0 _ _ _ hr1; have k1 := cell_of_row _ _ 1 _ _ _ hr1; clear hb1 hr1)
    | (go_at_call 38; refine (HCP.out w1 E1).mono ?_; rintro e w2 ⟨g2, c2, rfl, hp2, hg2, E2⟩; have hO : w.heap.size + 1 < w2.heap.size := (by have h8 := E2.size; have h9 := HWS.out; omega); have l3 := lin_new (x := s) E2 hp2 hg2; clear hp2 hg2)
    | (go_at_call 48; refine (HRD.out _).mono ?_; rintro e w4 ⟨rfl, hb4⟩; have l4 := (l3.call hb4).alloc (.cells #[.int .i64 0, .int .i64 0] 53); have hr4 := l4.ext.row R0.out; have l0 := cell_of_row _ _ 0 _ _ _ hr4; have hrr := l4.ext.row R1.out; have f0 := frozen_of_row _ _ 0 _ _ hrr; have f1 := frozen_of_row _ _ 1 _ _ hrr; have m0 := cell_of_row _ _ 0 _ _ _ hrr; have m1 := cell_of_row _ _ 1 _ _ _ hrr; have n0 := l4.cells.1; have n1 := l4.cells.2; have qq := pair_put hrr (.string s) (.slice (some ⟨g2, 0, none⟩) L c2); have rq0 := cell_of_row _ _ 0 _ _ _ qq; have rq1 := cell_of_row _ _ 1 _ _ _ qq; clear hrr qq; clear hb4 hr4))
  have HT2 : toldText n b = t := HT.out.symm
  rw [HT2] at hy
  have HY := Lib.hid hy
  clear hy HT2
  go_region_held3 (fun w' => w'.cell? ⟨w2.heap.size, 0, none⟩ = some (.string s) ∧ w'.cell? ⟨w2.heap.size, 1, none⟩ = some (.slice (some ⟨g2, 0, none⟩) L c2))
    (first
      | exact Lin.cells (by assumption)
      | exact (Lin.drew (by assumption)).cells
      | exact other_cells (by omega) (Lin.cells (by assumption)).1 (Lin.cells (by assumption)).2)
    (first
      | (go_at_call 56; refine (HY.out _).mono ?_; rintro e wB ⟨rfl, hbB⟩; have lB : Lin W w2.heap.size s g2 c2 L zs wB := Lin.call (by first | assumption | exact Lin.drew (by assumption)) hbB; have hrr := lB.ext.row R1.out; have f0 := frozen_of_row _ _ 0 _ _ hrr; have f1 := frozen_of_row _ _ 1 _ _ hrr; have m0 := cell_of_row _ _ 0 _ _ _ hrr; have m1 := cell_of_row _ _ 1 _ _ _ hrr; have n0 := lB.cells.1; have n1 := lB.cells.2; have qq := pair_put hrr (.string s) (.slice (some ⟨g2, 0, none⟩) L c2); have rq0 := cell_of_row _ _ 0 _ _ _ qq; have rq1 := cell_of_row _ _ 1 _ _ _ qq; clear hrr qq)
      | (go_at_call 57; refine (HC.out _).mono ?_; rintro e wA ⟨rfl, hbA⟩; have lA : Lin W w2.heap.size s g2 c2 L zs wA := Lin.call (by first | assumption | exact Lin.drew (by assumption)) hbA; have hrr := lA.ext.row R1.out; have f0 := frozen_of_row _ _ 0 _ _ hrr; have f1 := frozen_of_row _ _ 1 _ _ hrr; have m0 := cell_of_row _ _ 0 _ _ _ hrr; have m1 := cell_of_row _ _ 1 _ _ _ hrr; have n0 := lA.cells.1; have n1 := lA.cells.2; have qq := pair_put hrr (.string s) (.slice (some ⟨g2, 0, none⟩) L c2); have rq0 := cell_of_row _ _ 0 _ _ _ qq; have rq1 := cell_of_row _ _ 1 _ _ _ qq; clear hrr qq))
  all_goals
    go_wp2
    refine bodyPost_ret (v := .tuple #[.agg #[.string s, .slice (some ⟨g2, 0, none⟩) L c2], .string t]) (by simp [results, Tryz.results22, go_sem, rq0, rq1]) rfl ?_
    exact lin_done E0.out (by first | assumption | exact Lin.drew (by assumption)) HWS.out
set_option maxRecDepth 100000 in
set_option maxHeartbeats 1600000 in
theorem specLine_6 (s : ByteArray) (a : Option Addr) (c L : Nat) (zs : List ByteArray) (X : ByteArray) (w : World) (h : StrsAt w (.slice a L c) zs) (HL : Hid (zs.length = L)) (hok : Hid (deskOk s zs = true)) (hX : X.size ≤ 1048576) (hr : Hid (readOf X.data.toList = ((0, 0), false))) (hXe : X = ⟨#[97, 114, 101, 97]⟩) :
    Calls Tryz.prog 22 #[.agg #[.string s, .slice a L c], .string X] w (LineOut w s zs (askText 6 s)) := by
  have q0 : (X.toList == [119, 97, 108, 107]) = false := by rw [Lib.toList_data, hXe]; decide
  have q1 : (X.toList == [101, 110, 100]) = false := by rw [Lib.toList_data, hXe]; decide
  have q2 : (X.toList == [99, 108, 111, 115, 101, 100]) = false := by rw [Lib.toList_data, hXe]; decide
  have q3 : (X.toList == [115, 105, 109, 112, 108, 101]) = false := by rw [Lib.toList_data, hXe]; decide
  have q4 : (X.toList == [97, 118, 111, 105, 100, 115]) = false := by rw [Lib.toList_data, hXe]; decide
  have q5 : (X.toList == [116, 117, 114, 110, 105, 110, 103]) = false := by rw [Lib.toList_data, hXe]; decide
  have q6 : (X.toList == [97, 114, 101, 97]) = true := by rw [Lib.toList_data, hXe]; decide
  obtain ⟨h1, h8, hz⟩ := deskOk_parts hok.out
  have h40 : s.size ≤ 40 := by have := Tw.walkOk_len h1; rwa [size_data] at this
  obtain ⟨e0, hsz, r0, r1⟩ := desk2_in w s (.slice a L c)
  obtain ⟨W, hW⟩ : ∃ W, deskBox2 w s (.slice a L c) = W := ⟨_, rfl⟩
  rw [hW] at e0 hsz r0 r1
  unfold deskBox2 at hW
  have HW := Lib.hid hW
  have HDK := Lib.hid (deskOk_named s (.slice a L c) zs W (e0.strs h) (by have := ok_size h1; omega) (by omega) (fun z hz9 => by have := ok_size (hz z hz9); omega) true hok.out)
  have HRD : Hid (∀ Y : World, Calls Tryz.prog 48 #[.string X] Y fun e w' => e = .returned (.tuple #[.agg #[.int .i64 0, .int .i64 0], .bool false]) ∧ Below Y.heap.size Y w') := fun Y => by
    refine (specReadDeed X Y hX).mono ?_
    rintro e w' ⟨he, hb⟩
    rw [hr.out] at he
    exact ⟨he, hb⟩
  have HCP : Hid (∀ Y, Ext W Y → Calls Tryz.prog 38 #[.agg #[.string s, .slice a L c]] Y fun e w' => ∃ g2 c2, e = .returned (.agg #[.string s, .slice (some ⟨g2, 0, none⟩) L c2]) ∧ PastAt w' (.slice (some ⟨g2, 0, none⟩) L c2) zs ∧ W.heap.size ≤ g2 ∧ Ext W w') := fun Y hY => by
    refine (copy_named s (.slice a L c) zs Y ((e0.trans hY).strs h) L HL.out (by have := HL.out; omega)).mono ?_
    rintro e w' ⟨g2, c2, he, hown2, hp2, hb2⟩
    exact ⟨g2, c2, he, hp2, by have := (hown2.lt g2 rfl).1; have := hY.size; omega, hY.call hb2⟩
  have R0 := Lib.hid r0
  have R1 := Lib.hid r1
  have E0 := Lib.hid e0
  have c0 := cell_of_row _ _ 0 _ _ _ r0
  have c1 := cell_of_row _ _ 1 _ _ _ r0
  have HWS := Lib.hid hsz
  have hs : s.size ≤ 1048576 := by omega
  have hc := fun Y => specAreaOf s Y hs
  have hn := line_res_bound s.data.toList
  obtain ⟨n, hnn⟩ : ∃ n, areaRes s.data.toList = n := ⟨_, rfl⟩
  obtain ⟨b, hb⟩ : ∃ b, Tw.closed s.data.toList = b := ⟨_, rfl⟩
  have HT : Hid (askText 6 s = toldText n b) := by show _ = _; rw [← hnn, ← hb]; rfl
  simp only [hnn] at hc hn
  simp only [hb] at hc
  have HC := Lib.hid hc
  have hy := l12Told_any n b (by omega) (by omega)
  obtain ⟨t, ht⟩ : ∃ t, askText 6 s = t := ⟨_, rfl⟩
  rw [ht] at HT ⊢
  clear hW r0 r1 h hz h1 h8 e0 hsz hXe ht hc hb hnn hn
  go_enter Tryz.func22, Tryz.ntmps22
  go_wp2_with fail
  rw [HW.out]
  go_upto_region 27 with (first
    | (go_at_call 24; refine HDK.out.mono ?_; rintro e w1 ⟨rfl, hb1⟩; have E1 : Ext W w1 := hb1; have hr1 := E1.row R0.out; have k0 := cell_of_row _ _ 0 _ _ _ hr1; have k1 := cell_of_row _ _ 1 _ _ _ hr1; clear hb1 hr1)
    | (go_at_call 38; refine (HCP.out w1 E1).mono ?_; rintro e w2 ⟨g2, c2, rfl, hp2, hg2, E2⟩; have hO : w.heap.size + 1 < w2.heap.size := (by have h8 := E2.size; have h9 := HWS.out; omega); have l3 := lin_new (x := s) E2 hp2 hg2; clear hp2 hg2)
    | (go_at_call 48; refine (HRD.out _).mono ?_; rintro e w4 ⟨rfl, hb4⟩; have l4 := (l3.call hb4).alloc (.cells #[.int .i64 0, .int .i64 0] 53); have hr4 := l4.ext.row R0.out; have l0 := cell_of_row _ _ 0 _ _ _ hr4; have hrr := l4.ext.row R1.out; have f0 := frozen_of_row _ _ 0 _ _ hrr; have f1 := frozen_of_row _ _ 1 _ _ hrr; have m0 := cell_of_row _ _ 0 _ _ _ hrr; have m1 := cell_of_row _ _ 1 _ _ _ hrr; have n0 := l4.cells.1; have n1 := l4.cells.2; have qq := pair_put hrr (.string s) (.slice (some ⟨g2, 0, none⟩) L c2); have rq0 := cell_of_row _ _ 0 _ _ _ qq; have rq1 := cell_of_row _ _ 1 _ _ _ qq; clear hrr qq; clear hb4 hr4))
  have HT2 : toldText n b = t := HT.out.symm
  rw [HT2] at hy
  have HY := Lib.hid hy
  clear hy HT2
  go_region_held3 (fun w' => w'.cell? ⟨w2.heap.size, 0, none⟩ = some (.string s) ∧ w'.cell? ⟨w2.heap.size, 1, none⟩ = some (.slice (some ⟨g2, 0, none⟩) L c2))
    (first
      | exact Lin.cells (by assumption)
      | exact (Lin.drew (by assumption)).cells
      | exact other_cells (by omega) (Lin.cells (by assumption)).1 (Lin.cells (by assumption)).2)
    (first
      | (go_at_call 56; refine (HY.out _).mono ?_; rintro e wB ⟨rfl, hbB⟩; have lB : Lin W w2.heap.size s g2 c2 L zs wB := Lin.call (by first | assumption | exact Lin.drew (by assumption)) hbB; have hrr := lB.ext.row R1.out; have f0 := frozen_of_row _ _ 0 _ _ hrr; have f1 := frozen_of_row _ _ 1 _ _ hrr; have m0 := cell_of_row _ _ 0 _ _ _ hrr; have m1 := cell_of_row _ _ 1 _ _ _ hrr; have n0 := lB.cells.1; have n1 := lB.cells.2; have qq := pair_put hrr (.string s) (.slice (some ⟨g2, 0, none⟩) L c2); have rq0 := cell_of_row _ _ 0 _ _ _ qq; have rq1 := cell_of_row _ _ 1 _ _ _ qq; clear hrr qq)
      | (go_at_call 58; refine (HC.out _).mono ?_; rintro e wA ⟨rfl, hbA⟩; have lA : Lin W w2.heap.size s g2 c2 L zs wA := Lin.call (by first | assumption | exact Lin.drew (by assumption)) hbA; have hrr := lA.ext.row R1.out; have f0 := frozen_of_row _ _ 0 _ _ hrr; have f1 := frozen_of_row _ _ 1 _ _ hrr; have m0 := cell_of_row _ _ 0 _ _ _ hrr; have m1 := cell_of_row _ _ 1 _ _ _ hrr; have n0 := lA.cells.1; have n1 := lA.cells.2; have qq := pair_put hrr (.string s) (.slice (some ⟨g2, 0, none⟩) L c2); have rq0 := cell_of_row _ _ 0 _ _ _ qq; have rq1 := cell_of_row _ _ 1 _ _ _ qq; clear hrr qq))
  all_goals
    go_wp2
    refine bodyPost_ret (v := .tuple #[.agg #[.string s, .slice (some ⟨g2, 0, none⟩) L c2], .string t]) (by simp [results, Tryz.results22, go_sem, rq0, rq1]) rfl ?_
    exact lin_done E0.out (by first | assumption | exact Lin.drew (by assumption)) HWS.out
set_option maxRecDepth 100000 in
set_option maxHeartbeats 1600000 in
theorem specLine_7 (s : ByteArray) (a : Option Addr) (c L : Nat) (zs : List ByteArray) (X : ByteArray) (w : World) (h : StrsAt w (.slice a L c) zs) (HL : Hid (zs.length = L)) (hok : Hid (deskOk s zs = true)) (hX : X.size ≤ 1048576) (hr : Hid (readOf X.data.toList = ((0, 0), false))) (hXe : X = ⟨#[119, 105, 110, 100, 105, 110, 103]⟩) :
    Calls Tryz.prog 22 #[.agg #[.string s, .slice a L c], .string X] w (LineOut w s zs (askText 7 s)) := by
  have q0 : (X.toList == [119, 97, 108, 107]) = false := by rw [Lib.toList_data, hXe]; decide
  have q1 : (X.toList == [101, 110, 100]) = false := by rw [Lib.toList_data, hXe]; decide
  have q2 : (X.toList == [99, 108, 111, 115, 101, 100]) = false := by rw [Lib.toList_data, hXe]; decide
  have q3 : (X.toList == [115, 105, 109, 112, 108, 101]) = false := by rw [Lib.toList_data, hXe]; decide
  have q4 : (X.toList == [97, 118, 111, 105, 100, 115]) = false := by rw [Lib.toList_data, hXe]; decide
  have q5 : (X.toList == [116, 117, 114, 110, 105, 110, 103]) = false := by rw [Lib.toList_data, hXe]; decide
  have q6 : (X.toList == [97, 114, 101, 97]) = false := by rw [Lib.toList_data, hXe]; decide
  have q7 : (X.toList == [119, 105, 110, 100, 105, 110, 103]) = true := by rw [Lib.toList_data, hXe]; decide
  obtain ⟨h1, h8, hz⟩ := deskOk_parts hok.out
  have h40 : s.size ≤ 40 := by have := Tw.walkOk_len h1; rwa [size_data] at this
  obtain ⟨e0, hsz, r0, r1⟩ := desk2_in w s (.slice a L c)
  obtain ⟨W, hW⟩ : ∃ W, deskBox2 w s (.slice a L c) = W := ⟨_, rfl⟩
  rw [hW] at e0 hsz r0 r1
  unfold deskBox2 at hW
  have HW := Lib.hid hW
  have HDK := Lib.hid (deskOk_named s (.slice a L c) zs W (e0.strs h) (by have := ok_size h1; omega) (by omega) (fun z hz9 => by have := ok_size (hz z hz9); omega) true hok.out)
  have HRD : Hid (∀ Y : World, Calls Tryz.prog 48 #[.string X] Y fun e w' => e = .returned (.tuple #[.agg #[.int .i64 0, .int .i64 0], .bool false]) ∧ Below Y.heap.size Y w') := fun Y => by
    refine (specReadDeed X Y hX).mono ?_
    rintro e w' ⟨he, hb⟩
    rw [hr.out] at he
    exact ⟨he, hb⟩
  have HCP : Hid (∀ Y, Ext W Y → Calls Tryz.prog 38 #[.agg #[.string s, .slice a L c]] Y fun e w' => ∃ g2 c2, e = .returned (.agg #[.string s, .slice (some ⟨g2, 0, none⟩) L c2]) ∧ PastAt w' (.slice (some ⟨g2, 0, none⟩) L c2) zs ∧ W.heap.size ≤ g2 ∧ Ext W w') := fun Y hY => by
    refine (copy_named s (.slice a L c) zs Y ((e0.trans hY).strs h) L HL.out (by have := HL.out; omega)).mono ?_
    rintro e w' ⟨g2, c2, he, hown2, hp2, hb2⟩
    exact ⟨g2, c2, he, hp2, by have := (hown2.lt g2 rfl).1; have := hY.size; omega, hY.call hb2⟩
  have R0 := Lib.hid r0
  have R1 := Lib.hid r1
  have E0 := Lib.hid e0
  have c0 := cell_of_row _ _ 0 _ _ _ r0
  have c1 := cell_of_row _ _ 1 _ _ _ r0
  have HWS := Lib.hid hsz
  have hs : s.size ≤ 1048576 := by omega
  have hc := fun Y => specMost s Y hs
  have hc2 := fun Y => specClosedOk s Y hs
  have hn := Tw.mostRes_range (l := s.data.toList)
  obtain ⟨n, hnn⟩ : ∃ n, Tw.mostRes s.data.toList = n := ⟨_, rfl⟩
  obtain ⟨b, hb⟩ : ∃ b, Tw.closed s.data.toList = b := ⟨_, rfl⟩
  have HT : Hid (askText 7 s = toldText n b) := by show _ = _; rw [← hnn, ← hb]; rfl
  simp only [hnn] at hc hn
  simp only [hb] at hc2
  have HC := Lib.hid hc
  have HC2 := Lib.hid hc2
  have hy := l12Told_any n b (by omega) (by omega)
  obtain ⟨t, ht⟩ : ∃ t, askText 7 s = t := ⟨_, rfl⟩
  rw [ht] at HT ⊢
  clear hW r0 r1 h hz h1 h8 e0 hsz hXe ht hc hc2 hb hnn hn
  go_enter Tryz.func22, Tryz.ntmps22
  go_wp2_with fail
  rw [HW.out]
  go_upto_region 29 with (first
    | (go_at_call 24; refine HDK.out.mono ?_; rintro e w1 ⟨rfl, hb1⟩; have E1 : Ext W w1 := hb1; have hr1 := E1.row R0.out; have k0 := cell_of_row _ _ 0 _ _ _ hr1; have k1 := cell_of_row _ _ 1 _ _ _ hr1; clear hb1 hr1)
    | (go_at_call 38; refine (HCP.out w1 E1).mono ?_; rintro e w2 ⟨g2, c2, rfl, hp2, hg2, E2⟩; have hO : w.heap.size + 1 < w2.heap.size := (by have h8 := E2.size; have h9 := HWS.out; omega); have l3 := lin_new (x := s) E2 hp2 hg2; clear hp2 hg2)
    | (go_at_call 48; refine (HRD.out _).mono ?_; rintro e w4 ⟨rfl, hb4⟩; have l4 := (l3.call hb4).alloc (.cells #[.int .i64 0, .int .i64 0] 53); have hr4 := l4.ext.row R0.out; have l0 := cell_of_row _ _ 0 _ _ _ hr4; have hrr := l4.ext.row R1.out; have f0 := frozen_of_row _ _ 0 _ _ hrr; have f1 := frozen_of_row _ _ 1 _ _ hrr; have m0 := cell_of_row _ _ 0 _ _ _ hrr; have m1 := cell_of_row _ _ 1 _ _ _ hrr; have n0 := l4.cells.1; have n1 := l4.cells.2; have qq := pair_put hrr (.string s) (.slice (some ⟨g2, 0, none⟩) L c2); have rq0 := cell_of_row _ _ 0 _ _ _ qq; have rq1 := cell_of_row _ _ 1 _ _ _ qq; clear hrr qq; clear hb4 hr4))
  have HT2 : toldText n b = t := HT.out.symm
  rw [HT2] at hy
  have HY := Lib.hid hy
  clear hy HT2
  go_region_held3 (fun w' => w'.cell? ⟨w2.heap.size, 0, none⟩ = some (.string s) ∧ w'.cell? ⟨w2.heap.size, 1, none⟩ = some (.slice (some ⟨g2, 0, none⟩) L c2))
    (first
      | exact Lin.cells (by assumption)
      | exact (Lin.drew (by assumption)).cells
      | exact other_cells (by omega) (Lin.cells (by assumption)).1 (Lin.cells (by assumption)).2)
    (first
      | (go_at_call 56; refine (HY.out _).mono ?_; rintro e wB ⟨rfl, hbB⟩; have lB : Lin W w2.heap.size s g2 c2 L zs wB := Lin.call (by first | assumption | exact Lin.drew (by assumption)) hbB; have hrr := lB.ext.row R1.out; have f0 := frozen_of_row _ _ 0 _ _ hrr; have f1 := frozen_of_row _ _ 1 _ _ hrr; have m0 := cell_of_row _ _ 0 _ _ _ hrr; have m1 := cell_of_row _ _ 1 _ _ _ hrr; have n0 := lB.cells.1; have n1 := lB.cells.2; have qq := pair_put hrr (.string s) (.slice (some ⟨g2, 0, none⟩) L c2); have rq0 := cell_of_row _ _ 0 _ _ _ qq; have rq1 := cell_of_row _ _ 1 _ _ _ qq; clear hrr qq)
      | (go_at_call 59; refine (HC.out _).mono ?_; rintro e wA ⟨rfl, hbA⟩; have lA : Lin W w2.heap.size s g2 c2 L zs wA := Lin.call (by first | assumption | exact Lin.drew (by assumption)) hbA; have hrr := lA.ext.row R1.out; have f0 := frozen_of_row _ _ 0 _ _ hrr; have f1 := frozen_of_row _ _ 1 _ _ hrr; have m0 := cell_of_row _ _ 0 _ _ _ hrr; have m1 := cell_of_row _ _ 1 _ _ _ hrr; have n0 := lA.cells.1; have n1 := lA.cells.2; have qq := pair_put hrr (.string s) (.slice (some ⟨g2, 0, none⟩) L c2); have rq0 := cell_of_row _ _ 0 _ _ _ qq; have rq1 := cell_of_row _ _ 1 _ _ _ qq; clear hrr qq)
      | (go_at_call 53; refine (HC2.out _).mono ?_; rintro e wD ⟨rfl, hbD⟩; have lD : Lin W w2.heap.size s g2 c2 L zs wD := Lin.call (by first | assumption | exact Lin.drew (by assumption)) hbD; have hrr := lD.ext.row R1.out; have f0 := frozen_of_row _ _ 0 _ _ hrr; have f1 := frozen_of_row _ _ 1 _ _ hrr; have m0 := cell_of_row _ _ 0 _ _ _ hrr; have m1 := cell_of_row _ _ 1 _ _ _ hrr; have n0 := lD.cells.1; have n1 := lD.cells.2; have qq := pair_put hrr (.string s) (.slice (some ⟨g2, 0, none⟩) L c2); have rq0 := cell_of_row _ _ 0 _ _ _ qq; have rq1 := cell_of_row _ _ 1 _ _ _ qq; clear hrr qq))
  all_goals
    go_wp2
    refine bodyPost_ret (v := .tuple #[.agg #[.string s, .slice (some ⟨g2, 0, none⟩) L c2], .string t]) (by simp [results, Tryz.results22, go_sem, rq0, rq1]) rfl ?_
    exact lin_done E0.out (by first | assumption | exact Lin.drew (by assumption)) HWS.out
set_option maxRecDepth 100000 in
set_option maxHeartbeats 1600000 in
theorem specLine_8 (s : ByteArray) (a : Option Addr) (c L : Nat) (zs : List ByteArray) (X : ByteArray) (w : World) (h : StrsAt w (.slice a L c) zs) (HL : Hid (zs.length = L)) (hok : Hid (deskOk s zs = true)) (hX : X.size ≤ 1048576) (hr : Hid (readOf X.data.toList = ((0, 0), false))) (hXe : X = ⟨#[115, 113, 117, 97, 114, 101, 115]⟩) :
    Calls Tryz.prog 22 #[.agg #[.string s, .slice a L c], .string X] w (LineOut w s zs (askText 8 s)) := by
  have q0 : (X.toList == [119, 97, 108, 107]) = false := by rw [Lib.toList_data, hXe]; decide
  have q1 : (X.toList == [101, 110, 100]) = false := by rw [Lib.toList_data, hXe]; decide
  have q2 : (X.toList == [99, 108, 111, 115, 101, 100]) = false := by rw [Lib.toList_data, hXe]; decide
  have q3 : (X.toList == [115, 105, 109, 112, 108, 101]) = false := by rw [Lib.toList_data, hXe]; decide
  have q4 : (X.toList == [97, 118, 111, 105, 100, 115]) = false := by rw [Lib.toList_data, hXe]; decide
  have q5 : (X.toList == [116, 117, 114, 110, 105, 110, 103]) = false := by rw [Lib.toList_data, hXe]; decide
  have q6 : (X.toList == [97, 114, 101, 97]) = false := by rw [Lib.toList_data, hXe]; decide
  have q7 : (X.toList == [119, 105, 110, 100, 105, 110, 103]) = false := by rw [Lib.toList_data, hXe]; decide
  have q8 : (X.toList == [115, 113, 117, 97, 114, 101, 115]) = true := by rw [Lib.toList_data, hXe]; decide
  obtain ⟨h1, h8, hz⟩ := deskOk_parts hok.out
  have h40 : s.size ≤ 40 := by have := Tw.walkOk_len h1; rwa [size_data] at this
  obtain ⟨e0, hsz, r0, r1⟩ := desk2_in w s (.slice a L c)
  obtain ⟨W, hW⟩ : ∃ W, deskBox2 w s (.slice a L c) = W := ⟨_, rfl⟩
  rw [hW] at e0 hsz r0 r1
  unfold deskBox2 at hW
  have HW := Lib.hid hW
  have HDK := Lib.hid (deskOk_named s (.slice a L c) zs W (e0.strs h) (by have := ok_size h1; omega) (by omega) (fun z hz9 => by have := ok_size (hz z hz9); omega) true hok.out)
  have HRD : Hid (∀ Y : World, Calls Tryz.prog 48 #[.string X] Y fun e w' => e = .returned (.tuple #[.agg #[.int .i64 0, .int .i64 0], .bool false]) ∧ Below Y.heap.size Y w') := fun Y => by
    refine (specReadDeed X Y hX).mono ?_
    rintro e w' ⟨he, hb⟩
    rw [hr.out] at he
    exact ⟨he, hb⟩
  have HCP : Hid (∀ Y, Ext W Y → Calls Tryz.prog 38 #[.agg #[.string s, .slice a L c]] Y fun e w' => ∃ g2 c2, e = .returned (.agg #[.string s, .slice (some ⟨g2, 0, none⟩) L c2]) ∧ PastAt w' (.slice (some ⟨g2, 0, none⟩) L c2) zs ∧ W.heap.size ≤ g2 ∧ Ext W w') := fun Y hY => by
    refine (copy_named s (.slice a L c) zs Y ((e0.trans hY).strs h) L HL.out (by have := HL.out; omega)).mono ?_
    rintro e w' ⟨g2, c2, he, hown2, hp2, hb2⟩
    exact ⟨g2, c2, he, hp2, by have := (hown2.lt g2 rfl).1; have := hY.size; omega, hY.call hb2⟩
  have R0 := Lib.hid r0
  have R1 := Lib.hid r1
  have E0 := Lib.hid e0
  have c0 := cell_of_row _ _ 0 _ _ _ r0
  have c1 := cell_of_row _ _ 1 _ _ _ r0
  have HWS := Lib.hid hsz
  have hs : s.size ≤ 1048576 := by omega
  have hc := fun Y => specSquares s Y hs h1
  have hc2 := fun Y => specSimple_is s Y hs h1
  have hn := Tw.squaresRes_range (l := s.data.toList)
  obtain ⟨n, hnn⟩ : ∃ n, Tw.squaresRes s.data.toList = n := ⟨_, rfl⟩
  obtain ⟨b, hb⟩ : ∃ b, Tw.simple s.data.toList = b := ⟨_, rfl⟩
  have HT : Hid (askText 8 s = toldText n b) := by show _ = _; rw [← hnn, ← hb]; rfl
  simp only [hnn] at hc hn
  simp only [hb] at hc2
  have HC := Lib.hid hc
  have HC2 := Lib.hid hc2
  have hy := l12Told_any n b (by omega) (by omega)
  obtain ⟨t, ht⟩ : ∃ t, askText 8 s = t := ⟨_, rfl⟩
  rw [ht] at HT ⊢
  clear hW r0 r1 h hz h1 h8 e0 hsz hXe ht hc hc2 hb hnn hn
  go_enter Tryz.func22, Tryz.ntmps22
  go_wp2_with fail
  rw [HW.out]
  go_upto_region 31 with (first
    | (go_at_call 24; refine HDK.out.mono ?_; rintro e w1 ⟨rfl, hb1⟩; have E1 : Ext W w1 := hb1; have hr1 := E1.row R0.out; have k0 := cell_of_row _ _ 0 _ _ _ hr1; have k1 := cell_of_row _ _ 1 _ _ _ hr1; clear hb1 hr1)
    | (go_at_call 38; refine (HCP.out w1 E1).mono ?_; rintro e w2 ⟨g2, c2, rfl, hp2, hg2, E2⟩; have hO : w.heap.size + 1 < w2.heap.size := (by have h8 := E2.size; have h9 := HWS.out; omega); have l3 := lin_new (x := s) E2 hp2 hg2; clear hp2 hg2)
    | (go_at_call 48; refine (HRD.out _).mono ?_; rintro e w4 ⟨rfl, hb4⟩; have l4 := (l3.call hb4).alloc (.cells #[.int .i64 0, .int .i64 0] 53); have hr4 := l4.ext.row R0.out; have l0 := cell_of_row _ _ 0 _ _ _ hr4; have hrr := l4.ext.row R1.out; have f0 := frozen_of_row _ _ 0 _ _ hrr; have f1 := frozen_of_row _ _ 1 _ _ hrr; have m0 := cell_of_row _ _ 0 _ _ _ hrr; have m1 := cell_of_row _ _ 1 _ _ _ hrr; have n0 := l4.cells.1; have n1 := l4.cells.2; have qq := pair_put hrr (.string s) (.slice (some ⟨g2, 0, none⟩) L c2); have rq0 := cell_of_row _ _ 0 _ _ _ qq; have rq1 := cell_of_row _ _ 1 _ _ _ qq; clear hrr qq; clear hb4 hr4))
  have HT2 : toldText n b = t := HT.out.symm
  rw [HT2] at hy
  have HY := Lib.hid hy
  clear hy HT2
  go_region_held3 (fun w' => w'.cell? ⟨w2.heap.size, 0, none⟩ = some (.string s) ∧ w'.cell? ⟨w2.heap.size, 1, none⟩ = some (.slice (some ⟨g2, 0, none⟩) L c2))
    (first
      | exact Lin.cells (by assumption)
      | exact (Lin.drew (by assumption)).cells
      | exact other_cells (by omega) (Lin.cells (by assumption)).1 (Lin.cells (by assumption)).2)
    (first
      | (go_at_call 56; refine (HY.out _).mono ?_; rintro e wB ⟨rfl, hbB⟩; have lB : Lin W w2.heap.size s g2 c2 L zs wB := Lin.call (by first | assumption | exact Lin.drew (by assumption)) hbB; have hrr := lB.ext.row R1.out; have f0 := frozen_of_row _ _ 0 _ _ hrr; have f1 := frozen_of_row _ _ 1 _ _ hrr; have m0 := cell_of_row _ _ 0 _ _ _ hrr; have m1 := cell_of_row _ _ 1 _ _ _ hrr; have n0 := lB.cells.1; have n1 := lB.cells.2; have qq := pair_put hrr (.string s) (.slice (some ⟨g2, 0, none⟩) L c2); have rq0 := cell_of_row _ _ 0 _ _ _ qq; have rq1 := cell_of_row _ _ 1 _ _ _ qq; clear hrr qq)
      | (go_at_call 60; refine (HC.out _).mono ?_; rintro e wA ⟨rfl, hbA⟩; have lA : Lin W w2.heap.size s g2 c2 L zs wA := Lin.call (by first | assumption | exact Lin.drew (by assumption)) hbA; have hrr := lA.ext.row R1.out; have f0 := frozen_of_row _ _ 0 _ _ hrr; have f1 := frozen_of_row _ _ 1 _ _ hrr; have m0 := cell_of_row _ _ 0 _ _ _ hrr; have m1 := cell_of_row _ _ 1 _ _ _ hrr; have n0 := lA.cells.1; have n1 := lA.cells.2; have qq := pair_put hrr (.string s) (.slice (some ⟨g2, 0, none⟩) L c2); have rq0 := cell_of_row _ _ 0 _ _ _ qq; have rq1 := cell_of_row _ _ 1 _ _ _ qq; clear hrr qq)
      | (go_at_call 54; refine (HC2.out _).mono ?_; rintro e wD ⟨rfl, hbD⟩; have lD : Lin W w2.heap.size s g2 c2 L zs wD := Lin.call (by first | assumption | exact Lin.drew (by assumption)) hbD; have hrr := lD.ext.row R1.out; have f0 := frozen_of_row _ _ 0 _ _ hrr; have f1 := frozen_of_row _ _ 1 _ _ hrr; have m0 := cell_of_row _ _ 0 _ _ _ hrr; have m1 := cell_of_row _ _ 1 _ _ _ hrr; have n0 := lD.cells.1; have n1 := lD.cells.2; have qq := pair_put hrr (.string s) (.slice (some ⟨g2, 0, none⟩) L c2); have rq0 := cell_of_row _ _ 0 _ _ _ qq; have rq1 := cell_of_row _ _ 1 _ _ _ qq; clear hrr qq))
  all_goals
    go_wp2
    refine bodyPost_ret (v := .tuple #[.agg #[.string s, .slice (some ⟨g2, 0, none⟩) L c2], .string t]) (by simp [results, Tryz.results22, go_sem, rq0, rq1]) rfl ?_
    exact lin_done E0.out (by first | assumption | exact Lin.drew (by assumption)) HWS.out
theorem lastPlace (s : ByteArray) (w : World) (hs : s.size ≤ 1048576) (hok : Tw.walkOk s.data.toList = true) :
    Calls Tryz.prog 50 #[.string s] w fun e w' => ∃ g cap b, e = .returned (.slice (some ⟨g, 0, none⟩) (s.size + 1) cap) ∧ w'.cell? ⟨g, s.size, none⟩ = some (.slice (some ⟨b, 0, none⟩) 2 2) ∧ w'.heap[b]? = some (pairBlock (Tw.endOf s.data.toList)) ∧ Below w.heap.size w w' := by
  refine (specPlacesOf_n s w hs hok (Tw.places s.data.toList) (s.size + 1) rfl (by rw [Tw.places_length, size_data])).mono ?_
  rintro e w' ⟨g, cap, bs, he, hbl, hown, hrows, hb⟩
  have hbb : bs[s.size]? = some (bs[s.size]'(by omega)) := List.getElem?_eq_getElem _
  have hp : (Tw.places s.data.toList)[s.size]? = some (Tw.placeAt s.data.toList s.size) := Tw.placesTo_get? _ _ _ (by rw [size_data]; omega)
  have hh := hrows s.size _ _ hp hbb
  have e2 : Tw.placeAt s.data.toList s.size = Tw.endOf s.data.toList := by rw [← size_data]; exact Tw.placeAt_all _
  rw [e2] at hh
  exact ⟨g, cap, _, he, row_cell hown hbb, hh, hb⟩
set_option maxRecDepth 100000 in
set_option maxHeartbeats 1600000 in
theorem specLine_1 (s : ByteArray) (a : Option Addr) (c L : Nat) (zs : List ByteArray) (X : ByteArray) (w : World) (h : StrsAt w (.slice a L c) zs) (HL : Hid (zs.length = L)) (hok : Hid (deskOk s zs = true)) (hX : X.size ≤ 1048576) (hr : Hid (readOf X.data.toList = ((0, 0), false))) (hXe : X = ⟨#[101, 110, 100]⟩) :
    Calls Tryz.prog 22 #[.agg #[.string s, .slice a L c], .string X] w (LineOut w s zs (askText 1 s)) := by
  have q0 : (X.toList == [119, 97, 108, 107]) = false := by rw [Lib.toList_data, hXe]; decide
  have q1 : (X.toList == [101, 110, 100]) = true := by rw [Lib.toList_data, hXe]; decide
  obtain ⟨h1, h8, hz⟩ := deskOk_parts hok.out
  have h40 : s.size ≤ 40 := by have := Tw.walkOk_len h1; rwa [size_data] at this
  obtain ⟨e0, hsz, r0, r1⟩ := desk2_in w s (.slice a L c)
  obtain ⟨W, hW⟩ : ∃ W, deskBox2 w s (.slice a L c) = W := ⟨_, rfl⟩
  rw [hW] at e0 hsz r0 r1
  unfold deskBox2 at hW
  have HW := Lib.hid hW
  have HDK := Lib.hid (deskOk_named s (.slice a L c) zs W (e0.strs h) (by have := ok_size h1; omega) (by omega) (fun z hz9 => by have := ok_size (hz z hz9); omega) true hok.out)
  have HRD : Hid (∀ Y : World, Calls Tryz.prog 48 #[.string X] Y fun e w' => e = .returned (.tuple #[.agg #[.int .i64 0, .int .i64 0], .bool false]) ∧ Below Y.heap.size Y w') := fun Y => by
    refine (specReadDeed X Y hX).mono ?_
    rintro e w' ⟨he, hb⟩
    rw [hr.out] at he
    exact ⟨he, hb⟩
  have HCP : Hid (∀ Y, Ext W Y → Calls Tryz.prog 38 #[.agg #[.string s, .slice a L c]] Y fun e w' => ∃ g2 c2, e = .returned (.agg #[.string s, .slice (some ⟨g2, 0, none⟩) L c2]) ∧ PastAt w' (.slice (some ⟨g2, 0, none⟩) L c2) zs ∧ W.heap.size ≤ g2 ∧ Ext W w') := fun Y hY => by
    refine (copy_named s (.slice a L c) zs Y ((e0.trans hY).strs h) L HL.out (by have := HL.out; omega)).mono ?_
    rintro e w' ⟨g2, c2, he, hown2, hp2, hb2⟩
    exact ⟨g2, c2, he, hp2, by have := (hown2.lt g2 rfl).1; have := hY.size; omega, hY.call hb2⟩
  have R0 := Lib.hid r0
  have R1 := Lib.hid r1
  have E0 := Lib.hid e0
  have c0 := cell_of_row _ _ 0 _ _ _ r0
  have c1 := cell_of_row _ _ 1 _ _ _ r0
  have HWS := Lib.hid hsz
  have hs : s.size ≤ 1048576 := by omega
  have hbd := end_bound h1
  obtain ⟨x, hx⟩ : ∃ x, (Tw.endOf s.data.toList).1 = x := ⟨_, rfl⟩
  obtain ⟨y, hy⟩ : ∃ y, (Tw.endOf s.data.toList).2 = y := ⟨_, rfl⟩
  rw [hx, hy] at hbd
  obtain ⟨u, hu⟩ : ∃ u, numText x = u := ⟨_, rfl⟩
  obtain ⟨v, hv⟩ : ∃ u, numText y = u := ⟨_, rfl⟩
  have su := numText_len (n := x) (by omega) (by omega)
  have sv := numText_len (n := y) (by omega) (by omega)
  rw [hu] at su
  rw [hv] at sv
  have HT : Hid (askText 1 s = u ++ ⟨#[44]⟩ ++ v) := by show _ = _; rw [← hu, ← hv, ← hx, ← hy]; rfl
  have HNX : Hid (∀ Y : World, Calls Tryz.prog 51 #[.int .i64 x] Y fun e w' => e = .returned (.string u) ∧ Below Y.heap.size Y w') := fun Y => hu ▸ number_int x (by omega) (by omega) Y
  have HNY : Hid (∀ Y : World, Calls Tryz.prog 51 #[.int .i64 y] Y fun e w' => e = .returned (.string v) ∧ Below Y.heap.size Y w') := fun Y => hv ▸ number_int y (by omega) (by omega) Y
  have HPL := Lib.hid (fun Y => lastPlace s Y hs h1)
  have HEND : Hid (Tw.endOf s.data.toList = (x, y)) := by show _ = _; rw [← hx, ← hy]
  have fu : ¬ 9223372036854775807 < u.size + 1 := by omega
  have fv : ¬ 9223372036854775807 < u.size + 1 + v.size := by omega
  obtain ⟨t, ht⟩ : ∃ t, askText 1 s = t := ⟨_, rfl⟩
  rw [ht] at HT ⊢
  clear hW r0 r1 h hz h1 h8 e0 hsz hXe ht hx hy hu hv hbd
  go_enter Tryz.func22, Tryz.ntmps22
  go_wp2_with fail
  rw [HW.out]
  go_upto_region 17 with (first
    | (go_at_call 50; refine (HPL.out _).mono ?_; rintro e w6 ⟨g6, c6, b6, rfl, hc6, hrow6, hb6⟩; have l6 : Lin W w2.heap.size s g2 c2 L zs w6 := Lin.call l4 hb6; have hrr := l6.ext.row R1.out; have f0 := frozen_of_row _ _ 0 _ _ hrr; have f1 := frozen_of_row _ _ 1 _ _ hrr; have m0 := cell_of_row _ _ 0 _ _ _ hrr; have m1 := cell_of_row _ _ 1 _ _ _ hrr; have n0 := l6.cells.1; have n1 := l6.cells.2; have qq := pair_put hrr (.string s) (.slice (some ⟨g2, 0, none⟩) L c2); have rq0 := cell_of_row _ _ 0 _ _ _ qq; have rq1 := cell_of_row _ _ 1 _ _ _ qq; clear hrr qq; have HROW := Lib.hid hrow6; clear hrow6)
    | (go_at_call 24; refine HDK.out.mono ?_; rintro e w1 ⟨rfl, hb1⟩; have E1 : Ext W w1 := hb1; have hr1 := E1.row R0.out; have k0 := cell_of_row _ _ 0 _ _ _ hr1; have k1 := cell_of_row _ _ 1 _ _ _ hr1; clear hb1 hr1)
    | (go_at_call 38; refine (HCP.out w1 E1).mono ?_; rintro e w2 ⟨g2, c2, rfl, hp2, hg2, E2⟩; have hO : w.heap.size + 1 < w2.heap.size := (by have h8 := E2.size; have h9 := HWS.out; omega); have l3 := lin_new (x := s) E2 hp2 hg2; clear hp2 hg2)
    | (go_at_call 48; refine (HRD.out _).mono ?_; rintro e w4 ⟨rfl, hb4⟩; have l4 := (l3.call hb4).alloc (.cells #[.int .i64 0, .int .i64 0] 53); have hr4 := l4.ext.row R0.out; have l0 := cell_of_row _ _ 0 _ _ _ hr4; have hrr := l4.ext.row R1.out; have f0 := frozen_of_row _ _ 0 _ _ hrr; have f1 := frozen_of_row _ _ 1 _ _ hrr; have m0 := cell_of_row _ _ 0 _ _ _ hrr; have m1 := cell_of_row _ _ 1 _ _ _ hrr; have n0 := l4.cells.1; have n1 := l4.cells.2; have qq := pair_put hrr (.string s) (.slice (some ⟨g2, 0, none⟩) L c2); have rq0 := cell_of_row _ _ 0 _ _ _ qq; have rq1 := cell_of_row _ _ 1 _ _ _ qq; clear hrr qq; clear hb4 hr4))
  have HB6 : Hid (∀ Y, Ext w6 Y → Y.cell? ⟨b6, 0, none⟩ = some (.int .i64 x) ∧ Y.cell? ⟨b6, 1, none⟩ = some (.int .i64 y)) := fun Y hY => by
    have h9 := pair_cells (hY.row HROW.out)
    rwa [HEND.out] at h9
  have e6 : Ext w6 w6 := Ext.refl w6
  obtain ⟨p0, p1⟩ := HB6.out w6 e6
  have hbn : b6 ≠ w.heap.size + 1 := fun e9 => by
    have h9 := HROW.out
    rw [e9, l6.ext.row R1.out] at h9
    unfold pairBlock at h9
    simp at h9
  go_region_held3 (fun w' => (w'.cell? ⟨w2.heap.size, 0, none⟩ = some (.string s) ∧ w'.cell? ⟨w2.heap.size, 1, none⟩ = some (.slice (some ⟨g2, 0, none⟩) L c2)) ∧ w'.cell? ⟨b6, 0, none⟩ = some (.int .i64 x) ∧ w'.cell? ⟨b6, 1, none⟩ = some (.int .i64 y))
    (first
      | exact ⟨Lin.cells (by assumption), HB6.out _ (by assumption)⟩
      | exact ⟨(Lin.drew (by assumption)).cells, HB6.out _ (Ext.drew (by assumption))⟩
      | exact ⟨other_cells (by omega) (Lin.cells (by assumption)).1 (Lin.cells (by assumption)).2, other_cells hbn (HB6.out _ (by assumption)).1 (HB6.out _ (by assumption)).2⟩)
    (first
      | (go_at_call_of 51 (Value.int .i64 x); refine (HNX.out _).mono ?_; rintro e wx ⟨rfl, hbx⟩; have ex : Ext w6 wx := Ext.call (by first | assumption | exact Ext.drew (by assumption)) hbx; have lx := l6.call ex; have hrr := lx.ext.row R1.out; have f0 := frozen_of_row _ _ 0 _ _ hrr; have f1 := frozen_of_row _ _ 1 _ _ hrr; have m0 := cell_of_row _ _ 0 _ _ _ hrr; have m1 := cell_of_row _ _ 1 _ _ _ hrr; have n0 := lx.cells.1; have n1 := lx.cells.2; have qq := pair_put hrr (.string s) (.slice (some ⟨g2, 0, none⟩) L c2); have rq0 := cell_of_row _ _ 0 _ _ _ qq; have rq1 := cell_of_row _ _ 1 _ _ _ qq; clear hrr qq)
      | (go_at_call_of 51 (Value.int .i64 y); refine (HNY.out _).mono ?_; rintro e wy ⟨rfl, hby⟩; have ey : Ext w6 wy := Ext.call (by first | assumption | exact Ext.drew (by assumption)) hby; have ly := l6.call ey; have hrr := ly.ext.row R1.out; have f0 := frozen_of_row _ _ 0 _ _ hrr; have f1 := frozen_of_row _ _ 1 _ _ hrr; have m0 := cell_of_row _ _ 0 _ _ _ hrr; have m1 := cell_of_row _ _ 1 _ _ _ hrr; have n0 := ly.cells.1; have n1 := ly.cells.2; have qq := pair_put hrr (.string s) (.slice (some ⟨g2, 0, none⟩) L c2); have rq0 := cell_of_row _ _ 0 _ _ _ qq; have rq1 := cell_of_row _ _ 1 _ _ _ qq; clear hrr qq))
  all_goals
    have HT2 : t = u ++ ⟨#[44]⟩ ++ v := HT.out
    subst HT2
    go_wp2
    refine bodyPost_ret (v := .tuple #[.agg #[.string s, .slice (some ⟨g2, 0, none⟩) L c2], .string (u ++ ⟨#[44]⟩ ++ v)]) (by simp [results, Tryz.results22, go_sem, rq0, rq1]) rfl ?_
    exact lin_done E0.out (by first | assumption | exact Lin.drew (by assumption)) HWS.out
theorem specLine_ask (s : ByteArray) (a : Option Addr) (c L : Nat) (zs : List ByteArray) (X : ByteArray) (w : World) (h : StrsAt w (.slice a L c) zs) (HL : Hid (zs.length = L)) (hok : Hid (deskOk s zs = true)) (hX : X.size ≤ 1048576) (hr : Hid (readOf X.data.toList = ((0, 0), false))) (k : Nat) (hk : k < 9) (hXe : askWords.getD k ⟨#[]⟩ = X) :
    Calls Tryz.prog 22 #[.agg #[.string s, .slice a L c], .string X] w (LineOut w s zs (askText k s)) := by
  obtain rfl | rfl | rfl | rfl | rfl | rfl | rfl | rfl | rfl : k = 0 ∨ k = 1 ∨ k = 2 ∨ k = 3 ∨ k = 4 ∨ k = 5 ∨ k = 6 ∨ k = 7 ∨ k = 8 := by omega
  · exact specLine_0 s a c L zs X w h HL hok hX hr hXe.symm
  · exact specLine_1 s a c L zs X w h HL hok hX hr hXe.symm
  · exact specLine_2 s a c L zs X w h HL hok hX hr hXe.symm
  · exact specLine_3 s a c L zs X w h HL hok hX hr hXe.symm
  · exact specLine_4 s a c L zs X w h HL hok hX hr hXe.symm
  · exact specLine_5 s a c L zs X w h HL hok hX hr hXe.symm
  · exact specLine_6 s a c L zs X w h HL hok hX hr hXe.symm
  · exact specLine_7 s a c L zs X w h HL hok hX hr hXe.symm
  · exact specLine_8 s a c L zs X w h HL hok hX hr hXe.symm

end Go.Proofs.YtccdfndnjjjgfaaGreatDoor
