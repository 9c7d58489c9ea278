/-
  The reader that the draws read a code with: how it lies, and the contracts of l20Open, pick, odd.
-/
import Derived.Test.YtccdfndnjjjgfaaGreatDoorBase
import Derived.Test.YtccdfndnjjjgfaaGreatDoorSteps
import Derived.BigQuiet
import Derived.Deep.QuietTactic
import Derived.Laws.BitsAllLaws
import Derived.IntWalk
namespace Go.Proofs.YtccdfndnjjjgfaaGreatDoor
open Go.RowKit

theorem xor_nat (a b : Nat) (ha : a < 9223372036854775808) (hb : b < 9223372036854775808) : 0 ≤ bits .xor .i64 (a : Int) (b : Int) := by
  have hx : a ^^^ b < 2 ^ 63 := Nat.xor_lt_two_pow (by omega) (by omega)
  show 0 ≤ IntKind.i64.wrap ((BitVec.ofInt 64 (a : Int) ^^^ BitVec.ofInt 64 (b : Int)).toNat : Int)
  rw [BitVec.toNat_xor, ofInt_u64 a (by omega), ofInt_u64 b (by omega)]
  simp [IntKind.wrap, IntKind.bits, IntKind.signed]
  omega
theorem xor_pos (x y : Int) (h0 : 0 ≤ x) (h1 : x < 9223372036854775808) (k0 : 0 ≤ y) (k1 : y < 9223372036854775808) : 0 ≤ bits .xor .i64 x y := by
  obtain ⟨a, rfl⟩ := Int.eq_ofNat_of_zero_le h0
  obtain ⟨b, rfl⟩ := Int.eq_ofNat_of_zero_le k0
  exact xor_nat a b (by omega) (by omega)

/-- The bytes of a code, as they lie. -/
def CodeAt (w : World) (v : Value) (n : Nat) : Prop :=
  (v = .slice none 0 0 ∧ n = 0) ∨ ∃ a cap, v = .slice (some a) n cap ∧ n ≤ cap ∧ ∀ j : Nat, j < n → ∃ b : Int, 0 ≤ b ∧ b ≤ 255 ∧ w.cell? (a.add j) = some (.int .u8 b)
/-- A reader: its code, and how much of it has been read. -/
structure ReaderAt (w : World) (R : Nat) (v : Value) (n : Nat) (p : Nat) : Prop where
  cells : w.heap[R]? = some (.cells #[v, .int .i64 p] 105 (0, 0))
  code : CodeAt w v n
  few : n ≤ 2000
  off : ∀ a cap, v = .slice (some a) n cap → 0 < n → a.block ≠ R
theorem code_grown {w w' : World} {R n : Nat} {v : Value} (h : CodeAt w v n) (hoff : ∀ a cap, v = .slice (some a) n cap → 0 < n → a.block ≠ R) (hg : w.grownBy w' (some R)) : CodeAt w' v n := by
  rcases h with h | ⟨a, cap, hv, hl, hc⟩
  · exact .inl h
  · refine .inr ⟨a, cap, hv, hl, fun j hj => ?_⟩
    obtain ⟨b, h0, h1, h2⟩ := hc j hj
    refine ⟨b, h0, h1, ?_⟩
    have hlt := World.block_lt_of_cell? w _ h2
    have hne := hoff a cap hv (by omega)
    rw [hg.cell_far (a.add j) hlt (by rw [show (a.add j).block = a.block by unfold Addr.add; split <;> rfl]; exact fun e => hne (Option.some.inj e))]
    exact h2
theorem tmod_range (x y : Int) (h0 : 0 ≤ x) (hy : 0 < y) : 0 ≤ x.tmod y ∧ x.tmod y < y := by
  rw [Int.tmod_eq_emod_of_nonneg h0]
  exact ⟨Int.emod_nonneg _ (by omega), Int.emod_lt_of_pos _ hy⟩

/-- The world behind one reading. -/
def readWorld (w : World) (R p : Nat) : World := w.setCell ⟨R, 1, none⟩ (.int .i64 ((p : Int) + 1))
theorem read_grown (w : World) (R p nq : Nat) : w.grownBy ((readWorld w R p).drewN nq) (some R) :=
  ⟨rfl, rfl, rfl, by simp [readWorld], fun k _ hk => heap_setCell_other w ⟨R, 1, none⟩ k _ (fun e => hk (by simp [e]))⟩
theorem read_reader {w : World} {R n p : Nat} {v : Value} (h : ReaderAt w R v n p) (nq : Nat) : ReaderAt ((readWorld w R p).drewN nq) R v n (p + 1) := by
  refine ⟨?_, code_grown h.code h.off (read_grown w R p nq), h.few, h.off⟩
  show (w.setCell ⟨R, 1, none⟩ (.int .i64 ((p : Int) + 1))).heap[R]? = _
  simp [World.setCell, Array.getElem?_modify, h.cells]

set_option maxRecDepth 100000 in
set_option maxHeartbeats 3200000 in
theorem pick_any (R n p : Nat) (v : Value) (N : Int) (w : World) (h : ReaderAt w R v n p) (hp : p ≤ 1000000) (hN : 1 ≤ N) (hN2 : N ≤ 1000000) :
    Calls Tryz.prog 68 #[.pointer (some ⟨R, 0, none⟩), .int .i64 N] w fun e w' => ∃ x : Int, (e = .returned (.int .i64 x) ∧ 0 ≤ x ∧ x < N) ∧ ReaderAt w' R v n (p + 1) ∧ w.grownBy w' (some R) := by
  have hr := fun nq => read_reader h nq
  have hgr := fun nq => read_grown w R p nq
  have hfew := h.few
  have c0 : w.cell? ⟨R, 0, none⟩ = some v := cell_of_row _ _ _ _ _ _ h.cells
  have c1 : w.cell? ⟨R, 1, none⟩ = some (.int .i64 p) := cell_of_row _ _ _ _ _ _ h.cells
  have f1 : w.frozen? ⟨R, 1, none⟩ = false := frozen_of_row _ _ 1 _ _ h.cells
  have d0 : (w.setCell ⟨R, 1, none⟩ (.int .i64 ((p : Int) + 1))).cell? ⟨R, 0, none⟩ = some v := cell_of_row _ _ _ _ _ _ (hr 0).cells
  have d1 : (w.setCell ⟨R, 1, none⟩ (.int .i64 ((p : Int) + 1))).cell? ⟨R, 1, none⟩ = some (.int .i64 ((p : Int) + 1)) := cell_of_row _ _ _ _ _ _ (hr 0).cells
  have hcode : CodeAt (w.setCell ⟨R, 1, none⟩ (.int .i64 ((p : Int) + 1))) v n := (hr 0).code
  have HR := Lib.hid hr
  have HG := Lib.hid hgr
  clear hr hgr h
  rcases hcode with ⟨rfl, rfl⟩ | ⟨a, cap, rfl, hl, hc⟩
  · go_enter Tryz.func68, Tryz.ntmps68
    go_wp2
    go_ret
    exact ⟨0, ⟨rfl, Int.le_refl _, by omega⟩, HR.out 0, HG.out 0⟩
  · have HC := Lib.hid hc
    clear hc
    by_cases hn : n = 0
    · subst hn
      go_enter Tryz.func68, Tryz.ntmps68
      go_wp2
      go_ret
      exact ⟨0, ⟨rfl, Int.le_refl _, by omega⟩, HR.out 0, HG.out 0⟩
    · have hn' : ((n : Int) == 0) = false := by simpa using hn
      by_cases hk : p < n
      · obtain ⟨b, hb0, hb1, hb2⟩ := HC.out p hk
        have k0 : (0 : Int) ≤ (p : Int) := by omega
        have k1 : (p : Int) < (n : Int) := by omega
        have hm : 0 ≤ b % N ∧ b % N < N := ⟨Int.emod_nonneg _ (by omega), Int.emod_lt_of_pos _ (by omega)⟩
        go_enter Tryz.func68, Tryz.ntmps68
        go_wp2
        go_ret
        exact ⟨_, ⟨rfl, hm.1, hm.2⟩, HR.out 0, HG.out 0⟩
      · have hn0 : (0 : Int) < (n : Int) := by omega
        have r1 := tmod_range (p : Int) (n : Int) (by omega) hn0
        have r2 := tmod_range ((p : Int) * 7 + 3) (n : Int) (by omega) hn0
        obtain ⟨b1, b10, b11, b12⟩ := HC.out ((p : Int).tmod n).toNat (by omega)
        obtain ⟨b2, b20, b21, b22⟩ := HC.out (((p : Int) * 7 + 3).tmod n).toNat (by omega)
        have q0 : 0 ≤ (p : Int) / (n : Int) ∧ (p : Int) / (n : Int) ≤ p := ⟨Int.ediv_nonneg (by omega) (by omega), Int.ediv_le_self _ (by omega)⟩
        have w1 : IntKind.i64.wrap ((p : Int) * 7) = (p : Int) * 7 := IntWalk.i64_in _ ⟨by omega, by omega⟩
        have w2 : IntKind.i64.wrap ((p : Int) * 7 + 3) = (p : Int) * 7 + 3 := IntWalk.i64_in _ ⟨by omega, by omega⟩
        have w6 : IntKind.i64.wrap ((p : Int) * 29) = (p : Int) * 29 := IntWalk.i64_in _ ⟨by omega, by omega⟩
        have hx : ∃ x, IntKind.i64.wrap (IntKind.i64.wrap (IntKind.i64.wrap (IntKind.i64.wrap (IntKind.i64.wrap b1 * 131) + IntKind.i64.wrap (IntKind.i64.wrap b2 * 1117)) + (p : Int) * 29) + IntKind.i64.wrap (IntKind.i64.wrap ((p : Int) / (n : Int)) * 53)) = x ∧ 0 ≤ x ∧ x ≤ 1000000000 := by
          obtain ⟨d, hd⟩ : ∃ d, (p : Int) / (n : Int) = d := ⟨_, rfl⟩
          rw [hd] at q0 ⊢
          rw [IntWalk.i64_in b1 ⟨by omega, by omega⟩, IntWalk.i64_in b2 ⟨by omega, by omega⟩, IntWalk.i64_in d ⟨by omega, by omega⟩, IntWalk.i64_in (b1 * 131) ⟨by omega, by omega⟩, IntWalk.i64_in (b2 * 1117) ⟨by omega, by omega⟩, IntWalk.i64_in (d * 53) ⟨by omega, by omega⟩,
            IntWalk.i64_in (b1 * 131 + b2 * 1117) ⟨by omega, by omega⟩, IntWalk.i64_in (b1 * 131 + b2 * 1117 + (p : Int) * 29) ⟨by omega, by omega⟩, IntWalk.i64_in (b1 * 131 + b2 * 1117 + (p : Int) * 29 + d * 53) ⟨by omega, by omega⟩]
          exact ⟨_, rfl, by omega, by omega⟩
        obtain ⟨x, hx, hx0, hx1⟩ := hx
        have HX := Lib.hid hx
        clear hx
        have hz := xor_pos x (x / 64) hx0 (by omega) (by omega) (by omega)
        obtain ⟨z, hz1⟩ : ∃ z, z = bits .xor .i64 x (x / 64) := ⟨_, rfl⟩
        rw [← hz1] at hz
        have hm : 0 ≤ z % N ∧ z % N < N := ⟨Int.emod_nonneg _ (by omega), Int.emod_lt_of_pos _ (by omega)⟩
        have HZ := Lib.hid hz1.symm
        clear hz1
        go_enter Tryz.func68, Tryz.ntmps68
        go_wp2_with fail
        go_quiet (fail)
        rw [HX.out]
        clear w1 w2 w6
        have HZ' := HZ.out
        go_wp2
        go_ret
        exact ⟨_, ⟨rfl, hm.1, hm.2⟩, HR.out _, HG.out _⟩

set_option maxHeartbeats 800000 in
theorem odd_any (R n p : Nat) (v : Value) (N : Int) (w : World) (h : ReaderAt w R v n p) (hp : p ≤ 1000000) (hN : 0 ≤ N) (hN2 : N ≤ 1000000) :
    Calls Tryz.prog 69 #[.pointer (some ⟨R, 0, none⟩), .int .i64 N] w fun e w' => ∃ (b : Bool) (p' : Nat), e = .returned (.bool b) ∧ p' ≤ p + 1 ∧ ReaderAt w' R v n p' ∧ w.grownBy w' (some R) := by
  by_cases h0 : N = 0
  · subst h0
    go_enter Tryz.func69, Tryz.ntmps69
    go_wp2
    go_ret
    exact ⟨_, p, rfl, by omega, h, ⟨rfl, rfl, rfl, Nat.le_refl _, fun _ _ _ => rfl⟩⟩
  · have h1 : 1 ≤ N := by omega
    go_enter Tryz.func69, Tryz.ntmps69
    go_wp2_with (first | (go_at_call 68; refine (pick_any R n p v N _ h hp h1 hN2).mono ?_; rintro e w1 ⟨x, ⟨rfl, hx0, hx1⟩, hr1, hg1⟩))
    go_ret
    exact ⟨_, p + 1, rfl, Nat.le_refl _, hr1, hg1⟩

set_option maxHeartbeats 800000 in
theorem open_any (v : Value) (n : Nat) (w : World) (h : CodeAt w v n) :
    Calls Tryz.prog 41 #[v] w fun e w' => e = .returned (.pointer (some ⟨w.heap.size, 0, none⟩)) ∧ (∃ v' n', ReaderAt w' w.heap.size v' n' 0) ∧ Below w.heap.size w w' := by
  rcases h with ⟨rfl, rfl⟩ | ⟨a, cap, rfl, hl, hc⟩
  · go_enter Tryz.func41, Tryz.ntmps41
    go_wp2
    go_ret
    exact ⟨rfl, ⟨_, 0, ⟨heap_alloc_new w _, .inl ⟨rfl, rfl⟩, by omega, fun a cap e => by cases e⟩⟩, (Below.refl _ _).alloc (Nat.le_refl _) _⟩
  · have HC := Lib.hid hc
    clear hc
    have hkeep : ∀ (o : Obj) (m : Nat), m ≤ n → CodeAt (w.alloc o) (.slice (some a) m cap) m := fun o m hm => .inr ⟨a, cap, rfl, by omega, fun j hj => by
      obtain ⟨b, h0, h1, h2⟩ := HC.out j (by omega)
      exact ⟨b, h0, h1, (((Below.refl w.heap.size w).alloc (Nat.le_refl _) o).cell (p := a.add j) (World.block_lt_of_cell? w _ h2)).trans h2⟩⟩
    have hoff : 0 < n → a.block ≠ w.heap.size := fun hn e => by
      obtain ⟨b, _, _, h2⟩ := HC.out 0 hn
      have := World.block_lt_of_cell? w _ h2
      rw [show (a.add 0).block = a.block from rfl] at this
      omega
    have HK := Lib.hid hkeep
    have HO := Lib.hid hoff
    clear hkeep hoff
    by_cases h2 : n ≤ 2000
    · go_enter Tryz.func41, Tryz.ntmps41
      go_wp2
      go_ret
      refine ⟨rfl, ⟨_, n, ⟨heap_alloc_new w _, HK.out _ n (Nat.le_refl _), h2, fun a' cap' e hn => ?_⟩⟩, (Below.refl _ _).alloc (Nat.le_refl _) _⟩
      cases e
      exact HO.out hn
    · have h3 : (2000 : Int) < (n : Int) := by omega
      have h4 : (2000 : Int) ≤ (cap : Int) := by omega
      go_enter Tryz.func41, Tryz.ntmps41
      go_wp2
      go_ret
      refine ⟨rfl, ⟨_, 2000, ⟨heap_alloc_new w _, HK.out _ 2000 (by omega), by omega, fun a' cap' e hn => ?_⟩⟩, (Below.refl _ _).alloc (Nat.le_refl _) _⟩
      cases e
      exact HO.out (by omega)

end Go.Proofs.YtccdfndnjjjgfaaGreatDoor
