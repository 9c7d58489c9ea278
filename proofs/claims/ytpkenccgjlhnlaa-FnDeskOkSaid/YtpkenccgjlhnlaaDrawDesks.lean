/-
  The draws of laws on desks.
-/
import Derived.Test.YtpkenccgjlhnlaaDrawDesk
import Derived.Test.YtpkenccgjlhnlaaDraws
namespace Go.Proofs.Ytpkenccgjlhnlaa
open Go.RowKit

theorem code_alloc {w : World} {v : Value} {n : Nat} (h : CodeAt w v n) (o : Obj) : CodeAt (w.alloc o) v n := by
  rcases h with h | ⟨a, cap, hv, hl, hc⟩
  · exact .inl h
  · refine .inr ⟨a, cap, hv, hl, fun j hj => ?_⟩
    obtain ⟨b, h1, h2, h3⟩ := hc j hj
    exact ⟨b, h1, h2, (((Below.refl w.heap.size w).alloc (Nat.le_refl _) _).cell (World.block_lt_of_cell? w _ h3)).trans h3⟩
theorem code_value {w : World} {v : Value} {n : Nat} (h : CodeAt w v n) : ∃ a cap, v = .slice a n cap := by
  rcases h with ⟨rfl, rfl⟩ | ⟨a, cap, rfl, _⟩
  · exact ⟨_, _, rfl⟩
  · exact ⟨_, _, rfl⟩
/-- A drawn desk. -/
structure Desk41 (w : World) (s : ByteArray) (u : Value) (zs : List ByteArray) : Prop where
  past : PastAt w u zs
  hs : s.size ≤ 41
  hl : zs.length ≤ 9
  hz : ∀ z ∈ zs, z.size ≤ 41

theorem Desk41.ext {w X : World} {s : ByteArray} {u : Value} {zs : List ByteArray} (h : Desk41 w s u zs) (e : Ext w X) : Desk41 X s u zs := ⟨e.past h.past, h.hs, h.hl, h.hz⟩

set_option maxRecDepth 100000 in
set_option maxHeartbeats 800000 in
theorem drawDeskOk (v : Value) (n : Nat) (w : World) (h : CodeAt w v n) :
    Calls Try.prog 4 #[v] w fun e w' => ∃ (s : ByteArray) (u : Value) (zs : List ByteArray), e = .returned (.agg #[.string s, u]) ∧ Desk41 w' s u zs ∧ Below w.heap.size w w' := by
  have hz := heap_alloc_new w (.cells #[.string ⟨#[]⟩, .slice none 0 0] 25)
  have hc := code_alloc h (.cells #[.string ⟨#[]⟩, .slice none 0 0] 25)
  obtain ⟨W, hW⟩ : ∃ W, w.alloc (.cells #[.string ⟨#[]⟩, .slice none 0 0] 25) = W := ⟨_, rfl⟩
  have hbW : Below w.heap.size w W := hW ▸ (Below.refl _ _).alloc (Nat.le_refl _) _
  have hsW : w.heap.size < W.heap.size := by rw [← hW]; simp
  rw [hW] at hz hc
  have HW := Lib.hid hW
  have HZ := Lib.hid hz
  clear hW hz h
  go_enter Try.func4, Try.ntmps4
  go_wp2_with fail
  rw [HW.out]
  go_wp2_with (first
    | (go_at_call 9; refine (open_any v n _ hc).mono ?_; rintro e w1 ⟨rfl, ⟨v', n', hr⟩, hb1⟩)
    | (go_at_call 8; refine (desk_d w1 w1 _ n' 0 0 v' _ (Drawn.start hr) (by omega) (by omega) (by omega)).mono ?_; rintro e w3 ⟨s, u, zs, rfl, hp3, hf3, hs3, hl3, hz3, hd3⟩; have hb3 := hd3.below_base hb1 (Nat.le_refl _); have hr3 := (hb3.block w.heap.size (by omega)).trans HZ.out; have c0 := cell_of_row _ _ 0 _ _ _ hr3; have c1 := cell_of_row _ _ 1 _ _ _ hr3; have f0 := frozen_of_row _ _ 0 _ _ hr3; have f1 := frozen_of_row _ _ 1 _ _ hr3; obtain ⟨aU, cU, hvU⟩ := past_slice hp3 (M := zs.length) rfl; subst hvU; have q := two_put hr3 (.string s) (.slice aU zs.length cU); have q0 := cell_of_row _ _ 0 _ _ _ q; have q1 := cell_of_row _ _ 1 _ _ _ q; have HZ3 := Lib.hid hz3; have HP3 := Lib.hid hp3; have HF3 := Lib.hid hf3; clear q hz3 hp3 hf3))
  have hsb := hb1.size
  have hne : (Value.slice aU zs.length cU).ownBlock ≠ some w.heap.size := fun e => by have := HF3.out _ e; omega
  refine bodyPost_ret (v := .agg #[.string s, .slice aU zs.length cU]) (by simp [results, Try.results4, go_sem, q0, q1]) rfl ⟨s, _, zs, rfl, ⟨past_put (past_put HP3.out _ _ hne) _ _ hne, hs3, hl3, HZ3.out⟩, ?_⟩
  exact ((hbW.trans (hb3.mono (by omega))).setCell (Nat.le_refl _) _).setCell (Nat.le_refl _) _

end Go.Proofs.Ytpkenccgjlhnlaa
