/-
  The program's avoiding: its closure hands over each walk once, in order.
-/
import Derived.Test.YtjcagkpolfacpaaDoorAvoiding
namespace Go.Proofs.YtjcagkpolfacpaaDoor
open Go Go.RowKit Go.Maps Go.WideMaps Go.Shelf

attribute [local go_sem] Oper.semAt_some

theorem av_all (B N lrec R M : Nat) (hN : N ≤ 39) (hR : B ≤ R) (hM : B ≤ M) (hRM : R ≠ M) (xs : List (List UInt8)) (J : List (List UInt8) → Option Nat → World → Prop) (hA : AbidesOwn B J) (hC : ∀ pre r W, J pre r W → DirsAt W)
    (hY : RoundsOwn Fence.wide 4 Tryd.prog lrec B (fun x => #[.string (Tw.str x)]) xs J) : ∀ n, AvFrom B N lrec R M xs J n
  | 0 => fun l pre r w hst _ _ hJ hpre h1 h2 => av_zero B N lrec R M hR hM xs J hA hY l pre r _ _ w hst hJ hpre h1 h2
  | n + 1 => av_succ B N lrec R M hN hR hM hRM xs J hA hC n (av_all B N lrec R M hN hR hM hRM xs J hA hC hY n)

theorem been_first : Been ((.map [] : DataW Unit).put (placeKey (0, 0)) (.agg [])) 1 (Tw.places []) := by
  have h0 : Been (.map [] : DataW Unit) 0 [] := ⟨tidy_empty, rfl, fun _ _ => rfl⟩
  exact h0.put (q := (0, 0)) (by unfold near; omega) rfl

theorem make_row (N : Nat) (hN : N ≤ 7) (W : World) : (Instr.makeSlice 28 (.int .i64 0) (.int .i64 (N : Int))).run Tryd.prog W = .ok (.slice (some ⟨W.heap.size, 0, none⟩) 0 N) (W.alloc (.cells (Array.replicate N (.int .u8 0)) 5)) := by
  obtain rfl | rfl | rfl | rfl | rfl | rfl | rfl | rfl : N = 0 ∨ N = 1 ∨ N = 2 ∨ N = 3 ∨ N = 4 ∨ N = 5 ∨ N = 6 ∨ N = 7 := by omega
  all_goals kernel_rfl
set_option maxRecDepth 100000 in
set_option maxHeartbeats 3200000 in
theorem avoiding1 (N lrec Bs : Nat) (hN : N ≤ 7) (J : List (List UInt8) → Option Nat → World → Prop) (w : World) (hA : AbidesOwn w.heap.size J) (hC : ∀ pre r W, J pre r W → DirsAt W ∧ W.cell? ⟨Bs, 0, none⟩ = some (.int .i64 (N : Int)))
    (hY : RoundsOwn Fence.wide 4 Tryd.prog lrec w.heap.size (fun x => #[.string (Tw.str x)]) (Tw.onWalks [] N) J) (hJ : J [] none w) :
    Calls Tryd.prog 43 #[.func (.yield lrec) #[] #[], .pointer (some ⟨Bs, 0, none⟩)] w fun e w' => (∃ v, e = .returned v) ∧ ∃ r, J (Tw.onWalks [] N) r w' := by
  have hBs := (hC _ _ _ hJ).2
  have hmm := @run_makeMap Tryd.prog
  obtain ⟨W1, hW1⟩ : ∃ W1, w.alloc (Obj.map #[] 0) = W1 := ⟨_, rfl⟩
  have hown1 : W1.ownsMap Tryd.prog 54 (unitElem (H := Unit)) w.heap.size 0 (.map []) := hW1 ▸ World.ownsMap_made _ _ _ _
  have hnear0 : near (0, 0) := by unfold near; omega
  obtain ⟨w2, hrun, hmap2, hturn2⟩ := hown1.store placeLaw Tryd.underlying56 (by decide) (keyOf_place (0, 0) hnear0) (unitElem_mk (H := Unit))
  have hb1 : Below w.heap.size w W1 := by rw [← hW1]; exact (Below.refl _ _).alloc (Nat.le_refl _) _
  have hs1 : W1.heap.size = w.heap.size + 1 := by rw [← hW1]; simp
  have hb2 : Below w.heap.size w w2 := hb1.grown hturn2.grown (by omega) (fun k e => by cases e; exact Nat.le_refl _)
  have hs2 := hturn2.grown.size
  have hc2 : w2.cell? ⟨Bs, 0, none⟩ = some (.int .i64 (N : Int)) := (hb2.cell (p := ⟨Bs, 0, none⟩) (World.block_lt_of_cell? w _ hBs)).trans hBs
  rw [← hW1] at hrun
  have hrun2 : (Instr.mapUpdate 56 (.map (some w.heap.size)) (.agg #[.int .i64 0, .int .i64 0]) (.agg #[])).run Tryd.prog (w.alloc (Obj.map #[] 0)) = .ok () w2 := hrun
  have hs12 : w.heap.size < w2.heap.size := by omega
  clear hrun hW1 hs1 hs2
  go_enter Tryd.func43, Tryd.ntmps43
  go_wp2_with fail
  have hmk := make_row N hN
  obtain ⟨w3, hw3⟩ : ∃ w3, (w2.alloc (.cells (Array.replicate N (.int .u8 0)) 5)).drew = w3 := ⟨_, rfl⟩
  have hs3 : w3.heap.size = w2.heap.size + 1 := by rw [← hw3]; simp
  have hb3 : Below w2.heap.size w2 w3 := by rw [← hw3]; exact ((Below.refl _ _).alloc (Nat.le_refl _) _).drew
  have hst3 : AvSt w.heap.size N w2.heap.size w.heap.size [] w3 := by
    refine ⟨⟨rfl, .inr ⟨w2.heap.size, N, Array.replicate N (.int .u8 0), rfl, by omega, ?_, Nat.zero_le _, by unfold maxLen; omega, by simp, by simp [bytesOf]⟩⟩, ?_⟩
    · rw [← hw3]
      exact heap_alloc_new w2 _
    · exact (BeenAt.tight hmap2 been_first).kept (hb3.block _ (by omega))
  have hJ2 : J [] none w3 := hA.1 _ _ _ _ (hA.1 _ _ _ _ hJ ⟨hb2.os, hb2.tape, hb2.output, by omega, fun k hk => hb2.block k (by
    rcases hk with h9 | h9
    · exact h9
    · cases h9)⟩) (SameOwn.of_below hb3 (by omega) (fun k e => by cases e))
  have HCALL := Lib.hid (av_all w.heap.size N lrec w2.heap.size w.heap.size (by omega) (by omega) (Nat.le_refl _) (by omega) _ J hA (fun pre r W h => (hC pre r W h).1) hY N [] [] none w3 hst3 rfl (by simp) hJ2 List.prefix_rfl (by simp) (by simp))
  have HW3 := Lib.hid hw3
  clear hw3 hs3 hst3 hJ2 hb3 hmap2 hturn2 hown1
  go_region_held3 (fun w' => w'.cell? ⟨Bs, 0, none⟩ = some (.int .i64 (N : Int))) (first | exact hc2 | exact (cell_alloc_old (World.block_lt_of_cell? w2 _ hc2) _).trans hc2 | exact q0)
    ((go_at_call 44; rw [HW3.out]; refine HCALL.out.mono ?_; rintro e w4 ⟨rfl, r4, hJ4, hN4, hst4, hk4⟩; have q0 := (hC _ _ _ hJ4).2))
  go_wp2_with fail
  go_end0
  exact ⟨⟨_, rfl⟩, r4, hJ4⟩
end Go.Proofs.YtjcagkpolfacpaaDoor
