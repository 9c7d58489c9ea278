/-
  FnWalksOf: for every code: there are as many walks as CountOf says; each avoids itself, has so many steps, and is before the next one in the order of bytes. No condition beyond what the given statement itself bears.
-/
import Derived.Test.YtjcagkpolfacpaaDoorAvoiding
import Derived.Test.YtjcagkpolfacpaaDoorAllWays
import Derived.Maps.OwnIn
import Derived.Test.YtjcagkpolfacpaaDoorCountPure
import Derived.Test.YtjcagkpolfacpaaDoorAvoids
import Derived.Test.YtjcagkpolfacpaaDoorAllWaysSpec
import Derived.Test.YtjcagkpolfacpaaDoorBase
import Derived.Test.YtjcagkpolfacpaaDoorSteps
import Derived.BigQuiet
import Derived.Deep.QuietTactic
import Derived.Laws.BitsAllLaws
import Derived.IntWalk
import Derived.Test.YtjcagkpolfacpaaDoorGoes
import Derived.Test.YtjcagkpolfacpaaDoorDeskDone
import Derived.Test.YtjcagkpolfacpaaDoorMarks
import Derived.Test.YtjcagkpolfacpaaDoorStrs
import Derived.Test.YtjcagkpolfacpaaDoorLaw
import Derived.ChangeSlices
import Derived.Deep.RegionHeld3
import Derived.Deep.RegionLaw
import Derived.WalkLawsBesides
import Derived.Test.YtjcagkpolfacpaaDoorCards
import Derived.Test.YtjcagkpolfacpaaDoorTie

namespace Go.Proofs.YtjcagkpolfacpaaDoor
open Go Go.RowKit Go.Maps Go.WideMaps Go.Shelf

attribute [local go_sem] Oper.semAt_some

theorem av_all (B N lrec R M : Nat) (hN : N ≤ 39) (hR : B ≤ R) (hM : B ≤ M) (hRM : R ≠ M) (xs : List (List UInt8)) (J : List (List UInt8) → Option Nat → World → Prop) (hA : AbidesOwn B J) (hC : ∀ pre r W, J pre r W → DirsAt W)
    (hY : RoundsOwn Fence.wide 4 Tryd.prog lrec B (fun x => #[.string (Tw.str x)]) xs J) : ∀ n, AvFrom B N lrec R M xs J n
  | 0 => fun l pre r w hst _ _ hJ hpre h1 h2 => av_zero B N lrec R M hR hM xs J hA hY l pre r _ _ w hst hJ hpre h1 h2
  | n + 1 => av_succ B N lrec R M hN hR hM hRM xs J hA hC n (av_all B N lrec R M hN hR hM hRM xs J hA hC hY n)

theorem been_first : Been ((.map [] : DataW Unit).put (placeKey (0, 0)) (.agg [])) 1 (Tw.places []) := by
  have h0 : Been (.map [] : DataW Unit) 0 [] := ⟨tidy_empty, rfl, fun _ _ => rfl⟩
  exact h0.put (q := (0, 0)) (by unfold near; omega) rfl

theorem make_row (N : Nat) (hN : N ≤ 7) (W : World) : (Instr.makeSlice 28 (.int .i64 0) (.int .i64 (N : Int))).run Tryd.prog W = .ok (.slice (some ⟨W.heap.size, 0, none⟩) 0 N) (W.alloc (.cells (Array.replicate N (.int .u8 0)) 5)) := by
  obtain rfl | rfl | rfl | rfl | rfl | rfl | rfl | rfl : N = 0 ∨ N = 1 ∨ N = 2 ∨ N = 3 ∨ N = 4 ∨ N = 5 ∨ N = 6 ∨ N = 7 := by omega
  all_goals kernel_rfl
set_option maxRecDepth 100000 in
set_option maxHeartbeats 3200000 in
theorem avoiding1 (N lrec Bs : Nat) (hN : N ≤ 7) (J : List (List UInt8) → Option Nat → World → Prop) (w : World) (hA : AbidesOwn w.heap.size J) (hC : ∀ pre r W, J pre r W → DirsAt W ∧ W.cell? ⟨Bs, 0, none⟩ = some (.int .i64 (N : Int)))
    (hY : RoundsOwn Fence.wide 4 Tryd.prog lrec w.heap.size (fun x => #[.string (Tw.str x)]) (Tw.onWalks [] N) J) (hJ : J [] none w) :
    Calls Tryd.prog 43 #[.func (.yield lrec) #[] #[], .pointer (some ⟨Bs, 0, none⟩)] w fun e w' => (∃ v, e = .returned v) ∧ ∃ r, J (Tw.onWalks [] N) r w' := by
  have hBs := (hC _ _ _ hJ).2
  have hmm := @run_makeMap Tryd.prog
  obtain ⟨W1, hW1⟩ : ∃ W1, w.alloc (Obj.map #[] 0) = W1 := ⟨_, rfl⟩
  have hown1 : W1.ownsMap Tryd.prog 54 (unitElem (H := Unit)) w.heap.size 0 (.map []) := hW1 ▸ World.ownsMap_made _ _ _ _
  have hnear0 : near (0, 0) := by unfold near; omega
  obtain ⟨w2, hrun, hmap2, hturn2⟩ := hown1.store placeLaw Tryd.underlying56 (by decide) (keyOf_place (0, 0) hnear0) (unitElem_mk (H := Unit))
  have hb1 : Below w.heap.size w W1 := by rw [← hW1]; exact (Below.refl _ _).alloc (Nat.le_refl _) _
  have hs1 : W1.heap.size = w.heap.size + 1 := by rw [← hW1]; simp
  have hb2 : Below w.heap.size w w2 := hb1.grown hturn2.grown (by omega) (fun k e => by cases e; exact Nat.le_refl _)
  have hs2 := hturn2.grown.size
  have hc2 : w2.cell? ⟨Bs, 0, none⟩ = some (.int .i64 (N : Int)) := (hb2.cell (p := ⟨Bs, 0, none⟩) (World.block_lt_of_cell? w _ hBs)).trans hBs
  rw [← hW1] at hrun
  have hrun2 : (Instr.mapUpdate 56 (.map (some w.heap.size)) (.agg #[.int .i64 0, .int .i64 0]) (.agg #[])).run Tryd.prog (w.alloc (Obj.map #[] 0)) = .ok () w2 := hrun
  have hs12 : w.heap.size < w2.heap.size := by omega
  clear hrun hW1 hs1 hs2
  go_enter Tryd.func43, Tryd.ntmps43
  go_wp2_with fail
  have hmk := make_row N hN
  obtain ⟨w3, hw3⟩ : ∃ w3, (w2.alloc (.cells (Array.replicate N (.int .u8 0)) 5)).drew = w3 := ⟨_, rfl⟩
  have hs3 : w3.heap.size = w2.heap.size + 1 := by rw [← hw3]; simp
  have hb3 : Below w2.heap.size w2 w3 := by rw [← hw3]; exact ((Below.refl _ _).alloc (Nat.le_refl _) _).drew
  have hst3 : AvSt w.heap.size N w2.heap.size w.heap.size [] w3 := by
    refine ⟨⟨rfl, .inr ⟨w2.heap.size, N, Array.replicate N (.int .u8 0), rfl, by omega, ?_, Nat.zero_le _, by unfold maxLen; omega, by simp, by simp [bytesOf]⟩⟩, ?_⟩
    · rw [← hw3]
      exact heap_alloc_new w2 _
    · exact (BeenAt.tight hmap2 been_first).kept (hb3.block _ (by omega))
  have hJ2 : J [] none w3 := hA.1 _ _ _ _ (hA.1 _ _ _ _ hJ ⟨hb2.os, hb2.tape, hb2.output, by omega, fun k hk => hb2.block k (by
    rcases hk with h9 | h9
    · exact h9
    · cases h9)⟩) (SameOwn.of_below hb3 (by omega) (fun k e => by cases e))
  have HCALL := Lib.hid (av_all w.heap.size N lrec w2.heap.size w.heap.size (by omega) (by omega) (Nat.le_refl _) (by omega) _ J hA (fun pre r W h => (hC pre r W h).1) hY N [] [] none w3 hst3 rfl (by simp) hJ2 List.prefix_rfl (by simp) (by simp))
  have HW3 := Lib.hid hw3
  clear hw3 hs3 hst3 hJ2 hb3 hmap2 hturn2 hown1
  go_region_held3 (fun w' => w'.cell? ⟨Bs, 0, none⟩ = some (.int .i64 (N : Int))) (first | exact hc2 | exact (cell_alloc_old (World.block_lt_of_cell? w2 _ hc2) _).trans hc2 | exact q0)
    ((go_at_call 44; rw [HW3.out]; refine HCALL.out.mono ?_; rintro e w4 ⟨rfl, r4, hJ4, hN4, hst4, hk4⟩; have q0 := (hC _ _ _ hJ4).2))
  go_wp2_with fail
  go_end0
  exact ⟨⟨_, rfl⟩, r4, hJ4⟩
end Go.Proofs.YtjcagkpolfacpaaDoor

namespace Go.Proofs.YtjcagkpolfacpaaDoor
open Go Go.RowKit Go.Maps Go.WideMaps Go.Shelf

attribute [local go_sem] Oper.semAt_some

namespace Tw
theorem count_le {n : Nat} (hn : n ≤ 7) : countOf n ≤ 2172 := by
  have h2 := congrArg (fun l : List Nat => l[n]?) counts
  simp only [List.getElem?_map, List.getElem?_range (show n < 8 by omega), Option.map_some] at h2
  obtain rfl | rfl | rfl | rfl | rfl | rfl | rfl | rfl : n = 0 ∨ n = 1 ∨ n = 2 ∨ n = 3 ∨ n = 4 ∨ n = 5 ∨ n = 6 ∨ n = 7 := by omega
  all_goals
    have := Option.some.inj h2
    omega
/-- What CountOf says. -/
def countI (s : Int) : Int := if 0 ≤ s ∧ s ≤ 7 then (countOf s.toNat : Int) else -1
end Tw

theorem avoiding_any (n : Int) (w : World) :
    Calls Tryd.prog 27 #[.int .i64 n] w fun e w' => e = .returned (.func (.func 43) #[] #[.pointer (some ⟨w.heap.size, 0, none⟩)]) ∧ w' = w.alloc (.cells #[.int .i64 n] 3) := by
  go_enter Tryd.func27, Tryd.ntmps27
  go_wp2
  go_ret
  exact ⟨rfl, rfl⟩

set_option maxRecDepth 100000 in
set_option maxHeartbeats 3200000 in
theorem implCount_yes (N : Nat) (hN : N ≤ 7) (w : World) (hD : DirsAt w) :
    Calls Tryd.prog 9 #[.int .i64 (N : Int)] w fun e w' => e = .returned (.int .i64 (Tw.countOf N : Int)) ∧ Below w.heap.size w w' := by
  have HD := Lib.hid hD
  have h1 : ¬ (7 : Int) < (N : Int) := by omega
  have HXL : Hid ((Tw.onWalks [] N).length = Tw.countOf N) := Tw.countOf_eq (by omega)
  have hle := Tw.count_le hN
  clear hD
  refine (callsIn_wide (n := 6)).1 ?_
  refine callsIn_of_wp_marks Tryd.func9 rfl trivial ?_
  refine wpIn_wide.2 ?_
  simp only [Tryd.ntmps9, List.size_toArray, List.length_cons, List.length_nil, Nat.reduceAdd, Nat.reduceSub, Array.replicate_succ, Array.replicate_zero, List.push_toArray, List.append_toArray, List.nil_append, List.cons_append]
  go_wp2_with (go_at_call 27; refine (avoiding_any _ _).mono ?_; rintro e w1 ⟨rfl, rfl⟩)
  obtain ⟨R, hR⟩ : ∃ R, w.heap.size = R := ⟨_, rfl⟩
  obtain ⟨W0, hW0⟩ : ∃ W0, ((w.alloc (.cells #[.int .i64 0] 3)).alloc (.cells #[.int .i64 (N : Int)] 3)) = W0 := ⟨_, rfl⟩
  have hsz0 : W0.heap.size = R + 2 := by rw [← hW0, ← hR]; simp
  have hbb0 : Below w.heap.size w W0 := by rw [← hW0]; exact ((Below.refl _ _).alloc (Nat.le_refl _) _).alloc (by simp) _
  have hbox0 : W0.heap[R]? = some (.cells #[.int .i64 0] 3 (0, 0)) := by rw [← hW0, ← hR]; exact (Below.heap_alloc _ _ _ (by simp)).trans (World.alloc_heap_new w _)
  have hst0 : W0.heap[R + 1]? = some (.cells #[.int .i64 (N : Int)] 3 (0, 0)) := by
    rw [← hW0, ← hR]
    have := World.alloc_heap_new (w.alloc (.cells #[.int .i64 0] 3)) (.cells #[.int .i64 (N : Int)] 3)
    rwa [World.size_alloc] at this
  have hs0 := cell_of_row _ _ 0 _ _ _ hst0
  have HR := Lib.hid hR
  rw [hR] at ⊢
  rw [hW0]
  clear hR
  refine (wpIn_wide (n := 6)).1 ?_
  refine wpIn_rangeOwn (α := List UInt8) rfl (by decide) (gf := 43) (lb := #[.pointer (some ⟨R + 1, 0, none⟩)]) rfl trivial (enters_of Tryd.func43 (by kernel_rfl) rfl) (encs := fun x : List UInt8 => #[.string (Tw.str x)]) (xs := Tw.onWalks [] N) (C := fun W => DirsAt W ∧ W.cell? ⟨R + 1, 0, none⟩ = some (.int .i64 (N : Int)))
    (fun l J W _ hsW hA hC hY h0 => callsIn_wide.2 (avoiding1 N l (R + 1) hN J W (by rw [hsW]; exact hA) hC (by rw [hsW]; exact hY) h0)) (fun _ => rfl)
    (fun pre _ W => W.cell? ⟨R, 0, none⟩ = some (.int .i64 pre.length) ∧ W.frozen? ⟨R, 0, none⟩ = false ∧ W.cell? ⟨R + 1, 0, none⟩ = some (.int .i64 (N : Int)) ∧ Below w.heap.size w W)
    ?own (fun _ _ _ h => ⟨HD.out.below' h.2.2.2, h.2.2.1⟩) ?start ?_ ?assign ?body ?done
  case own =>
    rintro pre q W W' ⟨i1, i2, i3, i4⟩ hs9
    have hb9 := hs9.below
    rw [hsz0] at hb9
    exact ⟨(hb9.cell (p := ⟨R, 0, none⟩) (by simp)).trans i1, (hb9.frozen (p := ⟨R, 0, none⟩) (by simp)).trans i2, (hb9.cell (p := ⟨R + 1, 0, none⟩) (by simp)).trans i3, i4.trans (hb9.mono (by rw [HR.out]; omega))⟩
  case start => exact ⟨cell_of_row _ _ 0 _ _ _ hbox0, frozen_of_row _ _ _ _ _ hbox0, hs0, hbb0⟩
  case assign =>
    intro l x W K hK
    gi_wp2
    exact hK
  case body =>
    rintro l pre x q W ⟨i1, i2, i3, i4⟩ hpre hz9 hq9
    have hpl : (pre ++ [x]).length ≤ (Tw.onWalks [] N).length := hpre.length_le
    rw [HXL.out, List.length_append, List.length_singleton] at hpl
    have hlen : pre.length ≤ 2172 := by omega
    clear hpl hpre
    gi_wp2
    refine ⟨q, ⟨?_, (by rw [World.frozen?_setCell]; exact i2), (World.cell?_of_block (w := W) (Below.heap_setCell _ _ _ _ (by simp))).trans i3, i4.setCell (by rw [HR.out]; simp) _⟩, SameOther.setCell (by rw [hsz0]; simp) _, NextRow.refl _ _, fun k e => ?_⟩
    · rw [World.cell?_setCell_same' _ _ _ (by rw [i1]; rfl), List.length_append]
      rfl
    · show k < (W.heap.modify _ _).size
      rw [Array.size_modify]
      exact (hq9 k e).2
  case done =>
    rintro q W ⟨i1, i2, i3, i4⟩ hz9 hk9
    go_wp2
    refine ⟨by simp, .inl ⟨_, _, rfl, run_takeDeferred hk9, ?_⟩⟩
    refine ⟨_, results_tmp rfl _ _ _, ?_, i4.trans (belowK_b (w := w) (Nat.le_refl _) W _ _ _ (by rw [HR.out]; omega) hk9 rfl rfl)⟩
    show Ending.returned (.int .i64 ((Tw.onWalks [] N).length : Int)) = _
    rw [HXL.out]
theorem implCount_no (s : Int) (hs : s < 0 ∨ 7 < s) (w : World) :
    Calls Tryd.prog 9 #[.int .i64 s] w fun e w' => e = .returned (.int .i64 (-1)) ∧ w = w' := by
  rcases hs with h | h
  · go_enter Tryd.func9, Tryd.ntmps9
    go_wp2_with fail
    go_ret
    exact ⟨rfl, rfl⟩
  · have h0 : 0 ≤ s := by omega
    go_enter Tryd.func9, Tryd.ntmps9
    go_wp2_with fail
    go_ret
    exact ⟨rfl, rfl⟩
theorem implCount (s : Int) (w : World) (hD : DirsAt w) :
    Calls Tryd.prog 9 #[.int .i64 s] w fun e w' => e = .returned (.int .i64 (Tw.countI s)) ∧ Below w.heap.size w w' := by
  by_cases h : 0 ≤ s ∧ s ≤ 7
  · obtain ⟨N, rfl⟩ := Int.eq_ofNat_of_zero_le h.1
    unfold Tw.countI
    rw [if_pos h]
    exact implCount_yes N (by omega) w hD
  · unfold Tw.countI
    rw [if_neg h]
    exact (implCount_no s (by omega) w).mono fun e w' ⟨h1, h2⟩ => ⟨h1, h2 ▸ Below.refl _ _⟩
end Go.Proofs.YtjcagkpolfacpaaDoor

namespace Go.Proofs.YtjcagkpolfacpaaDoor
open Go Go.RowKit Go.Maps Go.WideMaps Go.Shelf

attribute [local go_sem] Oper.semAt_some

namespace Tw
theorem count_le5 {n : Nat} (hn : n ≤ 5) : countOf n ≤ 284 := by
  have h2 := congrArg (fun l : List Nat => l[n]?) counts
  simp only [List.getElem?_map, List.getElem?_range (show n < 8 by omega), Option.map_some] at h2
  obtain rfl | rfl | rfl | rfl | rfl | rfl : n = 0 ∨ n = 1 ∨ n = 2 ∨ n = 3 ∨ n = 4 ∨ n = 5 := by omega
  all_goals
    have := Option.some.inj h2
    omega
end Tw
/-- What WalksOf says. -/
def walksI (s : Int) : List ByteArray := if 0 ≤ s ∧ s ≤ 5 then (Tw.onWalks [] s.toNat).map Tw.str else []
theorem walksI_few (s : Int) : (walksI s).length ≤ 284 := by
  unfold walksI
  split
  · rw [List.length_map, Tw.countOf_eq (by omega)]
    exact Tw.count_le5 (by omega)
  · exact Nat.zero_le _
theorem own_keep {w w' : World} {base n : Nat} {e : TypeId} {size : Nat} {v : Value} {xs : List Value} (h : w.ownsRow base e size v n xs) (hk : ∀ k, v.ownBlock = some k → w'.heap[k]? = w.heap[k]?) : w'.ownsRow base e size v n xs := by
  refine ⟨h.1, ?_⟩
  rcases h.2 with h1 | ⟨g, cap, cur, h1, h2, h3, h4⟩
  · exact .inl h1
  · exact .inr ⟨g, cap, cur, h1, h2, (hk g (by rw [h1]; rfl)).trans h3, h4⟩
theorem own_blockC {w : World} {base n : Nat} {e : TypeId} {size : Nat} {v : Value} {xs : List Value} (h : w.ownsRow base e size v n xs) {k : Nat} (hk : v.ownBlock = some k) : base ≤ k ∧ ∃ cur, w.heap[k]? = some (.cells cur e (0, 0)) := by
  rcases h.2 with ⟨h1, _⟩ | ⟨g, cap, cur, h1, h2, h3, _⟩
  · rw [h1] at hk
    cases hk
  · rw [h1] at hk
    obtain rfl : g = k := Option.some.inj hk
    exact ⟨h2, cur, h3⟩

/-- What holds between two rounds of WalksOf. -/
def WkI (w : World) (N : Nat) (pre : List (List UInt8)) (r : Option Nat) (W : World) : Prop :=
  (∃ v, W.heap[w.heap.size]? = some (.cells #[v] 24 (0, 0)) ∧ W.ownsRow w.heap.size 9 1 v pre.length (strVals (pre.map Tw.str)) ∧ v.ownBlock = r) ∧ W.cell? ⟨w.heap.size + 1, 0, none⟩ = some (.int .i64 (N : Int)) ∧ Below w.heap.size w W
theorem strVals_snoc (l : List (List UInt8)) (x : List UInt8) : strVals ((l ++ [x]).map Tw.str) = strVals (l.map Tw.str) ++ [.string (Tw.str x)] := by unfold strVals; simp

set_option maxRecDepth 100000 in
set_option maxHeartbeats 3200000 in
theorem implWalks_yes (N : Nat) (hN : N ≤ 5) (w : World) (hD : DirsAt w) :
    Calls Tryd.prog 11 #[.int .i64 (N : Int)] w (TextsOut w ((Tw.onWalks [] N).map Tw.str)) := by
  have HD := Lib.hid hD
  have h1 : ¬ (5 : Int) < (N : Int) := by omega
  have HXL : Hid ((Tw.onWalks [] N).length = Tw.countOf N) := Tw.countOf_eq (by omega)
  have hle := Tw.count_le5 hN
  obtain ⟨i0, hi0, hz0, hz1, hz2⟩ := info_parts stringInfo
  clear hD
  refine (callsIn_wide (n := 6)).1 ?_
  refine callsIn_of_wp_marks Tryd.func11 rfl trivial ?_
  refine wpIn_wide.2 ?_
  simp only [Tryd.ntmps11, List.size_toArray, List.length_cons, List.length_nil, Nat.reduceAdd, Nat.reduceSub, Array.replicate_succ, Array.replicate_zero, List.push_toArray, List.append_toArray, List.nil_append, List.cons_append]
  go_wp2_with (go_at_call 27; refine (avoiding_any _ _).mono ?_; rintro e w1 ⟨rfl, rfl⟩)
  obtain ⟨R, hR⟩ : ∃ R, w.heap.size = R := ⟨_, rfl⟩
  obtain ⟨W0, hW0⟩ : ∃ W0, ((w.alloc (.cells #[.slice none 0 0] 24)).alloc (.cells #[.int .i64 (N : Int)] 3)) = W0 := ⟨_, rfl⟩
  have hsz0 : W0.heap.size = R + 2 := by rw [← hW0, ← hR]; simp
  have hbb0 : Below w.heap.size w W0 := by rw [← hW0]; exact ((Below.refl _ _).alloc (Nat.le_refl _) _).alloc (by simp) _
  have hbox0 : W0.heap[w.heap.size]? = some (.cells #[.slice none 0 0] 24 (0, 0)) := by rw [← hW0]; exact (Below.heap_alloc _ _ _ (by simp)).trans (World.alloc_heap_new w _)
  have hst0 : W0.heap[w.heap.size + 1]? = some (.cells #[.int .i64 (N : Int)] 3 (0, 0)) := by
    rw [← hW0]
    have := World.alloc_heap_new (w.alloc (.cells #[.slice none 0 0] 24)) (.cells #[.int .i64 (N : Int)] 3)
    rwa [World.size_alloc] at this
  have hs0 := cell_of_row _ _ 0 _ _ _ hst0
  have HR := Lib.hid hR
  rw [hW0, hR]
  clear hR
  refine (wpIn_wide (n := 6)).1 ?_
  refine wpIn_rangeOwn (α := List UInt8) rfl (by decide) (gf := 43) (lb := #[.pointer (some ⟨R + 1, 0, none⟩)]) rfl trivial (enters_of Tryd.func43 (by kernel_rfl) rfl) (encs := fun x : List UInt8 => #[.string (Tw.str x)]) (xs := Tw.onWalks [] N) (C := fun W => DirsAt W ∧ W.cell? ⟨R + 1, 0, none⟩ = some (.int .i64 (N : Int)))
    (fun l J W _ hsW hA hC hY h0 => callsIn_wide.2 (avoiding1 N l (R + 1) (by omega) J W (by rw [hsW]; exact hA) hC (by rw [hsW]; exact hY) h0)) (fun _ => rfl)
    (WkI w N)
    ?own (fun _ _ _ h => ⟨HD.out.below' h.2.2, by rw [← HR.out]; exact h.2.1⟩) ?start ?_ ?assign ?body ?done
  case own =>
    rintro pre q W W' ⟨⟨v, i1, i2, i3⟩, i4, i5⟩ hs9
    have hb9 := hs9.below
    rw [hsz0] at hb9
    exact ⟨⟨v, (hb9.block _ (by rw [HR.out]; omega)).trans i1, own_keep i2 (fun k hk => hs9.block k (.inr (by rw [← i3]; exact hk))), i3⟩, (hb9.cell (p := ⟨w.heap.size + 1, 0, none⟩) (by rw [HR.out]; simp)).trans i4, i5.trans (hb9.mono (by rw [HR.out]; omega))⟩
  case start => exact ⟨⟨_, hbox0, World.ownsRow_nil _ _ _ _, rfl⟩, hs0, hbb0⟩
  case assign =>
    intro l x W K hK
    gi_wp2
    exact hK
  case body =>
    rintro l pre x q W ⟨⟨v, i1, i2, i3⟩, i4, i5⟩ hpre hz9 hq9
    have hpl : (pre ++ [x]).length ≤ (Tw.onWalks [] N).length := hpre.length_le
    rw [HXL.out, List.length_append, List.length_singleton] at hpl
    have hlen : pre.length ≤ 284 := by omega
    rw [HR.out] at i1
    have c0 := cell_of_row _ _ 0 _ _ _ i1
    have c1 := frozen_of_row _ _ 0 _ _ i1
    have I1 := Lib.hid i1
    have I3 := Lib.hid i3
    have hRW : R < W.heap.size := by omega
    clear hpl hpre i1 i3
    gi_wp2_with (gi_at_builtin; refine wpListIn_append_own_at _ rfl _ _ _ rfl w.heap.size 9 i0 _ 1 16 Tryd.underlying24 hi0 hz0 hz1 hz2 rfl (by decide) v pre.length _ rfl (i2.alloc _) ⟨W.heap.size, 0, none⟩ 1 1 [.string (Tw.str x)] rfl rfl (cell_one_new _ _ _) (by simp [Value.oneCell']) (by unfold maxLen; omega) (by omega) (by have := i5.size; simp; omega) ?_; intro v' w1 hown' hgrow _ hat; obtain ⟨g', cap', rfl⟩ := ownsRow_succ hown'; have hbx1 := (hgrow.block R (by simp; omega) (fun e => by have := (hq9 R (I3.out ▸ e.symm)).1; omega)).trans ((Below.heap_alloc _ _ _ hRW).trans I1.out); have d0 := cell_of_row _ _ 0 _ _ _ hbx1; have d1 := frozen_of_row _ _ 0 _ _ hbx1)
    have hg9 : R + 2 ≤ g' := by
      rcases hat with h9 | h9
      · have := (hq9 g' (I3.out ▸ h9.symm)).1
        omega
      · have h8 := Option.some.inj h9
        simp at h8
        omega
    have hlt' := (hown'.lt g' rfl).2
    have hs1 := hgrow.size
    refine ⟨some g', ⟨⟨_, by rw [HR.out]; exact one_setCell hbx1, own_keep (v := .slice (some ⟨g', 0, none⟩) (pre.length + 1) cap') ?_ (fun k hk => by obtain rfl : g' = k := Option.some.inj hk; exact Below.heap_setCell _ _ _ _ (by simp; omega)), rfl⟩, ?_, ?_⟩, ?_, ?_, ?_⟩
    · rw [List.length_append, List.length_singleton, strVals_snoc]
      exact hown'
    · refine (World.cell?_of_block (w := w1) (Below.heap_setCell _ _ _ _ (by rw [HR.out]; simp))).trans ?_
      refine (World.cell?_of_block (w := W.alloc _) (hgrow.block (w.heap.size + 1) (by rw [HR.out]; simp; omega) (fun e => by have := (hq9 _ (I3.out ▸ e.symm)).1; rw [HR.out] at this; omega))).trans ?_
      exact (World.cell?_of_block (w := W) (Below.heap_alloc _ _ _ (by rw [HR.out]; show R + 1 < _; omega))).trans i4
    · exact ((i5.alloc i5.size _).grown hgrow (by have := i5.size; simp; omega) (fun k e => by have := (hq9 k (I3.out ▸ e)).1; rw [HR.out]; omega)).setCell (by rw [HR.out]; simp) _
    · refine ⟨?_, ?_, ?_, ?_, fun k g1 g2 g3 => ?_⟩
      · exact (show _ = W.os from hgrow.os)
      · exact (show _ = W.tape from hgrow.tape)
      · exact (show _ = W.output from hgrow.output)
      · show W.heap.size ≤ (w1.heap.modify _ _).size
        rw [Array.size_modify]
        simp at hs1
        omega
      · refine (Below.heap_setCell _ _ _ _ (by rw [hsz0] at g1; simp; omega)).trans ((hgrow.block k (by simp; omega) (fun e => g3 (I3.out ▸ e.symm))).trans (Below.heap_alloc _ _ _ g2))
    · rcases hat with h9 | h9
      · exact .inl (h9.trans I3.out)
      · exact .inr ⟨g', rfl, by have h8 := Option.some.inj h9; simp at h8; omega⟩
    · intro k e
      obtain rfl : g' = k := Option.some.inj e
      show g' < (w1.heap.modify _ _).size
      rw [Array.size_modify]
      exact hlt'
  case done =>
    rintro q W ⟨⟨v, i1, i2, i3⟩, i4, i5⟩ hz9 hk9
    rw [HR.out] at i1
    have c0 := cell_of_row _ _ 0 _ _ _ i1
    go_wp2
    refine ⟨by simp, .inl ⟨_, _, rfl, run_takeDeferred hk9, ?_⟩⟩
    have hfar : ∀ k, v.ownBlock = some k → k ≠ W0.heap.size := fun k hk e => by
      obtain ⟨_, cur, hc⟩ := own_blockC i2 hk
      rw [e, hk9] at hc
      cases hc
    have hfin := own_keep (w' := W.putObj W0.heap.size (.deferred none)) i2 (fun k hk => World.putObj_heap_other (hfar k hk))
    refine ⟨_, results_tmp rfl _ _ _, v, rfl, past_own (by rw [List.length_map]; exact hfin), fresh_own hfin (Nat.le_refl _), i5.trans (belowK_b (w := w) (Nat.le_refl _) W _ _ _ (by rw [hsz0, HR.out]; omega) hk9 rfl rfl)⟩
theorem implWalks_no (s : Int) (hs : s < 0 ∨ 5 < s) (w : World) :
    Calls Tryd.prog 11 #[.int .i64 s] w fun e w' => e = .returned (.slice none 0 0) ∧ w = w' := by
  rcases hs with h | h
  · go_enter Tryd.func11, Tryd.ntmps11
    go_wp2_with fail
    go_ret
    exact ⟨rfl, rfl⟩
  · have h0 : 0 ≤ s := by omega
    go_enter Tryd.func11, Tryd.ntmps11
    go_wp2_with fail
    go_ret
    exact ⟨rfl, rfl⟩
theorem implWalks (s : Int) (w : World) (hD : DirsAt w) : Calls Tryd.prog 11 #[.int .i64 s] w (TextsOut w (walksI s)) := by
  by_cases h : 0 ≤ s ∧ s ≤ 5
  · obtain ⟨N, rfl⟩ := Int.eq_ofNat_of_zero_le h.1
    unfold walksI
    rw [if_pos h]
    exact implWalks_yes N (by omega) w hD
  · unfold walksI
    rw [if_neg h]
    exact (implWalks_no s (by omega) w).mono fun e w' ⟨h1, h2⟩ => ⟨_, h1, .inl ⟨rfl, rfl⟩, Fresh.none _, h2 ▸ Below.refl _ _⟩
end Go.Proofs.YtjcagkpolfacpaaDoor

namespace Go.Proofs.YtjcagkpolfacpaaDoor
open Go.RowKit

namespace Tw
/-- In which order the reference counts. -/
def turn4 : List UInt8 := [101, 110, 119, 115]
def cntS (l : List UInt8) : Nat → Nat
  | 0 => 1
  | n + 1 => (turn4.map fun c => if avoids (l ++ [c]) = true then cntS (l ++ [c]) n else 0).sum
def cntTo (l : List UInt8) (n k : Nat) : Nat := ((turn4.take k).map fun c => if avoids (l ++ [c]) = true then cntS (l ++ [c]) n else 0).sum
theorem cntTo_all (l : List UInt8) (n : Nat) : cntTo l n 4 = cntS l (n + 1) := rfl
theorem cntTo_succ {l : List UInt8} {n k : Nat} {c : UInt8} (hc : turn4[k]? = some c) : cntTo l n (k + 1) = cntTo l n k + if avoids (l ++ [c]) = true then cntS (l ++ [c]) n else 0 := by
  unfold cntTo
  rw [List.take_add_one, hc, List.map_append, List.sum_append]
  simp
theorem cntS_le : ∀ (n : Nat) (l : List UInt8), cntS l n ≤ 4 ^ n
  | 0, _ => Nat.le_refl _
  | n + 1, l => by
    have h : ∀ c : UInt8, (if avoids (l ++ [c]) = true then cntS (l ++ [c]) n else 0) ≤ 4 ^ n := fun c => by
      split
      · exact cntS_le n _
      · exact Nat.zero_le _
    have h1 := h 101
    have h2 := h 110
    have h3 := h 119
    have h4 := h 115
    unfold cntS turn4
    simp only [List.map_cons, List.map_nil, List.sum_cons, List.sum_nil]
    rw [Nat.pow_succ]
    omega
theorem cntTo_le (n : Nat) (l : List UInt8) (k : Nat) (hk : k ≤ 4) : cntTo l n k ≤ 4 * 4 ^ n := by
  have h : ∀ c : UInt8, (if avoids (l ++ [c]) = true then cntS (l ++ [c]) n else 0) ≤ 4 ^ n := fun c => by
    split
    · exact cntS_le n _
    · exact Nat.zero_le _
  have h1 := h 101
  have h2 := h 110
  have h3 := h 119
  have h4 := h 115
  obtain rfl | rfl | rfl | rfl | rfl : k = 0 ∨ k = 1 ∨ k = 2 ∨ k = 3 ∨ k = 4 := by omega
  all_goals
    simp only [cntTo, turn4, List.take_zero, List.take_succ_cons, List.map_cons, List.map_nil, List.sum_cons, List.sum_nil]
    omega
theorem cntS_walks : ∀ (n : Nat) (l : List UInt8), cntS l n = (onWalks l n).length
  | 0, _ => rfl
  | n + 1, l => by
    have ih := fun c : UInt8 => cntS_walks n (l ++ [c])
    unfold cntS onWalks turn4 order
    rw [length_flatMap']
    simp only [List.map_cons, List.map_nil, List.sum_cons, List.sum_nil, ih]
    have h : ∀ c : UInt8, (if avoids (l ++ [c]) = true then onWalks (l ++ [c]) n else []).length = if avoids (l ++ [c]) = true then (onWalks (l ++ [c]) n).length else 0 := fun c => by split <;> rfl
    simp only [h]
    omega
end Tw

set_option maxRecDepth 100000 in
set_option maxHeartbeats 3200000 in
theorem l11Count_any : ∀ (n : Nat) (s : ByteArray) (w : World), n ≤ 7 → s.size + n ≤ 100 →
    Calls Tryd.prog 26 #[.string s, .int .i64 (n : Int)] w fun e w' => e = .returned (.int .i64 (Tw.cntS s.data.toList n : Int)) ∧ Below w.heap.size w w'
  | 0, s, w, _, _ => by
    go_enter Tryd.func26, Tryd.ntmps26
    go_wp2_with fail
    go_ret
    exact ⟨rfl, Below.refl _ _⟩
  | n + 1, s, w, hn, hs => by
    have ih := fun (c : UInt8) (W : World) => l11Count_any n (s ++ (⟨#[c]⟩ : ByteArray)) W (by omega) (by rw [ByteArray.size_append]; show s.size + 1 + n ≤ _; omega)
    have hav := fun (c : UInt8) (W : World) => specAvoidsOk (s ++ (⟨#[c]⟩ : ByteArray)) W (by rw [ByteArray.size_append]; show s.size + 1 ≤ _; omega)
    rw [show ((n : Nat) : Int) = ((n + 1 : Nat) : Int) - 1 by omega] at ih
    have hpow : 4 ^ n ≤ 4 ^ 6 := Nat.pow_le_pow_right (by omega) (by omega)
    have hcl : ∀ c : UInt8, Tw.cntS (s ++ (⟨#[c]⟩ : ByteArray)).data.toList n ≤ 4096 := fun c => Nat.le_trans (Tw.cntS_le n _) hpow
    have hct : ∀ k, k ≤ 4 → Tw.cntTo s.data.toList n k ≤ 16384 := fun k hk => by
      have := Tw.cntTo_le n s.data.toList k hk
      omega
    have HAV := Lib.hid hav
    have HCL := Lib.hid hcl
    have HCT := Lib.hid hct
    obtain ⟨z, hz⟩ : ∃ z : Int, ((n + 1 : Nat) : Int) = z := ⟨_, rfl⟩
    have hz0 : (z == 0) = false := by simp; omega
    have hz1 : 1 ≤ z ∧ z ≤ 7 := by omega
    rw [hz] at ih ⊢
    have HIH := Lib.hid ih
    clear ih hav hcl hct hpow hz
    go_enter Tryd.func26, Tryd.ntmps26
    go_wp2_with fail
    go_loopw [5, 6] (fun a i wr => ∃ k : Nat, k ≤ 4 ∧ a = .int .i64 (Tw.cntTo s.data.toList n k : Int) ∧ i = .int .i64 k ∧ Below w.heap.size w wr) (fun _ i _ => 4 - (intOf i).toNat)
    case atStart => exact ⟨0, Nat.zero_le _, rfl, rfl, Below.refl _ _⟩
    case round =>
      obtain ⟨k, hk, rfl, rfl, hb⟩ := hrel
      have hle := HCT.out k hk
      by_cases hlt : k < 4
      · obtain ⟨c, hc, hk4⟩ : ∃ c, Tw.turn4[k]? = some c ∧ ((k = 0 ∧ c = 101) ∨ (k = 1 ∧ c = 110) ∨ (k = 2 ∧ c = 119) ∨ (k = 3 ∧ c = 115)) := by
          obtain rfl | rfl | rfl | rfl : k = 0 ∨ k = 1 ∨ k = 2 ∨ k = 3 := by omega
          · exact ⟨101, rfl, by simp⟩
          · exact ⟨110, rfl, by simp⟩
          · exact ⟨119, rfl, by simp⟩
          · exact ⟨115, rfl, by simp⟩
        have hnext := Tw.cntTo_succ (l := s.data.toList) (n := n) hc
        obtain ⟨a, ha⟩ : ∃ a, Tw.cntTo s.data.toList n k = a := ⟨_, rfl⟩
        rw [ha] at hnext hle ⊢
        have e : (s ++ (⟨#[c]⟩ : ByteArray)).data.toList = s.data.toList ++ [c] := by simp
        have hcl := HCL.out c
        have hih := HIH.out c
        have hav := HAV.out c
        rw [e] at hcl hih hav
        obtain ⟨u, hu⟩ : ∃ u, Tw.cntS (s.data.toList ++ [c]) n = u := ⟨_, rfl⟩
        obtain ⟨b, hb9⟩ : ∃ b, Tw.avoids (s.data.toList ++ [c]) = b := ⟨_, rfl⟩
        rw [hu] at hcl hih hnext
        rw [hb9] at hav hnext
        have HN := Lib.hid hnext
        have HI := Lib.hid hih
        have HV := Lib.hid hav
        clear hnext hih hav hu hb9 ha e hc
        have hbs := hb.size
        cases b
        all_goals
          rcases hk4 with ⟨rfl, rfl⟩ | ⟨rfl, rfl⟩ | ⟨rfl, rfl⟩ | ⟨rfl, rfl⟩
        all_goals
          go_wp2_with (first
            | (go_at_call 42; refine (HV.out _).mono ?_; rintro e w2 ⟨rfl, hb2⟩; have hb2' := hb.trans (hb2.mono hbs); have hbs2 := hb2'.size)
            | (go_at_call 26; refine (HI.out _).mono ?_; rintro e w3 ⟨rfl, hb3⟩; have hb3' := hb2'.trans (hb3.mono hbs2)))
          go_roundw
          case rel => exact ⟨_, hlt, by rw [HN.out]; first | rfl | (simp; done), rfl, by assumption⟩
          case measure => simp [intOf]
      · obtain rfl : k = 4 := by omega
        go_wp2_with fail
        go_ret
        exact ⟨ret_int (by rw [Tw.cntTo_all]), hb⟩

set_option maxHeartbeats 800000 in
theorem specCount (s : Int) (w : World) :
    Calls Tryd.prog 8 #[.int .i64 s] w fun e w' => e = .returned (.int .i64 (Tw.countI s)) ∧ Below w.heap.size w w' := by
  by_cases h : 0 ≤ s ∧ s ≤ 7
  · have HIN := Lib.hid (in_yes s 0 7 · h.1 h.2)
    by_cases h0 : s = 0
    · subst h0
      go_enter Tryd.func8, Tryd.ntmps8
      go_wp2_with (go_at_call 25; refine (HIN.out _).mono ?_; rintro e w' ⟨rfl, rfl⟩)
      go_ret
      exact ⟨rfl, Below.refl _ _⟩
    · obtain ⟨n, hn⟩ := Int.eq_ofNat_of_zero_le (show 0 ≤ s - 1 by omega)
      have hn6 : n < 7 := by omega
      have hc := Tw.count_east hn6
      rw [← Tw.cntS_walks] at hc
      have hle := Tw.count_le (n := n + 1) (by omega)
      have hs : s.toNat = n + 1 := by omega
      have hcall := fun W => l11Count_any n ⟨#[101]⟩ W (by omega) (by show 1 + n ≤ 100; omega)
      rw [← hn] at hcall
      obtain ⟨u, hu⟩ : ∃ u, Tw.cntS [101] n = u := ⟨_, rfl⟩
      rw [hu] at hc
      have hcall' : ∀ W, Calls Tryd.prog 26 #[.string ⟨#[101]⟩, .int .i64 (s - 1)] W fun e w' => e = .returned (.int .i64 (u : Int)) ∧ Below W.heap.size W w' := fun W => hu ▸ hcall W
      have HC := Lib.hid hcall'
      have hub : u ≤ 543 := by omega
      have HFIN : Hid (((4 : Int) * (u : Int)) = Tw.countI s) := by
        show _ = _
        unfold Tw.countI
        rw [if_pos h, hs, ← hc]
        omega
      have hz0 : (s == 0) = false := by simp; omega
      have hs1 : 1 ≤ s := by omega
      have hs7 : s ≤ 7 := h.2
      clear hc hcall hcall' hu hn hs h0 h
      go_enter Tryd.func8, Tryd.ntmps8
      go_wp2_with (first
        | (go_at_call 25; refine (HIN.out _).mono ?_; rintro e w' ⟨rfl, rfl⟩)
        | (go_at_call 26; refine (HC.out _).mono ?_; rintro e w1 ⟨rfl, hb1⟩))
      go_ret
      exact ⟨ret_int HFIN.out, hb1⟩
  · have HIN := Lib.hid (in_no s 0 7 · h)
    have HFIN : Hid (Tw.countI s = -1) := by show _ = _; unfold Tw.countI; rw [if_neg h]
    clear h
    go_enter Tryd.func8, Tryd.ntmps8
    go_wp2_with (go_at_call 25; refine (HIN.out _).mono ?_; rintro e w' ⟨rfl, rfl⟩)
    go_ret
    exact ⟨ret_int HFIN.out.symm, Below.refl _ _⟩
end Go.Proofs.YtjcagkpolfacpaaDoor

namespace Go.Proofs.YtjcagkpolfacpaaDoor
open Go.RowKit

namespace Tw
theorem onWalks_le : ∀ (n : Nat) (l : List UInt8), (onWalks l n).length ≤ 4 ^ n := fun n l => by rw [← cntS_walks]; exact cntS_le n l
theorem onTo_le (n : Nat) (l : List UInt8) (k : Nat) : (onTo l n k).length ≤ 4 ^ (n + 1) := Nat.le_trans (onTo_prefix l n k).length_le (onWalks_le (n + 1) l)
end Tw
theorem src_named {w : World} {v : Value} {zs : List ByteArray} (h : StrsAt w v zs) {M : Nat} (hM : zs.length = M) : (v = .slice none 0 0 ∧ M = 0 ∧ strVals zs = []) ∨ ∃ ad c, v = .slice (some ad) M c ∧ (strVals zs).length = M * 1 ∧ ∀ j u, (strVals zs)[j]? = some u → w.cell? (ad.add j) = some u := hM ▸ src_of h
theorem strs_append (a b : List ByteArray) : strVals (a ++ b) = strVals a ++ strVals b := by unfold strVals; rw [List.map_append]
def walkStrs (l : List UInt8) (n : Nat) : List ByteArray := (Tw.onWalks l n).map Tw.str

set_option maxRecDepth 100000 in
set_option maxHeartbeats 6400000 in
theorem l11Walks_any : ∀ (n : Nat) (s : ByteArray) (w : World), n ≤ 5 → s.size + n ≤ 100 →
    Calls Tryd.prog 28 #[.string s, .int .i64 (n : Int)] w (TextsOut w (walkStrs s.data.toList n))
  | 0, s, w, _, _ => by
    go_enter Tryd.func28, Tryd.ntmps28
    go_wp2_with fail
    go_ret
    refine ⟨_, rfl, ?_, Fresh.slice (Nat.le_refl _), (Below.refl _ _).alloc (Nat.le_refl _) _⟩
    have : walkStrs s.data.toList 0 = [s] := by unfold walkStrs Tw.onWalks; simp [Tw.str_of]
    rw [this]
    exact .inr ⟨w.heap.size, 0, 1, #[.string s], rfl, Nat.le_refl _, heap_alloc_new w _, by simp, fun j z hj => by
      cases j with
      | zero => obtain rfl := Option.some.inj hj; rfl
      | succ j => simp at hj⟩
  | n + 1, s, w, hn, hs => by
    have ih := fun (c : UInt8) (W : World) => l11Walks_any n (s ++ (⟨#[c]⟩ : ByteArray)) W (by omega) (by rw [ByteArray.size_append]; show s.size + 1 + n ≤ _; omega)
    have hav := fun (c : UInt8) (W : World) => specAvoidsOk (s ++ (⟨#[c]⟩ : ByteArray)) W (by rw [ByteArray.size_append]; show s.size + 1 ≤ _; omega)
    rw [show ((n : Nat) : Int) = ((n + 1 : Nat) : Int) - 1 by omega] at ih
    have hpow : 4 ^ n ≤ 4 ^ 4 := Nat.pow_le_pow_right (by omega) (by omega)
    have hcl : ∀ c : UInt8, (Tw.onWalks (s.data.toList ++ [c]) n).length ≤ 256 := fun c => Nat.le_trans (Tw.onWalks_le n _) hpow
    have hct : ∀ k, (Tw.onTo s.data.toList n k).length ≤ 1024 := fun k => Nat.le_trans (Tw.onTo_le n s.data.toList k) (Nat.pow_le_pow_right (n := 4) (by omega) (by omega : n + 1 ≤ 5))
    have HAV := Lib.hid hav
    have HCL := Lib.hid hcl
    have HCT := Lib.hid hct
    obtain ⟨z, hz⟩ : ∃ z : Int, ((n + 1 : Nat) : Int) = z := ⟨_, rfl⟩
    have hz0 : (z == 0) = false := by simp; omega
    have hz1 : 1 ≤ z ∧ z ≤ 7 := by omega
    rw [hz] at ih ⊢
    have HIH := Lib.hid ih
    clear ih hav hcl hct hpow hz
    obtain ⟨i0, hi0, hi1, hi2, hi3⟩ := info_parts stringInfo
    go_enter Tryd.func28, Tryd.ntmps28
    go_wp2_with fail
    go_loopw [5, 6] (fun a i wr => ∃ (k g cap : Nat), k ≤ 4 ∧ a = .slice (some ⟨g, 0, none⟩) (Tw.onTo s.data.toList n k).length cap ∧ i = .int .i64 k ∧ Hid (wr.ownsRow w.heap.size 9 1 (.slice (some ⟨g, 0, none⟩) (Tw.onTo s.data.toList n k).length cap) (Tw.onTo s.data.toList n k).length (strVals ((Tw.onTo s.data.toList n k).map Tw.str))) ∧ Below w.heap.size w wr) (fun _ i _ => 4 - (intOf i).toNat)
    case atStart => exact ⟨0, w.heap.size, 0, Nat.zero_le _, rfl, rfl, own_none w 9 w.heap.size (Nat.le_refl _), (Below.refl _ _).alloc (Nat.le_refl _) _⟩
    case round =>
      obtain ⟨k, g, cap, hk, rfl, rfl, HOWN, hb⟩ := hrel
      have hle := HCT.out k
      by_cases hlt : k < 4
      · obtain ⟨c, hc, hk4⟩ : ∃ c, Tw.order[k]? = some c ∧ ((k = 0 ∧ c = 101) ∨ (k = 1 ∧ c = 110) ∨ (k = 2 ∧ c = 115) ∨ (k = 3 ∧ c = 119)) := by
          obtain rfl | rfl | rfl | rfl : k = 0 ∨ k = 1 ∨ k = 2 ∨ k = 3 := by omega
          · exact ⟨101, rfl, by simp⟩
          · exact ⟨110, rfl, by simp⟩
          · exact ⟨115, rfl, by simp⟩
          · exact ⟨119, rfl, by simp⟩
        have hnext := Tw.onTo_succ (l := s.data.toList) (n := n) hc
        have e : (s ++ (⟨#[c]⟩ : ByteArray)).data.toList = s.data.toList ++ [c] := by simp
        have hcl := HCL.out c
        have hih := HIH.out c
        have hav := HAV.out c
        rw [e] at hih hav
        unfold walkStrs at hih
        obtain ⟨u, hu⟩ : ∃ u, Tw.onWalks (s.data.toList ++ [c]) n = u := ⟨_, rfl⟩
        obtain ⟨b, hb9⟩ : ∃ b, Tw.avoids (s.data.toList ++ [c]) = b := ⟨_, rfl⟩
        obtain ⟨us, hus⟩ : ∃ us, u.map Tw.str = us := ⟨_, rfl⟩
        have husl : us.length = u.length := by rw [← hus, List.length_map]
        rw [hu] at hcl hih hnext
        rw [hus] at hih
        rw [hb9] at hav hnext
        have HN := Lib.hid hnext
        have HI := Lib.hid hih
        have HV := Lib.hid hav
        have HUS := Lib.hid hus
        have HUL := Lib.hid husl
        clear hnext hih hav hu hb9 e hc hus husl
        have hbs := hb.size
        cases b
        · rcases hk4 with ⟨rfl, rfl⟩ | ⟨rfl, rfl⟩ | ⟨rfl, rfl⟩ | ⟨rfl, rfl⟩
          all_goals
            go_wp2_with (go_at_call 42; refine (HV.out _).mono ?_; rintro e w2 ⟨rfl, hb2⟩; have hb2' := (hb.alloc hbs _).trans (hb2.mono (by simp; omega)); have hbs2 := hb2'.size; have HO2 := Lib.hid (own_below (HOWN.out.alloc _) hb2))
            go_roundw
            case rel =>
              refine ⟨_, g, cap, hlt, ?_, rfl, ?_, hb2'⟩
              · rw [HN.out, if_neg (by simp), List.append_nil]
              · show World.ownsRow _ _ _ _ _ _ _
                rw [HN.out, if_neg (by simp), List.append_nil]
                exact HO2.out
            case measure => simp [intOf]
        · rcases hk4 with ⟨rfl, rfl⟩ | ⟨rfl, rfl⟩ | ⟨rfl, rfl⟩ | ⟨rfl, rfl⟩
          all_goals
            go_wp2_with (first
              | (go_at_call 42; refine (HV.out _).mono ?_; rintro e w2 ⟨rfl, hb2⟩; have hb2' := (hb.alloc hbs _).trans (hb2.mono (by simp; omega)); have hbs2 := hb2'.size; have HO2 := Lib.hid (own_below (HOWN.out.alloc _) hb2))
              | (go_at_call 28; refine (HI.out _).mono ?_; rintro e w3 ⟨v3, rfl, hp3, hf3, hb3⟩; obtain ⟨a3, c3, hv3⟩ := past_slice hp3 HUL.out; subst hv3; have hb3' := hb2'.trans (hb3.mono hbs2); have hbs3 := hb3'.size; have HO3 := Lib.hid (own_below HO2.out hb3); have P3 := Lib.hid hp3; clear hp3 hf3)
              | (at_builtin; refine wpList_append_src _ rfl (.tmp 25) (.tmp 31) 24 rfl w.heap.size 9 i0 _ 1 16 Tryd.underlying24 hi0 hi1 hi2 hi3 rfl (by omega) (.slice (some ⟨g, 0, none⟩) _ cap) _ _ rfl HO3.out (by simp) (.slice a3 u.length c3) u.length (strVals us) rfl (src_named P3.out.strs HUL.out) (one_strs _) (by unfold maxLen; omega) (by omega) (by omega) ?_; intro v4 w4 hown4 hgrow4 hne4; obtain ⟨g4, cap4, hv4⟩ := own_slice hown4 hne4; subst hv4))
            go_roundw
            case rel =>
              refine ⟨_, g4, cap4, hlt, ?_, rfl, ?_, hb3'.grown hgrow4 hbs3 (fun i hi => by obtain rfl : g = i := Option.some.inj hi; exact (HO3.out.lt g rfl).1)⟩
              · rw [HN.out, if_pos trivial, List.length_append]
              · show World.ownsRow _ _ _ _ _ _ _
                rw [HN.out, if_pos trivial, List.length_append, List.map_append, strs_append, HUS.out]
                exact hown4
            case measure => simp [intOf]
      · obtain rfl : k = 4 := by omega
        go_wp2_with fail
        go_ret
        have hown := HOWN.out
        rw [Tw.onTo_all] at hown
        refine ⟨_, rfl, ?_, Fresh.slice (hown.lt g rfl).1, hb⟩
        rw [Tw.onTo_all]
        exact past_own (by unfold walkStrs; rw [List.length_map]; exact hown)

set_option maxHeartbeats 800000 in
theorem specWalks (s : Int) (w : World) : Calls Tryd.prog 10 #[.int .i64 s] w (TextsOut w (walksI s)) := by
  by_cases h : 0 ≤ s ∧ s ≤ 5
  · have HIN := Lib.hid (in_yes s 0 5 · h.1 h.2)
    obtain ⟨N, rfl⟩ := Int.eq_ofNat_of_zero_le h.1
    have hcall := fun W => l11Walks_any N ⟨#[]⟩ W (by omega) (by show 0 + N ≤ 100; omega)
    have HC : Hid (∀ W, Calls Tryd.prog 28 #[.string ⟨#[]⟩, .int .i64 (N : Int)] W (TextsOut W (walksI (N : Int)))) := fun W => by
      have := hcall W
      unfold walksI
      rw [if_pos h]
      exact this
    clear hcall h
    go_enter Tryd.func10, Tryd.ntmps10
    go_wp2_with (first
      | (go_at_call 25; refine (HIN.out _).mono ?_; rintro e w' ⟨rfl, rfl⟩)
      | (go_at_call 28; refine (HC.out _).mono ?_; rintro e w1 ⟨v1, rfl, hp1, hf1, hb1⟩))
    go_ret
    exact ⟨_, rfl, hp1, hf1, hb1⟩
  · have HIN := Lib.hid (in_no s 0 5 · h)
    have HZ : Hid (walksI s = []) := by show _ = _; unfold walksI; rw [if_neg h]
    clear h
    go_enter Tryd.func10, Tryd.ntmps10
    go_wp2_with (go_at_call 25; refine (HIN.out _).mono ?_; rintro e w' ⟨rfl, rfl⟩)
    go_ret
    rw [HZ.out]
    refine ⟨_, rfl, ?_, Fresh.slice (Nat.le_refl _), (Below.refl _ _).alloc (Nat.le_refl _) _⟩
    exact .inr ⟨w.heap.size, 0, 0, #[], rfl, Nat.le_refl _, heap_alloc_new w _, by simp, fun j z hj => by simp at hj⟩
end Go.Proofs.YtjcagkpolfacpaaDoor

namespace Go.Proofs.YtjcagkpolfacpaaDoor
open Go.RowKit

theorem xor_nat (a b : Nat) (ha : a < 9223372036854775808) (hb : b < 9223372036854775808) : 0 ≤ bits .xor .i64 (a : Int) (b : Int) := by
  have hx : a ^^^ b < 2 ^ 63 := Nat.xor_lt_two_pow (by omega) (by omega)
  show 0 ≤ IntKind.i64.wrap ((BitVec.ofInt 64 (a : Int) ^^^ BitVec.ofInt 64 (b : Int)).toNat : Int)
  rw [BitVec.toNat_xor, ofInt_u64 a (by omega), ofInt_u64 b (by omega)]
  simp [IntKind.wrap, IntKind.bits, IntKind.signed]
  omega
theorem xor_pos (x y : Int) (h0 : 0 ≤ x) (h1 : x < 9223372036854775808) (k0 : 0 ≤ y) (k1 : y < 9223372036854775808) : 0 ≤ bits .xor .i64 x y := by
  obtain ⟨a, rfl⟩ := Int.eq_ofNat_of_zero_le h0
  obtain ⟨b, rfl⟩ := Int.eq_ofNat_of_zero_le k0
  exact xor_nat a b (by omega) (by omega)

/-- The bytes of a code, as they lie. -/
def CodeAt (w : World) (v : Value) (n : Nat) : Prop :=
  (v = .slice none 0 0 ∧ n = 0) ∨ ∃ a cap, v = .slice (some a) n cap ∧ n ≤ cap ∧ ∀ j : Nat, j < n → ∃ b : Int, 0 ≤ b ∧ b ≤ 255 ∧ w.cell? (a.add j) = some (.int .u8 b)
/-- A reader: its code, and how much of it has been read. -/
structure ReaderAt (w : World) (R : Nat) (v : Value) (n : Nat) (p : Nat) : Prop where
  cells : w.heap[R]? = some (.cells #[v, .int .i64 p] 59 (0, 0))
  code : CodeAt w v n
  few : n ≤ 2000
  off : ∀ a cap, v = .slice (some a) n cap → 0 < n → a.block ≠ R
theorem code_grown {w w' : World} {R n : Nat} {v : Value} (h : CodeAt w v n) (hoff : ∀ a cap, v = .slice (some a) n cap → 0 < n → a.block ≠ R) (hg : w.grownBy w' (some R)) : CodeAt w' v n := by
  rcases h with h | ⟨a, cap, hv, hl, hc⟩
  · exact .inl h
  · refine .inr ⟨a, cap, hv, hl, fun j hj => ?_⟩
    obtain ⟨b, h0, h1, h2⟩ := hc j hj
    refine ⟨b, h0, h1, ?_⟩
    have hlt := World.block_lt_of_cell? w _ h2
    have hne := hoff a cap hv (by omega)
    rw [hg.cell_far (a.add j) hlt (by rw [show (a.add j).block = a.block by unfold Addr.add; split <;> rfl]; exact fun e => hne (Option.some.inj e))]
    exact h2
theorem tmod_range (x y : Int) (h0 : 0 ≤ x) (hy : 0 < y) : 0 ≤ x.tmod y ∧ x.tmod y < y := by
  rw [Int.tmod_eq_emod_of_nonneg h0]
  exact ⟨Int.emod_nonneg _ (by omega), Int.emod_lt_of_pos _ hy⟩

/-- The world behind one reading. -/
def readWorld (w : World) (R p : Nat) : World := w.setCell ⟨R, 1, none⟩ (.int .i64 ((p : Int) + 1))
theorem read_grown (w : World) (R p nq : Nat) : w.grownBy ((readWorld w R p).drewN nq) (some R) :=
  ⟨rfl, rfl, rfl, by simp [readWorld], fun k _ hk => heap_setCell_other w ⟨R, 1, none⟩ k _ (fun e => hk (by simp [e]))⟩
theorem read_reader {w : World} {R n p : Nat} {v : Value} (h : ReaderAt w R v n p) (nq : Nat) : ReaderAt ((readWorld w R p).drewN nq) R v n (p + 1) := by
  refine ⟨?_, code_grown h.code h.off (read_grown w R p nq), h.few, h.off⟩
  show (w.setCell ⟨R, 1, none⟩ (.int .i64 ((p : Int) + 1))).heap[R]? = _
  simp [World.setCell, Array.getElem?_modify, h.cells]

set_option maxRecDepth 100000 in
set_option maxHeartbeats 3200000 in
theorem pick_any (R n p : Nat) (v : Value) (N : Int) (w : World) (h : ReaderAt w R v n p) (hp : p ≤ 1000000) (hN : 1 ≤ N) (hN2 : N ≤ 1000000) :
    Calls Tryd.prog 31 #[.pointer (some ⟨R, 0, none⟩), .int .i64 N] w fun e w' => ∃ x : Int, (e = .returned (.int .i64 x) ∧ 0 ≤ x ∧ x < N) ∧ ReaderAt w' R v n (p + 1) ∧ w.grownBy w' (some R) := by
  have hr := fun nq => read_reader h nq
  have hgr := fun nq => read_grown w R p nq
  have hfew := h.few
  have c0 : w.cell? ⟨R, 0, none⟩ = some v := cell_of_row _ _ _ _ _ _ h.cells
  have c1 : w.cell? ⟨R, 1, none⟩ = some (.int .i64 p) := cell_of_row _ _ _ _ _ _ h.cells
  have f1 : w.frozen? ⟨R, 1, none⟩ = false := frozen_of_row _ _ 1 _ _ h.cells
  have d0 : (w.setCell ⟨R, 1, none⟩ (.int .i64 ((p : Int) + 1))).cell? ⟨R, 0, none⟩ = some v := cell_of_row _ _ _ _ _ _ (hr 0).cells
  have d1 : (w.setCell ⟨R, 1, none⟩ (.int .i64 ((p : Int) + 1))).cell? ⟨R, 1, none⟩ = some (.int .i64 ((p : Int) + 1)) := cell_of_row _ _ _ _ _ _ (hr 0).cells
  have hcode : CodeAt (w.setCell ⟨R, 1, none⟩ (.int .i64 ((p : Int) + 1))) v n := (hr 0).code
  have HR := Lib.hid hr
  have HG := Lib.hid hgr
  clear hr hgr h
  rcases hcode with ⟨rfl, rfl⟩ | ⟨a, cap, rfl, hl, hc⟩
  · go_enter Tryd.func31, Tryd.ntmps31
    go_wp2
    go_ret
    exact ⟨0, ⟨rfl, Int.le_refl _, by omega⟩, HR.out 0, HG.out 0⟩
  · have HC := Lib.hid hc
    clear hc
    by_cases hn : n = 0
    · subst hn
      go_enter Tryd.func31, Tryd.ntmps31
      go_wp2
      go_ret
      exact ⟨0, ⟨rfl, Int.le_refl _, by omega⟩, HR.out 0, HG.out 0⟩
    · have hn' : ((n : Int) == 0) = false := by simpa using hn
      by_cases hk : p < n
      · obtain ⟨b, hb0, hb1, hb2⟩ := HC.out p hk
        have k0 : (0 : Int) ≤ (p : Int) := by omega
        have k1 : (p : Int) < (n : Int) := by omega
        have hm : 0 ≤ b % N ∧ b % N < N := ⟨Int.emod_nonneg _ (by omega), Int.emod_lt_of_pos _ (by omega)⟩
        go_enter Tryd.func31, Tryd.ntmps31
        go_wp2
        go_ret
        exact ⟨_, ⟨rfl, hm.1, hm.2⟩, HR.out 0, HG.out 0⟩
      · have hn0 : (0 : Int) < (n : Int) := by omega
        have r1 := tmod_range (p : Int) (n : Int) (by omega) hn0
        have r2 := tmod_range ((p : Int) * 7 + 3) (n : Int) (by omega) hn0
        obtain ⟨b1, b10, b11, b12⟩ := HC.out ((p : Int).tmod n).toNat (by omega)
        obtain ⟨b2, b20, b21, b22⟩ := HC.out (((p : Int) * 7 + 3).tmod n).toNat (by omega)
        have q0 : 0 ≤ (p : Int) / (n : Int) ∧ (p : Int) / (n : Int) ≤ p := ⟨Int.ediv_nonneg (by omega) (by omega), Int.ediv_le_self _ (by omega)⟩
        have w1 : IntKind.i64.wrap ((p : Int) * 7) = (p : Int) * 7 := IntWalk.i64_in _ ⟨by omega, by omega⟩
        have w2 : IntKind.i64.wrap ((p : Int) * 7 + 3) = (p : Int) * 7 + 3 := IntWalk.i64_in _ ⟨by omega, by omega⟩
        have w6 : IntKind.i64.wrap ((p : Int) * 29) = (p : Int) * 29 := IntWalk.i64_in _ ⟨by omega, by omega⟩
        have hx : ∃ x, IntKind.i64.wrap (IntKind.i64.wrap (IntKind.i64.wrap (IntKind.i64.wrap (IntKind.i64.wrap b1 * 131) + IntKind.i64.wrap (IntKind.i64.wrap b2 * 1117)) + (p : Int) * 29) + IntKind.i64.wrap (IntKind.i64.wrap ((p : Int) / (n : Int)) * 53)) = x ∧ 0 ≤ x ∧ x ≤ 1000000000 := by
          obtain ⟨d, hd⟩ : ∃ d, (p : Int) / (n : Int) = d := ⟨_, rfl⟩
          rw [hd] at q0 ⊢
          rw [IntWalk.i64_in b1 ⟨by omega, by omega⟩, IntWalk.i64_in b2 ⟨by omega, by omega⟩, IntWalk.i64_in d ⟨by omega, by omega⟩, IntWalk.i64_in (b1 * 131) ⟨by omega, by omega⟩, IntWalk.i64_in (b2 * 1117) ⟨by omega, by omega⟩, IntWalk.i64_in (d * 53) ⟨by omega, by omega⟩,
            IntWalk.i64_in (b1 * 131 + b2 * 1117) ⟨by omega, by omega⟩, IntWalk.i64_in (b1 * 131 + b2 * 1117 + (p : Int) * 29) ⟨by omega, by omega⟩, IntWalk.i64_in (b1 * 131 + b2 * 1117 + (p : Int) * 29 + d * 53) ⟨by omega, by omega⟩]
          exact ⟨_, rfl, by omega, by omega⟩
        obtain ⟨x, hx, hx0, hx1⟩ := hx
        have HX := Lib.hid hx
        clear hx
        have hz := xor_pos x (x / 64) hx0 (by omega) (by omega) (by omega)
        obtain ⟨z, hz1⟩ : ∃ z, z = bits .xor .i64 x (x / 64) := ⟨_, rfl⟩
        rw [← hz1] at hz
        have hm : 0 ≤ z % N ∧ z % N < N := ⟨Int.emod_nonneg _ (by omega), Int.emod_lt_of_pos _ (by omega)⟩
        have HZ := Lib.hid hz1.symm
        clear hz1
        go_enter Tryd.func31, Tryd.ntmps31
        go_wp2_with fail
        go_quiet (fail)
        rw [HX.out]
        clear w1 w2 w6
        have HZ' := HZ.out
        go_wp2
        go_ret
        exact ⟨_, ⟨rfl, hm.1, hm.2⟩, HR.out _, HG.out _⟩

set_option maxHeartbeats 800000 in
theorem odd_any (R n p : Nat) (v : Value) (N : Int) (w : World) (h : ReaderAt w R v n p) (hp : p ≤ 1000000) (hN : 0 ≤ N) (hN2 : N ≤ 1000000) :
    Calls Tryd.prog 54 #[.pointer (some ⟨R, 0, none⟩), .int .i64 N] w fun e w' => ∃ (b : Bool) (p' : Nat), e = .returned (.bool b) ∧ p' ≤ p + 1 ∧ ReaderAt w' R v n p' ∧ w.grownBy w' (some R) := by
  by_cases h0 : N = 0
  · subst h0
    go_enter Tryd.func54, Tryd.ntmps54
    go_wp2
    go_ret
    exact ⟨_, p, rfl, by omega, h, ⟨rfl, rfl, rfl, Nat.le_refl _, fun _ _ _ => rfl⟩⟩
  · have h1 : 1 ≤ N := by omega
    go_enter Tryd.func54, Tryd.ntmps54
    go_wp2_with (first | (go_at_call 31; refine (pick_any R n p v N _ h hp h1 hN2).mono ?_; rintro e w1 ⟨x, ⟨rfl, hx0, hx1⟩, hr1, hg1⟩))
    go_ret
    exact ⟨_, p + 1, rfl, Nat.le_refl _, hr1, hg1⟩

set_option maxHeartbeats 800000 in
theorem open_any (v : Value) (n : Nat) (w : World) (h : CodeAt w v n) :
    Calls Tryd.prog 30 #[v] w fun e w' => e = .returned (.pointer (some ⟨w.heap.size, 0, none⟩)) ∧ (∃ v' n', ReaderAt w' w.heap.size v' n' 0) ∧ Below w.heap.size w w' := by
  rcases h with ⟨rfl, rfl⟩ | ⟨a, cap, rfl, hl, hc⟩
  · go_enter Tryd.func30, Tryd.ntmps30
    go_wp2
    go_ret
    exact ⟨rfl, ⟨_, 0, ⟨heap_alloc_new w _, .inl ⟨rfl, rfl⟩, by omega, fun a cap e => by cases e⟩⟩, (Below.refl _ _).alloc (Nat.le_refl _) _⟩
  · have HC := Lib.hid hc
    clear hc
    have hkeep : ∀ (o : Obj) (m : Nat), m ≤ n → CodeAt (w.alloc o) (.slice (some a) m cap) m := fun o m hm => .inr ⟨a, cap, rfl, by omega, fun j hj => by
      obtain ⟨b, h0, h1, h2⟩ := HC.out j (by omega)
      exact ⟨b, h0, h1, (((Below.refl w.heap.size w).alloc (Nat.le_refl _) o).cell (p := a.add j) (World.block_lt_of_cell? w _ h2)).trans h2⟩⟩
    have hoff : 0 < n → a.block ≠ w.heap.size := fun hn e => by
      obtain ⟨b, _, _, h2⟩ := HC.out 0 hn
      have := World.block_lt_of_cell? w _ h2
      rw [show (a.add 0).block = a.block from rfl] at this
      omega
    have HK := Lib.hid hkeep
    have HO := Lib.hid hoff
    clear hkeep hoff
    by_cases h2 : n ≤ 2000
    · go_enter Tryd.func30, Tryd.ntmps30
      go_wp2
      go_ret
      refine ⟨rfl, ⟨_, n, ⟨heap_alloc_new w _, HK.out _ n (Nat.le_refl _), h2, fun a' cap' e hn => ?_⟩⟩, (Below.refl _ _).alloc (Nat.le_refl _) _⟩
      cases e
      exact HO.out hn
    · have h3 : (2000 : Int) < (n : Int) := by omega
      have h4 : (2000 : Int) ≤ (cap : Int) := by omega
      go_enter Tryd.func30, Tryd.ntmps30
      go_wp2
      go_ret
      refine ⟨rfl, ⟨_, 2000, ⟨heap_alloc_new w _, HK.out _ 2000 (by omega), by omega, fun a' cap' e hn => ?_⟩⟩, (Below.refl _ _).alloc (Nat.le_refl _) _⟩
      cases e
      exact HO.out (by omega)

end Go.Proofs.YtjcagkpolfacpaaDoor

namespace Go.Proofs.YtjcagkpolfacpaaDoor
open Go.RowKit

/-- From w on a reader has been read at most k times more; nothing else that was there has turned. -/
def Drawn (w W : World) (R : Nat) (v : Value) (n p k : Nat) : Prop := ∃ p', p' ≤ p + k ∧ ReaderAt W R v n p' ∧ w.grownBy W (some R)
theorem grown_trans {a b c : World} {row : Option Nat} (h : a.grownBy b row) (k : b.grownBy c row) : a.grownBy c row := by
  obtain ⟨h1, h2, h3, h4, h5⟩ := h
  obtain ⟨k1, k2, k3, k4, k5⟩ := k
  exact ⟨k1.trans h1, k2.trans h2, k3.trans h3, Nat.le_trans h4 k4, fun i hi hr => (k5 i (Nat.lt_of_lt_of_le hi h4) hr).trans (h5 i hi hr)⟩
theorem ReaderAt.lt {w : World} {R n p : Nat} {v : Value} (h : ReaderAt w R v n p) : R < w.heap.size := (Array.getElem?_eq_some_iff.1 h.cells).1
theorem ReaderAt.below {w w' : World} {R n p : Nat} {v : Value} (h : ReaderAt w R v n p) (hb : Below w.heap.size w w') : ReaderAt w' R v n p :=
  ⟨(hb.block _ h.lt).trans h.cells, code_grown h.code h.off (grown_of_below hb _), h.few, h.off⟩
theorem Drawn.start {w : World} {R n p : Nat} {v : Value} (h : ReaderAt w R v n p) : Drawn w w R v n p 0 := ⟨p, by omega, h, ⟨rfl, rfl, rfl, Nat.le_refl _, fun _ _ _ => rfl⟩⟩
theorem Drawn.below {w W W' : World} {R n p k : Nat} {v : Value} (h : Drawn w W R v n p k) (hb : Below W.heap.size W W') : Drawn w W' R v n p k := by
  obtain ⟨p', hp, hr, hg⟩ := h
  exact ⟨p', hp, hr.below hb, grown_trans hg (grown_of_below hb _)⟩
theorem Drawn.alloc {w W : World} {R n p k : Nat} {v : Value} (h : Drawn w W R v n p k) (o : Obj) : Drawn w (W.alloc o) R v n p k := h.below ((Below.refl _ _).alloc (Nat.le_refl _) o)
theorem Drawn.mono {w W : World} {R n p k k' : Nat} {v : Value} (h : Drawn w W R v n p k) (hk : k ≤ k') : Drawn w W R v n p k' := by
  obtain ⟨p', hp, hr⟩ := h
  exact ⟨p', by omega, hr⟩
theorem Drawn.lt {w W : World} {R n p k : Nat} {v : Value} (h : Drawn w W R v n p k) : R < W.heap.size := by
  obtain ⟨p', hp, hr, _⟩ := h
  exact hr.lt
theorem pick_d {w W : World} {R n p k : Nat} {v : Value} {N : Int} (h : Drawn w W R v n p k) (hp : p + k ≤ 1000000) (h1 : 1 ≤ N) (h2 : N ≤ 1000000) :
    Calls Tryd.prog 31 #[.pointer (some ⟨R, 0, none⟩), .int .i64 N] W fun e w' => ∃ x : Int, e = .returned (.int .i64 x) ∧ 0 ≤ x ∧ x < N ∧ Drawn w w' R v n p (k + 1) ∧ W.grownBy w' (some R) := by
  obtain ⟨p', hp', hr, hg⟩ := h
  refine (pick_any R n p' v N W hr (by omega) h1 h2).mono ?_
  rintro e w' ⟨x, ⟨rfl, hx0, hx1⟩, hr', hg'⟩
  exact ⟨x, rfl, hx0, hx1, ⟨p' + 1, by omega, hr', grown_trans hg hg'⟩, hg'⟩
theorem odd_d {w W : World} {R n p k : Nat} {v : Value} {N : Int} (h : Drawn w W R v n p k) (hp : p + k ≤ 1000000) (h1 : 0 ≤ N) (h2 : N ≤ 1000000) :
    Calls Tryd.prog 54 #[.pointer (some ⟨R, 0, none⟩), .int .i64 N] W fun e w' => ∃ b : Bool, e = .returned (.bool b) ∧ Drawn w w' R v n p (k + 1) := by
  obtain ⟨p', hp', hr, hg⟩ := h
  refine (odd_any R n p' v N W hr (by omega) h1 h2).mono ?_
  rintro e w' ⟨b, p2, rfl, hp2, hr', hg'⟩
  exact ⟨b, rfl, p2, by omega, hr', grown_trans hg hg'⟩

/-- A cell of a literal row, read behind a draw. -/
theorem lit_cell {W w' : World} {R : Nat} {cs : Array Value} {t : TypeId} (hR : R < W.heap.size) (hg : (W.alloc (.cells cs t)).grownBy w' (some R)) (j : Nat) (u : Value) (hu : cs[j]? = some u) : w'.cell? ⟨W.heap.size, j, none⟩ = some u := by
  rw [hg.cell_far ⟨W.heap.size, j, none⟩ (by simp) (by simp; omega)]
  exact (cell_of_row _ _ _ _ _ _ (heap_alloc_new W _)).trans hu

theorem lit_size (a : Array UInt8) : (ByteArray.mk a).size = a.size := rfl
theorem zero_or (x : Int) : x = 0 ∨ (x == 0) = false := by
  rcases Decidable.em (x = 0) with h | h
  · exact .inl h
  · exact .inr (by simpa using h)


end Go.Proofs.YtjcagkpolfacpaaDoor

namespace Go.Proofs.YtjcagkpolfacpaaDoor
open Go.RowKit

theorem Drawn.below_base {w w1 w2 : World} {R n p k : Nat} {v : Value} (h : Drawn w1 w2 R v n p k) (hb : Below w.heap.size w w1) (hR : w.heap.size ≤ R) : Below w.heap.size w w2 := by
  obtain ⟨_, _, _, hg⟩ := h
  exact hb.grown hg hb.size (fun j hj => by cases hj; exact hR)



end Go.Proofs.YtjcagkpolfacpaaDoor

namespace Go.Proofs.YtjcagkpolfacpaaDoor
open Go.RowKit

set_option maxHeartbeats 1600000 in
theorem drawCountOf (v : Value) (n : Nat) (w : World) (h : CodeAt w v n) :
    Calls Tryd.prog 15 #[v] w fun e w' => ∃ s : Int, e = .returned (.int .i64 s) ∧ -1 ≤ s ∧ s ≤ 8 ∧ Below w.heap.size w w' := by
  go_enter Tryd.func15, Tryd.ntmps15
  go_wp2_with (first
    | (go_at_call 30; refine (open_any v n _ h).mono ?_; rintro e w1 ⟨rfl, ⟨v', n', hr⟩, hb1⟩; have hd0 := Drawn.start hr)
    | (go_at_call 31; refine (pick_d (hd0.alloc _) (by omega) (by omega) (by omega)).mono ?_; rintro e w2 ⟨y, rfl, hy0, hy1, hend, hg⟩; have hlit := lit_cell hd0.lt hg; obtain rfl | rfl | rfl | rfl | rfl | rfl | rfl | rfl | rfl | rfl | rfl : y = 0 ∨ y = 1 ∨ y = 2 ∨ y = 3 ∨ y = 4 ∨ y = 5 ∨ y = 6 ∨ y = 7 ∨ y = 8 ∨ y = 9 ∨ y = 10 := (by omega); all_goals (have l0 := hlit 0 _ rfl; have l1 := hlit 1 _ rfl; have l2 := hlit 2 _ rfl; have l3 := hlit 3 _ rfl; have l4 := hlit 4 _ rfl; have l5 := hlit 5 _ rfl; have l6 := hlit 6 _ rfl; have l7 := hlit 7 _ rfl; have l8 := hlit 8 _ rfl; have l9 := hlit 9 _ rfl; have l10 := hlit 10 _ rfl)))
  all_goals
    go_ret
    exact ⟨_, rfl, by decide, by decide, hend.below_base hb1 (Nat.le_refl _)⟩
set_option maxHeartbeats 1600000 in
theorem drawWalksOf (v : Value) (n : Nat) (w : World) (h : CodeAt w v n) :
    Calls Tryd.prog 17 #[v] w fun e w' => ∃ s : Int, e = .returned (.int .i64 s) ∧ -1 ≤ s ∧ s ≤ 8 ∧ Below w.heap.size w w' := by
  go_enter Tryd.func17, Tryd.ntmps17
  go_wp2_with (first
    | (go_at_call 30; refine (open_any v n _ h).mono ?_; rintro e w1 ⟨rfl, ⟨v', n', hr⟩, hb1⟩; have hd0 := Drawn.start hr)
    | (go_at_call 31; refine (pick_d (hd0.alloc _) (by omega) (by omega) (by omega)).mono ?_; rintro e w2 ⟨y, rfl, hy0, hy1, hend, hg⟩; have hlit := lit_cell hd0.lt hg; obtain rfl | rfl | rfl | rfl | rfl | rfl | rfl | rfl | rfl | rfl : y = 0 ∨ y = 1 ∨ y = 2 ∨ y = 3 ∨ y = 4 ∨ y = 5 ∨ y = 6 ∨ y = 7 ∨ y = 8 ∨ y = 9 := (by omega); all_goals (have l0 := hlit 0 _ rfl; have l1 := hlit 1 _ rfl; have l2 := hlit 2 _ rfl; have l3 := hlit 3 _ rfl; have l4 := hlit 4 _ rfl; have l5 := hlit 5 _ rfl; have l6 := hlit 6 _ rfl; have l7 := hlit 7 _ rfl; have l8 := hlit 8 _ rfl; have l9 := hlit 9 _ rfl)))
  all_goals
    go_ret
    exact ⟨_, rfl, by decide, by decide, hend.below_base hb1 (Nat.le_refl _)⟩
end Go.Proofs.YtjcagkpolfacpaaDoor

namespace Go.Proofs.YtjcagkpolfacpaaDoor
open Go.RowKit

theorem strs_cell {w : World} {v : Value} {zs : List ByteArray} {a : Option Addr} {c : Nat} (h : StrsAt w v zs) (hv : v = .slice a zs.length c) {j : Nat} (hj : j < zs.length) : ∃ b z, a = some b ∧ zs[j]? = some z ∧ w.cell? (b.add j) = some (.string z) := by
  rcases h with ⟨rfl, rfl⟩ | ⟨b, cap, rfl, hl, hc⟩
  · simp at hj
  · cases hv
    exact ⟨b, zs[j], rfl, List.getElem?_eq_getElem hj, hc j _ (List.getElem?_eq_getElem hj)⟩
theorem take_same {ys zs : List ByteArray} {j : Nat} {y : ByteArray} (h : ys.take j = zs.take j) (hy : ys[j]? = some y) (hz : zs[j]? = some y) : ys.take (j + 1) = zs.take (j + 1) := by
  rw [List.take_add_one, List.take_add_one, h, hy, hz]
set_option maxHeartbeats 800000 in
theorem sameTexts_any (v u : Value) (ys zs : List ByteArray) (w : World) (hv : StrsAt w v ys) (hu : StrsAt w u zs) (hm : zs.length ≤ 1048577) :
    Calls Tryd.prog 18 #[v, u] w fun e w' => e = .returned (.bool (decide (ys = zs))) ∧ Below w.heap.size w w' := by
  obtain ⟨a, c, rfl⟩ := strs_value hv
  obtain ⟨b, d, rfl⟩ := strs_value hu
  have HV := Lib.hid hv
  have HU := Lib.hid hu
  clear hv hu
  by_cases hlen : ys.length = zs.length
  · obtain ⟨n, hN⟩ : ∃ n, zs.length = n := ⟨_, rfl⟩
    have HY := Lib.hid (hlen.trans hN)
    have HZ := Lib.hid hN
    rw [hN] at hlen
    rw [hlen, hN]
    rw [hN] at hm
    clear hlen hN
    go_enter Tryd.func18, Tryd.ntmps18
    go_wp2
    go_loopw [5] (fun i wr => ∃ j : Nat, j ≤ n ∧ i = .int .i64 j ∧ Hid (ys.take j = zs.take j) ∧ Below w.heap.size w wr) (fun i _ => n - (intOf i).toNat)
    case atStart => exact ⟨0, Nat.zero_le _, rfl, rfl, Below.refl _ _⟩
    case round =>
      obtain ⟨j, hj, rfl, HT, hb⟩ := hrel
      by_cases hlt : j < n
      · have hk3 : (0 : Int) ≤ (j : Int) := by omega
        have hk4 : (j : Int) < (n : Int) := by omega
        obtain ⟨a1, y, rfl, hy, c1⟩ := strs_cell (HV.out.below' hb) (by rw [HY.out]) (by rw [HY.out]; exact hlt)
        obtain ⟨b1, z, rfl, hz, c2⟩ := strs_cell (HU.out.below' hb) (by rw [HZ.out]) (by rw [HZ.out]; exact hlt)
        have HYJ := Lib.hid hy
        have HZJ := Lib.hid hz
        clear hy hz
        cases hyz : decide (y = z)
        · have he := (eq_bytes y z).trans hyz
          have HYZ := Lib.hid (of_decide_eq_false hyz)
          clear hyz
          go_wp2_with fail
          go_quiet (fail)
          go_wp2
          go_ret
          refine ⟨?_, below_drewN hb _⟩
          have hne : ys ≠ zs := fun e => HYZ.out (by have h1 := HYJ.out; rw [e, HZJ.out] at h1; exact (Option.some.inj h1).symm)
          simp [hne]
        · have he := (eq_bytes y z).trans hyz
          have HYZ := Lib.hid (of_decide_eq_true hyz)
          clear hyz
          go_wp2_with fail
          go_quiet (fail)
          go_wp2
          go_roundw
          case rel => exact ⟨j + 1, by omega, by go_num, take_same HT.out HYJ.out (HYZ.out ▸ HZJ.out), below_drewN hb _⟩
          case measure => simp [intOf]; omega
      · obtain rfl : j = n := by omega
        go_wp2_with fail
        go_ret
        refine ⟨?_, hb⟩
        have h1 := HT.out
        rw [List.take_of_length_le (by rw [HY.out]; exact Nat.le_refl _), List.take_of_length_le (by rw [HZ.out]; exact Nat.le_refl _)] at h1
        simp [h1]
  · have hne : ys ≠ zs := fun e => hlen (by rw [e])
    have hlen2 : (ys.length : Int) ≠ zs.length := by omega
    go_enter Tryd.func18, Tryd.ntmps18
    go_wp2
    go_ret
    exact ⟨by simp [hne], Below.refl _ _⟩
end Go.Proofs.YtjcagkpolfacpaaDoor

namespace Go.Proofs.YtjcagkpolfacpaaDoor
open Go.RowKit

set_option maxHeartbeats 800000 in
theorem word_yes (w : World) : Calls Tryd.prog 32 #[.string ⟨#[70, 76, 82]⟩] w fun e w' => e = .returned (.bool true) ∧ w = w' := by
  go_enter Tryd.func32, Tryd.ntmps32
  go_wp2
  refine wp_loop_rounds 4 ?_
  rw [rounds_succ]
  go_wp2
  rw [rounds_succ]
  go_wp2
  rw [rounds_succ]
  go_wp2
  rw [rounds_succ]
  go_wp2
  go_ret
  exact ⟨rfl, rfl⟩

set_option maxHeartbeats 800000 in
theorem word_no (w : World) : Calls Tryd.prog 32 #[.string ⟨#[88]⟩] w fun e w' => e = .returned (.bool false) ∧ w = w' := by
  go_enter Tryd.func32, Tryd.ntmps32
  go_wp2
  refine wp_loop_rounds 1 ?_
  rw [rounds_succ]
  go_wp2
  go_ret
  exact ⟨rfl, rfl⟩

set_option maxHeartbeats 800000 in
theorem alive_yes (w : World) : Calls Tryd.prog 16 #[] w fun e w' => e = .returned (.bool true) ∧ w = w' := by
  go_enter Tryd.func16, Tryd.ntmps16
  go_wp2_with (go_at_call 32; first
    | (have hq := st1; refine (word_no _).mono ?_; rintro e w' ⟨rfl, rfl⟩)
    | (refine (word_yes _).mono ?_; rintro e w' ⟨rfl, rfl⟩; have st1 := True.intro))
  go_ret
  exact ⟨rfl, rfl⟩

end Go.Proofs.YtjcagkpolfacpaaDoor

namespace Go.Proofs.YtjcagkpolfacpaaDoor
open Go.ChangeShapes Go.WideShapes Go.ChangeAt Go.RowKit Go.WideMaps Go.WideElems

set_option maxRecDepth 100000 in
theorem open_code {H : Type} {enc : TypeId × Value → H} {W : World} {base : Nat} {spare : Nat → Bool} {held : Bool} {r : Reach} {b0 : Nat} {v : Value} {d : DataW H} {p : List MemPlace} (hv : Value.okWide Tryd.prog W r b0 28 v) (h : DataW.Trod enc Tryd.prog W base spare held 28 v d p) :
    ∃ n, CodeAt W v n := by
  obtain ⟨a0, l0, c0, rfl⟩ := okWide_slice Tryd.underlying28 hv
  obtain ⟨fuel, hf⟩ := h
  rcases Go.ChangeShapes.open_ints Tryd.underlying28 Tryd.underlying5 (by kernel_rfl) hf with ⟨hv1, _⟩ | ⟨a, len, cap, zs, hv1, _, hl, _, hlen, _, hc, hzs⟩
  · simp [Value.cells] at hv1
    obtain ⟨rfl, rfl, rfl⟩ := hv1
    exact ⟨0, .inl ⟨rfl, rfl⟩⟩
  · simp [Value.cells] at hv1
    obtain ⟨rfl, rfl, rfl⟩ := hv1
    refine ⟨l0, .inr ⟨a, c0, rfl, hl, fun j hj => ?_⟩⟩
    have hj2 : j < zs.length := by rw [hlen]; split <;> omega
    have hw := hzs _ (List.getElem_mem hj2)
    have hcj := hc j hj2
    rw [List.getD, List.getElem?_eq_getElem hj2, Option.getD_some] at hcj
    refine ⟨_, ?_, ?_, hcj⟩ <;> (have := hw; simp [Lit.wf, IntKind.min, IntKind.max, IntKind.signed, IntKind.bits] at this; omega)

end Go.Proofs.YtjcagkpolfacpaaDoor

namespace Go.Proofs.YtjcagkpolfacpaaDoor.fnWalksOf
open Go.ChangeShapes Go.WideShapes Go.ChangeAt Go.RowKit Go.WideMaps Go.WideElems
open Go.ChangeMaps (open_string shut_string)

theorem same_yes (v u : Value) (zs : List ByteArray) (w : World) (hv : StrsAt w v zs) (hu : StrsAt w u zs) (hm : zs.length ≤ 1048577) :
    Calls Tryd.prog 18 #[v, u] w fun e w' => e = .returned (.bool true) ∧ Below w.heap.size w w' := by
  have := sameTexts_any v u zs zs w hv hu hm
  rwa [decide_eq_true rfl] at this
theorem count_pos {N : Nat} (hN : N ≤ 7) : 1 ≤ Tw.countOf N := by
  have h2 := congrArg (fun l : List Nat => l[N]?) Tw.counts
  simp only [List.getElem?_map, List.getElem?_range (show N < 8 by omega), Option.map_some] at h2
  obtain rfl | rfl | rfl | rfl | rfl | rfl | rfl | rfl : N = 0 ∨ N = 1 ∨ N = 2 ∨ N = 3 ∨ N = 4 ∨ N = 5 ∨ N = 6 ∨ N = 7 := by omega
  all_goals
    have := Option.some.inj h2
    omega

set_option maxRecDepth 100000 in
set_option maxHeartbeats 6400000 in
theorem walk (v : Value) (n : Nat) (w : World) (hw : DirsAt w) (h : CodeAt w v n) :
    Calls Tryd.prog 6 #[v] w fun e w' => e = .returned (.bool true) ∧ Below w.heap.size w w' := by
  have hdraw := drawWalksOf v n w h
  have hv : ∃ a cap, v = .slice a n cap := by
    rcases h with ⟨rfl, rfl⟩ | ⟨a, cap, rfl, _⟩
    · exact ⟨_, _, rfl⟩
    · exact ⟨_, _, rfl⟩
  obtain ⟨a, cap, rfl⟩ := hv
  have HD := Lib.hid hdraw
  have HWW := Lib.hid hw
  clear hdraw h hw
  by_cases hn : n ≤ 1048576
  · go_enter Tryd.func6, Tryd.ntmps6
    go_upto_region 4 with (go_at_call 17; refine HD.out.mono ?_; rintro e w1 ⟨s, rfl, hs0, hs1, hb1⟩)
    have HW1 := Lib.hid (HWW.out.below' hb1)
    obtain ⟨zs, hzs⟩ : ∃ zs, walksI s = zs := ⟨_, rfl⟩
    have hfew := walksI_few s
    have him : ∀ W, DirsAt W → Calls Tryd.prog 11 #[.int .i64 s] W (TextsOut W zs) := fun W hW => hzs ▸ implWalks s W hW
    have hsp : ∀ W, Calls Tryd.prog 10 #[.int .i64 s] W (TextsOut W zs) := fun W => hzs ▸ specWalks s W
    rw [hzs] at hfew
    obtain ⟨L, hL⟩ : ∃ L, zs.length = L := ⟨_, rfl⟩
    have HIM := Lib.hid him
    have HSP := Lib.hid hsp
    have HL := Lib.hid hL
    have HZS := Lib.hid hzs
    rw [hL] at hfew
    clear him hsp hL hzs
    go_upto_region 7 with (first
      | (go_at_call 11; refine (HIM.out _ HW1.out).mono ?_; rintro e w2 ⟨v2, rfl, hp2, hf2, hb2⟩; obtain ⟨a2, c2, hv2⟩ := past_slice hp2 HL.out; subst hv2; have P2 := Lib.hid hp2; have E2 : Hid (Ext w1 w2) := hb2; clear hp2 hb2)
      | (go_at_call 10; refine (HSP.out _).mono ?_; rintro e w3 ⟨v3, rfl, hp3, hf3, hb3⟩; obtain ⟨a3, c3, hv3⟩ := past_slice hp3 HL.out; subst hv3; have P3 := Lib.hid hp3; have Q3 := Lib.hid (P2.out.below hb3); have E3 : Hid (Ext w1 w3) := Ext.call E2.out hb3; clear hp3 hb3)
      | (go_at_call 18; refine (same_yes _ _ zs _ Q3.out.strs P3.out.strs (by rw [HL.out]; omega)).mono ?_; rintro e w4 ⟨rfl, hb4⟩; have Q4 := Lib.hid (Q3.out.below hb4); have E4 : Hid (Ext w1 w4) := Ext.call E3.out hb4; clear hb4))
    by_cases hin : 0 ≤ s ∧ s ≤ 5
    rotate_left
    · have h0 : L = 0 := by
        rw [← HL.out, ← HZS.out]
        unfold walksI
        rw [if_neg hin]
        rfl
      subst h0
      have hor : s < 0 ∨ (0 ≤ s ∧ 5 < s) := by omega
      clear hin hfew hs0 hs1
      rcases hor with h9 | ⟨h9, h8⟩
      all_goals
        go_wp2_with (first
          | (go_at_call 16; refine (alive_yes _).mono ?_; rintro e w' ⟨rfl, rfl⟩))
        go_ret
        exact ⟨rfl, Ext.below hb1 E4.out hb1.size⟩
    · obtain ⟨N, rfl⟩ := Int.eq_ofNat_of_zero_le hin.1
      have hN5 : N ≤ 5 := by omega
      obtain ⟨ts, hts⟩ : ∃ ts, Tw.onWalks [] N = ts := ⟨_, rfl⟩
      have hz : zs = ts.map Tw.str := by rw [← HZS.out, ← hts]; unfold walksI; rw [if_pos hin]; rfl
      have hlen : ts.length = L := by rw [← HL.out, hz, List.length_map]
      have hcount : Tw.countOf N = L := by rw [← hlen, ← hts, Tw.countOf_eq (by omega)]
      have hpos : 0 < L := by rw [← hcount]; exact count_pos (by omega)
      have hall : ∀ z ∈ ts, Tw.avoids z = true ∧ z.length = N := fun z hz9 => by
        rw [← hts] at hz9
        have := Tw.onWalks_avoid N Tw.avoids_nil hz9
        simpa using this
      have hasc : Tw.ascends ts = true := by rw [← hts]; exact Tw.walks_ascend hN5
      have HCNT : Hid (∀ X, Ext w1 X → Calls Tryd.prog 9 #[.int .i64 (N : Int)] X fun e w' => e = .returned (.int .i64 (L : Int)) ∧ Below X.heap.size X w') := fun X hX => by
        have := implCount (N : Int) X (HW1.out.below' hX)
        unfold Tw.countI at this
        rw [if_pos (by omega), Int.toNat_natCast, hcount] at this
        exact this
      have HAVA : Hid (∀ (z : Tw.Tx) (X : World), z ∈ ts → Ext w1 X → Calls Tryd.prog 19 #[.string (Tw.str z)] X fun e w' => e = .returned (.bool true) ∧ Below X.heap.size X w') := fun z X hzm hX =>
        implAvoidsOk_is (Tw.str z) X (by rw [Tw.str_size, (hall z hzm).2]; omega) (HW1.out.below' hX) true (by rw [Tw.str_data]; exact (hall z hzm).1)
      have HSZ : Hid (∀ z ∈ ts, (Tw.str z).size = N) := fun z hzm => by rw [Tw.str_size, (hall z hzm).2]
      have HZ := Lib.hid hz
      have HLT := Lib.hid hlen
      have HASC := Lib.hid hasc
      have hpos' : ((L : Int) == 0) = false := by simp; omega
      obtain ⟨ad, had⟩ : ∃ ad, a2 = some ad := by
        obtain ⟨b, _, h9, _⟩ := strs_cell Q4.out.strs (by rw [HL.out]) (j := 0) (by rw [HL.out]; exact hpos)
        exact ⟨b, h9⟩
      subst had
      have HC : Hid (∀ X, Ext w4 X → ∀ (j : Nat) (z : Tw.Tx), ts[j]? = some z → X.cell? (ad.add j) = some (.string (Tw.str z))) := fun X hX j z hj => by
        have hlt := (List.getElem?_eq_some_iff.1 hj).1
        obtain ⟨b, y, h9, h10, h11⟩ := strs_cell (hX.past Q4.out).strs (by rw [HL.out]) (j := j) (by rw [HL.out, ← HLT.out]; exact hlt)
        obtain rfl := Option.some.inj h9
        rw [HZ.out, List.getElem?_map, hj] at h10
        rw [h11, ← Option.some.inj h10]
      have hlen0 : ¬ ((N : Int) < 0) := by omega
      clear hpos hz hlen hts hcount hall hasc hin
      go_wp2_with fail
      go_loopw [5] (fun i wr => ∃ (k : Nat) (x : Int), k ≤ L ∧ i = .int .i64 x ∧ Hid (x = (k : Int)) ∧ Ext w4 wr) (fun i _ => L - (intOf i).toNat)
      case atStart => exact ⟨0, 0, Nat.zero_le _, rfl, rfl, Ext.refl _⟩
      case round =>
        obtain ⟨k, x, hk, rfl, HXK, hE⟩ := hrel
        by_cases hlt : k < L
        · obtain ⟨z, hz⟩ : ∃ z, ts[k]? = some z := ⟨ts[k]'(by rw [HLT.out]; exact hlt), List.getElem?_eq_getElem (by rw [HLT.out]; exact hlt)⟩
          have HZK := Lib.hid hz
          have HZM := Lib.hid (List.mem_of_getElem? hz)
          have hsz := HSZ.out z HZM.out
          have E4w := Lib.hid (E4.out.trans hE)
          have HAVZ : Hid (∀ X, Ext w1 X → Calls Tryd.prog 19 #[.string (Tw.str z)] X fun e w' => e = .returned (.bool true) ∧ Below X.heap.size X w') := fun X hX => HAVA.out z X HZM.out hX
          have HCK : Hid (∀ X, Ext wr X → X.cell? (ad.add k) = some (.string (Tw.str z))) := fun X hX => HC.out X (hE.trans hX) k z HZK.out
          have hk3 : (0 : Int) ≤ (k : Int) := by omega
          have hk4 : (k : Int) < (L : Int) := by omega
          clear hz
          have hkk : (k = 0) ∨ ∃ j, k = j + 1 := by
            cases k with
            | zero => exact .inl rfl
            | succ j => exact .inr ⟨j, rfl⟩
          rcases hkk with hk0 | ⟨j, hj⟩
          · subst hk0
            obtain rfl : x = 0 := HXK.out
            have HC0 : Hid (∀ X, Ext wr X → X.cell? ad = some (.string (Tw.str z))) := fun X hX => by have := HCK.out X hX; rwa [show ad.add 0 = ad from by cases ad; unfold Addr.add; split <;> simp_all] at this
            clear hk3 hk4
            go_upto_region 12 with (fail)
            refine wp_region_held_drew (S := fun w' => w'.cell? ad = some (.string (Tw.str z))) (by kernel_rfl) (HC0.out _ (Ext.refl _).drew) (fun hHeld => ?_)
            refine wpAnyH_take (i := 0) (v := .slice (some ad) L c2) rfl (by kernel_rfl) (by kernel_rfl) (by kernel_rfl) (fun _ _ _ h => h) (Or.inl ⟨by kernel_rfl, ?_⟩) (by assumption) ?_
            · intro w hSw
              (try dsimp only at hSw)
              go_simp
            change wpAnyH _ _ _ _ _ _ _ (Act.put _ (some 36) _) _
            simp only [Act.put, List.setIfInBounds_toArray, List.set_cons_zero, List.set_cons_succ]
            refine wpAnyH_take (i := 1) (v := .int .i64 0) rfl (by kernel_rfl) (by kernel_rfl) (by kernel_rfl) (fun _ _ _ h => h) (Or.inl ⟨by kernel_rfl, ?_⟩) (by assumption) ?_
            · intro w hSw
              (try dsimp only at hSw)
              go_simp
            change wpAnyH _ _ _ _ _ _ _ (Act.put _ (some 37) _) _
            simp only [Act.put, List.setIfInBounds_toArray, List.set_cons_zero, List.set_cons_succ]
            refine wpAnyH_take (i := 2) (v := .pointer (some ad)) rfl (by kernel_rfl) (by kernel_rfl) (by kernel_rfl) (fun _ _ _ h => h) (Or.inl ⟨by kernel_rfl, ?_⟩) (by assumption) ?_
            · intro w hSw
              (try dsimp only at hSw)
              go_simp
            change wpAnyH _ _ _ _ _ _ _ (Act.put _ (some 38) _) _
            simp only [Act.put, List.setIfInBounds_toArray, List.set_cons_zero, List.set_cons_succ]
            refine wpAnyH_take (i := 3) (v := .string (Tw.str z)) rfl (by kernel_rfl) (by kernel_rfl) (by kernel_rfl) (fun _ _ _ h => h) (Or.inl ⟨by kernel_rfl, ?_⟩) (by assumption) ?_
            · intro w hSw
              (try dsimp only at hSw)
              go_simp
            change wpAnyH _ _ _ _ _ _ _ (Act.put _ (some 39) _) _
            simp only [Act.put, List.setIfInBounds_toArray, List.set_cons_zero, List.set_cons_succ]
            refine wpAnyH_ready (rs := [4]) (by kernel_rfl) (by simp) ?_
            refine AllReadyH.cons rfl (fun K hK => ?_) AllReadyH.nil
            go_simp
            go_at_call 19
            refine (HAVZ.out _ (E4w.out.trans (Ext.refl _).drew)).mono ?_
            rintro e wA ⟨rfl, hbA⟩
            have eA : Ext wr wA := Ext.call (Ext.refl _).drew hbA
            clear hbA
            go_wp2_with fail
            refine hK.out _ _ (HC0.out _ eA) (fun hHeld => ?_)
            clear hK K
            try simp only [Act.put, List.setIfInBounds_toArray, List.set_cons_zero, List.set_cons_succ]
            refine wpAnyH_take (i := 5) (v := .bool false) rfl (by kernel_rfl) (by kernel_rfl) (by kernel_rfl) (fun _ _ _ h => h) (Or.inl ⟨by kernel_rfl, ?_⟩) (by assumption) ?_
            · intro w hSw
              (try dsimp only at hSw)
              go_simp
            change wpAnyH _ _ _ _ _ _ _ (Act.put _ (some 41) _) _
            simp only [Act.put, List.setIfInBounds_toArray, List.set_cons_zero, List.set_cons_succ]
            refine wpAnyH_take (i := 6) (v := .bool false) rfl (by kernel_rfl) (by kernel_rfl) (by kernel_rfl) (fun _ _ _ h => h) (Or.inl ⟨by kernel_rfl, ?_⟩) (by assumption) ?_
            · intro w hSw
              (try dsimp only at hSw)
              go_simp
            change wpAnyH _ _ _ _ _ _ _ (Act.put _ (some 42) _) _
            simp only [Act.put, List.setIfInBounds_toArray, List.set_cons_zero, List.set_cons_succ]
            refine wpAnyH_take (i := 7) (v := .slice (some ad) L c2) rfl (by kernel_rfl) (by kernel_rfl) (by kernel_rfl) (fun _ _ _ h => h) (Or.inl ⟨by kernel_rfl, ?_⟩) (by assumption) ?_
            · intro w hSw
              (try dsimp only at hSw)
              go_simp
            change wpAnyH _ _ _ _ _ _ _ (Act.put _ (some 43) _) _
            simp only [Act.put, List.setIfInBounds_toArray, List.set_cons_zero, List.set_cons_succ]
            refine wpAnyH_take (i := 8) (v := .int .i64 0) rfl (by kernel_rfl) (by kernel_rfl) (by kernel_rfl) (fun _ _ _ h => h) (Or.inl ⟨by kernel_rfl, ?_⟩) (by assumption) ?_
            · intro w hSw
              (try dsimp only at hSw)
              go_simp
            change wpAnyH _ _ _ _ _ _ _ (Act.put _ (some 44) _) _
            simp only [Act.put, List.setIfInBounds_toArray, List.set_cons_zero, List.set_cons_succ]
            refine wpAnyH_take (i := 9) (v := .pointer (some ad)) rfl (by kernel_rfl) (by kernel_rfl) (by kernel_rfl) (fun _ _ _ h => h) (Or.inl ⟨by kernel_rfl, ?_⟩) (by assumption) ?_
            · intro w hSw
              (try dsimp only at hSw)
              go_simp
            change wpAnyH _ _ _ _ _ _ _ (Act.put _ (some 45) _) _
            simp only [Act.put, List.setIfInBounds_toArray, List.set_cons_zero, List.set_cons_succ]
            refine wpAnyH_take (i := 10) (v := .string (Tw.str z)) rfl (by kernel_rfl) (by kernel_rfl) (by kernel_rfl) (fun _ _ _ h => h) (Or.inl ⟨by kernel_rfl, ?_⟩) (by assumption) ?_
            · intro w hSw
              (try dsimp only at hSw)
              go_simp
            change wpAnyH _ _ _ _ _ _ _ (Act.put _ (some 46) _) _
            simp only [Act.put, List.setIfInBounds_toArray, List.set_cons_zero, List.set_cons_succ]
            refine wpAnyH_take (i := 11) (v := .int .i64 (N : Int)) rfl (by kernel_rfl) (by kernel_rfl) (by kernel_rfl) (fun _ _ _ h => h) (Or.inl ⟨by kernel_rfl, ?_⟩) (by assumption) ?_
            · intro w hSw
              (try dsimp only at hSw)
              go_simp
            change wpAnyH _ _ _ _ _ _ _ (Act.put _ (some 47) _) _
            simp only [Act.put, List.setIfInBounds_toArray, List.set_cons_zero, List.set_cons_succ]
            refine wpAnyH_take (i := 12) (v := .int .i64 (N : Int)) rfl (by kernel_rfl) (by kernel_rfl) (by kernel_rfl) (fun _ _ _ h => h) (Or.inl ⟨by kernel_rfl, ?_⟩) (by assumption) ?_
            · intro w hSw
              (try dsimp only at hSw)
              go_simp
            change wpAnyH _ _ _ _ _ _ _ (Act.put _ (some 48) _) _
            simp only [Act.put, List.setIfInBounds_toArray, List.set_cons_zero, List.set_cons_succ]
            refine wpAnyH_take (i := 13) (v := .bool false) rfl (by kernel_rfl) (by kernel_rfl) (by kernel_rfl) (fun _ _ _ h => h) (Or.inl ⟨by kernel_rfl, ?_⟩) (by assumption) ?_
            · intro w hSw
              (try dsimp only at hSw)
              go_simp
            change wpAnyH _ _ _ _ _ _ _ (Act.put _ (some 49) _) _
            simp only [Act.put, List.setIfInBounds_toArray, List.set_cons_zero, List.set_cons_succ]
            refine wpAnyH_take (i := 14) (v := .bool false) rfl (by kernel_rfl) (by kernel_rfl) (by kernel_rfl) (fun _ _ _ h => h) (Or.inl ⟨by kernel_rfl, ?_⟩) (by assumption) ?_
            · intro w hSw
              (try dsimp only at hSw)
              go_simp
            change wpAnyH _ _ _ _ _ _ _ (Act.put _ (some 50) _) _
            simp only [Act.put, List.setIfInBounds_toArray, List.set_cons_zero, List.set_cons_succ]
            refine wpAnyH_take (i := 15) (v := .bool false) rfl (by kernel_rfl) (by kernel_rfl) (by kernel_rfl) (fun _ _ _ h => h) (Or.inl ⟨by kernel_rfl, ?_⟩) (by assumption) ?_
            · intro w hSw
              (try dsimp only at hSw)
              go_simp
            change wpAnyH _ _ _ _ _ _ _ (Act.put _ (some 51) _) _
            simp only [Act.put, List.setIfInBounds_toArray, List.set_cons_zero, List.set_cons_succ]
            refine wpAnyH_take (i := 16) (v := .int .i64 0) rfl (by kernel_rfl) (by kernel_rfl) (by kernel_rfl) (fun _ _ _ h => h) (Or.inl ⟨by kernel_rfl, ?_⟩) (by assumption) ?_
            · intro w hSw
              (try dsimp only at hSw)
              go_simp
            change wpAnyH _ _ _ _ _ _ _ (Act.put _ (some 52) _) _
            simp only [Act.put, List.setIfInBounds_toArray, List.set_cons_zero, List.set_cons_succ]
            refine wpAnyH_take (i := 17) (v := .bool false) rfl (by kernel_rfl) (by kernel_rfl) (by kernel_rfl) (fun _ _ _ h => h) (Or.inl ⟨by kernel_rfl, ?_⟩) (by assumption) ?_
            · intro w hSw
              (try dsimp only at hSw)
              go_simp
            change wpAnyH _ _ _ _ _ _ _ (Act.put _ (some 53) _) _
            simp only [Act.put, List.setIfInBounds_toArray, List.set_cons_zero, List.set_cons_succ]
            refine wpAnyH_take (i := 18) (v := .bool false) rfl (by kernel_rfl) (by kernel_rfl) (by kernel_rfl) (fun _ _ _ h => h) (Or.inl ⟨by kernel_rfl, ?_⟩) (by assumption) ?_
            · intro w hSw
              (try dsimp only at hSw)
              go_simp
            change wpAnyH _ _ _ _ _ _ _ (Act.put _ (some 54) _) _
            simp only [Act.put, List.setIfInBounds_toArray, List.set_cons_zero, List.set_cons_succ]
            refine wpAnyH_take (i := 19) (v := undef) rfl (by kernel_rfl) (by kernel_rfl) (by kernel_rfl) (fun _ _ _ h => h) (Or.inr ⟨by kernel_rfl, rfl⟩) (by assumption) ?_
            change wpAnyH _ _ _ _ _ _ _ (Act.put _ (some 55) _) _
            simp only [Act.put, List.setIfInBounds_toArray, List.set_cons_zero, List.set_cons_succ]
            refine wpAnyH_take (i := 20) (v := undef) rfl (by kernel_rfl) (by kernel_rfl) (by kernel_rfl) (fun _ _ _ h => h) (Or.inr ⟨by kernel_rfl, rfl⟩) (by assumption) ?_
            change wpAnyH _ _ _ _ _ _ _ (Act.put _ (some 56) _) _
            simp only [Act.put, List.setIfInBounds_toArray, List.set_cons_zero, List.set_cons_succ]
            refine wpAnyH_take (i := 21) (v := undef) rfl (by kernel_rfl) (by kernel_rfl) (by kernel_rfl) (fun _ _ _ h => h) (Or.inr ⟨by kernel_rfl, rfl⟩) (by assumption) ?_
            change wpAnyH _ _ _ _ _ _ _ (Act.put _ (some 57) _) _
            simp only [Act.put, List.setIfInBounds_toArray, List.set_cons_zero, List.set_cons_succ]
            refine wpAnyH_take (i := 22) (v := undef) rfl (by kernel_rfl) (by kernel_rfl) (by kernel_rfl) (fun _ _ _ h => h) (Or.inr ⟨by kernel_rfl, rfl⟩) (by assumption) ?_
            change wpAnyH _ _ _ _ _ _ _ (Act.put _ (some 58) _) _
            simp only [Act.put, List.setIfInBounds_toArray, List.set_cons_zero, List.set_cons_succ]
            refine wpAnyH_take (i := 23) (v := undef) rfl (by kernel_rfl) (by kernel_rfl) (by kernel_rfl) (fun _ _ _ h => h) (Or.inr ⟨by kernel_rfl, rfl⟩) (by assumption) ?_
            change wpAnyH _ _ _ _ _ _ _ (Act.put _ (some 59) _) _
            simp only [Act.put, List.setIfInBounds_toArray, List.set_cons_zero, List.set_cons_succ]
            refine wpAnyH_take (i := 24) (v := undef) rfl (by kernel_rfl) (by kernel_rfl) (by kernel_rfl) (fun _ _ _ h => h) (Or.inr ⟨by kernel_rfl, rfl⟩) (by assumption) ?_
            change wpAnyH _ _ _ _ _ _ _ (Act.put _ (some 60) _) _
            simp only [Act.put, List.setIfInBounds_toArray, List.set_cons_zero, List.set_cons_succ]
            refine wpAnyH_take (i := 25) (v := undef) rfl (by kernel_rfl) (by kernel_rfl) (by kernel_rfl) (fun _ _ _ h => h) (Or.inr ⟨by kernel_rfl, rfl⟩) (by assumption) ?_
            change wpAnyH _ _ _ _ _ _ _ (Act.put _ (some 61) _) _
            simp only [Act.put, List.setIfInBounds_toArray, List.set_cons_zero, List.set_cons_succ]
            refine wpAnyH_take (i := 26) (v := undef) rfl (by kernel_rfl) (by kernel_rfl) (by kernel_rfl) (fun _ _ _ h => h) (Or.inr ⟨by kernel_rfl, rfl⟩) (by assumption) ?_
            change wpAnyH _ _ _ _ _ _ _ (Act.put _ (some 62) _) _
            simp only [Act.put, List.setIfInBounds_toArray, List.set_cons_zero, List.set_cons_succ]
            refine wpAnyH_take (i := 27) (v := undef) rfl (by kernel_rfl) (by kernel_rfl) (by kernel_rfl) (fun _ _ _ h => h) (Or.inr ⟨by kernel_rfl, rfl⟩) (by assumption) ?_
            change wpAnyH _ _ _ _ _ _ _ (Act.put _ (some 63) _) _
            simp only [Act.put, List.setIfInBounds_toArray, List.set_cons_zero, List.set_cons_succ]
            refine wpAnyH_take (i := 28) (v := undef) rfl (by kernel_rfl) (by kernel_rfl) (by kernel_rfl) (fun _ _ _ h => h) (Or.inr ⟨by kernel_rfl, rfl⟩) (by assumption) ?_
            change wpAnyH _ _ _ _ _ _ _ (Act.put _ (some 64) _) _
            simp only [Act.put, List.setIfInBounds_toArray, List.set_cons_zero, List.set_cons_succ]
            refine wpAnyH_take (i := 29) (v := .bool false) rfl (by kernel_rfl) (by kernel_rfl) (by kernel_rfl) (fun _ _ _ h => h) (Or.inl ⟨by kernel_rfl, ?_⟩) (by assumption) ?_
            · intro w hSw
              (try dsimp only at hSw)
              go_simp
            change wpAnyH _ _ _ _ _ _ _ (Act.put _ (some 65) _) _
            simp only [Act.put, List.setIfInBounds_toArray, List.set_cons_zero, List.set_cons_succ]
            refine wpAnyH_take (i := 30) (v := .bool false) rfl (by kernel_rfl) (by kernel_rfl) (by kernel_rfl) (fun _ _ _ h => h) (Or.inl ⟨by kernel_rfl, ?_⟩) (by assumption) ?_
            · intro w hSw
              (try dsimp only at hSw)
              go_simp
            change wpAnyH _ _ _ _ _ _ _ (Act.put _ (some 66) _) _
            simp only [Act.put, List.setIfInBounds_toArray, List.set_cons_zero, List.set_cons_succ]
            refine wpAnyH_done (by kernel_rfl) ?_ _
            go_wp2
            go_roundw
            case rel => exact ⟨1, 1, by omega, rfl, rfl, hE.trans eA⟩
            case measure => simp [intOf]; omega
          · obtain ⟨y, hy⟩ : ∃ y, ts[j]? = some y := ⟨ts[j]'(by rw [HLT.out]; omega), List.getElem?_eq_getElem (by rw [HLT.out]; omega)⟩
            have hyz : y < z := Tw.ascends_at ts j y z HASC.out hy (by rw [← hj]; exact HZK.out)
            have HCJ : Hid (∀ X, Ext wr X → X.cell? (ad.add k) = some (.string (Tw.str z)) ∧ X.cell? (ad.add j) = some (.string (Tw.str y))) := fun X hX => ⟨HCK.out X hX, HC.out X (hE.trans hX) j y hy⟩
            have l1 : Op.bytesLess (Tw.str z).toList (Tw.str y).toList = false := (less_str z y).trans (decide_eq_false (Tw.lt_asymm' hyz))
            have l2 : ((Tw.str z).toList == (Tw.str y).toList) = false := by
              rw [eq_bytes]
              refine decide_eq_false (fun h9 => ?_)
              have := congrArg (fun q : ByteArray => q.data.toList) h9
              simp only [Tw.str_data] at this
              rw [this] at hyz
              exact Tw.lt_irrefl' _ hyz
            have k6 : decide ((0 : Int) < (k : Int)) = true := by simp; omega
            have k5 : decide (0 < k) = true := by simp; omega
            have k7 : IntKind.i64.wrap ((k : Int) - 1) = (j : Int) := by rw [IntWalk.i64_in _ ⟨by omega, by omega⟩]; omega
            have k8 : (0 : Int) ≤ (j : Int) := by omega
            have k9 : (j : Int) < (L : Int) := by omega
            clear hj hy hyz
            obtain rfl : x = (k : Int) := HXK.out
            go_upto_region 12 with (fail)
            go_region_held3 (fun w' => w'.cell? (ad.add k) = some (.string (Tw.str z)) ∧ w'.cell? (ad.add j) = some (.string (Tw.str y)))
              (exact HCJ.out _ (by (first | assumption | exact Ext.refl _ | exact (Ext.refl _).drew | (refine Ext.alloc ?_ _; first | assumption | exact Ext.refl _ | exact (Ext.refl _).drew) | (refine Ext.drew ?_; first | assumption | exact Ext.refl _ | exact (Ext.refl _).drew) | (refine Ext.drew ?_; refine Ext.alloc ?_ _; first | assumption | exact Ext.refl _ | exact (Ext.refl _).drew))))
              ((go_at_call 19; refine (HAVZ.out _ (E4w.out.trans (by (first | assumption | exact Ext.refl _ | exact (Ext.refl _).drew | (refine Ext.alloc ?_ _; first | assumption | exact Ext.refl _ | exact (Ext.refl _).drew) | (refine Ext.drew ?_; first | assumption | exact Ext.refl _ | exact (Ext.refl _).drew) | (refine Ext.drew ?_; refine Ext.alloc ?_ _; first | assumption | exact Ext.refl _ | exact (Ext.refl _).drew))))).mono ?_; rintro e wA ⟨rfl, hbA⟩; have eA : Ext wr wA := Ext.call (by (first | assumption | exact Ext.refl _ | exact (Ext.refl _).drew | (refine Ext.alloc ?_ _; first | assumption | exact Ext.refl _ | exact (Ext.refl _).drew) | (refine Ext.drew ?_; first | assumption | exact Ext.refl _ | exact (Ext.refl _).drew) | (refine Ext.drew ?_; refine Ext.alloc ?_ _; first | assumption | exact Ext.refl _ | exact (Ext.refl _).drew))) hbA; clear hbA))
            go_wp2
            go_roundw
            case rel => exact ⟨k + 1, _, by omega, rfl, (by show _ = _; omega), hE.trans eA⟩
            case measure => simp [intOf]; omega
        · obtain rfl : k = L := by omega
          obtain rfl : x = (k : Int) := HXK.out
          go_wp2_with (first
            | (go_at_call 9; refine (HCNT.out _ (E4.out.trans hE)).mono ?_; rintro e w9 ⟨rfl, hb9⟩; have E9 : Hid (Ext w1 w9) := Ext.call (E4.out.trans hE) hb9; clear hb9))
          go_ret
          exact ⟨rfl, Ext.below hb1 E9.out hb1.size⟩
  · have hn' : 1048576 < n := by omega
    go_enter Tryd.func6, Tryd.ntmps6
    go_wp2_with fail
    go_ret
    exact ⟨rfl, Below.refl _ _⟩

set_option maxRecDepth 100000 in
theorem own : ownKnob Tryd.prog.godebug = none := by kernel_rfl
set_option maxRecDepth 100000 in
theorem laidOut : laidOutB Tryd.prog = true := by kernel_rfl
set_option maxRecDepth 100000 in
theorem rowed : rowsOk Tryd.prog Tryd.f6.params.toList = true := by kernel_rfl
set_option maxRecDepth 100000 in
theorem varred : varsOk Tryd.prog Rows.fnWalksOfSpec.vars = true := by kernel_rfl
set_option maxRecDepth 100000 in
theorem resType : Tryd.f6.resultTypes = #[4] := by kernel_rfl

set_option maxRecDepth 100000 in
theorem contract (H : Type) (enc : TypeId × Value → H) (W : World) (base : Nat) (args : Array Value) (ds gs : List (DataW H)) (before : List MemPlace)
    (hval : ∀ (j : Nat) t v, Tryd.f6.params[j]? = some t → args[j]? = some v → Value.okWide Tryd.prog W .any base t v)
    (hW : DataW.Whole enc Tryd.prog Tryd.f6.params.toList Rows.fnWalksOfSpec.vars false W args.toList ds gs before) (hL : laidMetH Tryd.prog Rows.fnWalksOfRow.laid W) :
    Calls Tryd.prog 6 args W fun e W' => ∃ v, e = .returned v ∧ Rows.fnWalksOfSpec.post enc Tryd.prog Tryd.f6 false true false false W args v W' := by
  have hW' := hW
  obtain ⟨p, q, hA0, hV, rfl, hfz, hnd⟩ := hW
  have hA : DataW.TrodAll enc Tryd.prog W 0 (fun _ => true) true Tryd.f6.params.toList args.toList ds p := hA0
  rw [Tryd.params6] at hA hval
  obtain ⟨v0, vs0, d0, ds0, p0, q0, hargs, rfl, rfl, h0, r0⟩ := trodAll_cons hA
  obtain ⟨rfl, rfl, rfl⟩ := trodAll_nil r0
  obtain rfl : args = #[v0] := by cases args; simp_all
  obtain ⟨g0, rfl⟩ := trodVars_len1 hV
  obtain ⟨n0, hcode0⟩ := open_code (hval 0 28 v0 rfl rfl) h0
  have t_dirs : DirsAt W := dirsAt (by kernel_rfl) hL (by simp [Rows.fnWalksOfRow])
  refine (walk v0 n0 W t_dirs hcode0).mono fun e W' ⟨he, hb⟩ => ?_
  subst he
  exact ⟨_, rfl, law_post laidOut rowed varred resType Tryd.underlying4 hW' ⟨rfl, rfl, rfl⟩ hb⟩

/-- A world for the witness: the settled one, the listed variables holding what their initialisers lay. -/
noncomputable def laidWorld (os : Os) : World := { World.holding Tryd.prog os ⟨#[], #[], []⟩ with heap := ((World.holding Tryd.prog os ⟨#[], #[], []⟩).heap.modify 1 fun
      | .cells _ t frozen => .cells #[.int .i64 1, .int .i64 0, .int .i64 0, .int .i64 1, .int .i64 (-1), .int .i64 0, .int .i64 0, .int .i64 (-1)] t frozen
      | o => o) }
set_option maxRecDepth 100000 in
theorem laid_met (os : Os) : laidMet Tryd.prog Rows.fnWalksOfRow.laid ((laidWorld os).forCall (fun _ _ => 0) ⟨#[], #[.slice none 0 0], []⟩).memory := laidMet_of_run' 8 (by kernel_rfl) (by kernel_rfl)
set_option maxRecDepth 100000 in
theorem reads (os : Os) {H : Type} (enc : TypeId × Value → H) : ∃ places, DataW.whole enc Tryd.prog ((laidWorld os).forCall (fun _ _ => 0) ⟨#[], #[.slice none 0 0], []⟩).memory Tryd.f6.params.toList Rows.fnWalksOfSpec.vars false (#[.slice none 0 0] : Array Value).toList 8 = some ([.nil], [Rows.laid_loop_example_turtlewalks_impl_directions], places) := ⟨MemPlace.row ⟨1, 0, none⟩ 8, by kernel_rfl⟩

set_option maxRecDepth 100000 in
theorem lifted (os : Os) (started : os.Started) (H : Type) (enc : TypeId × Value → H) (F : Stop.Interp) :
    ReturnsInHanded {} Tryd.checked os 6 .any ((OpenSpec.ofChange Rows.fnWalksOfSpec).preRow enc Tryd.prog Tryd.f6 Rows.fnWalksOfRow.domain false Rows.fnWalksOfRow.laid) (((OpenSpec.ofChange Rows.fnWalksOfSpec).at F).post enc Tryd.prog Tryd.f6 false true false false) := by
  obtain ⟨places, hx⟩ := reads os enc
  refine returnsInHanded_of_row (C := Tryd.checked) (s := OpenSpec.ofChange Rows.fnWalksOfSpec) own started (by kernel_rfl) Tryd.func6
    (witness_row_at (enc := enc) (C := Tryd.checked) false (laidWorld os) #[.slice none 0 0] rfl (by kernel_rfl) (by kernel_rfl) (by kernel_rfl)
      (OpenSpec.preRow_of_cond 8 hx (by kernel_rfl) (fun k hk => by cases hk) (by kernel_rfl) (laid_met os))) ?_
  intro W base args ds gs before hval hW _ _ _ hL _ _
  exact contract H enc W base args ds gs before hval hW hL

set_option maxRecDepth 100000 in
theorem said : Rows.FnWalksOfSaid :=
  OpenClaim.holds_of_cond 6 Tryd.f6 rfl rfl rfl rfl rfl rfl rfl ⟨rfl, rfl, rfl, rfl, rfl⟩ rfl rfl rfl rfl rfl (by kernel_rfl) Tryd.func6 (by kernel_rfl)
    (of_decide_eq_true (by kernel_rfl)) (by unfold Func.isWrapper; first | (rw [if_pos (by decide +kernel)]; kernel_rfl) | (rw [if_neg (by decide +kernel)]; exact ⟨rfl, rfl⟩))
    (fun os started H enc _ F => by rw [OpenClaim.pre_eq_preRow]; exact lifted os started H enc F)

set_option maxRecDepth 100000 in
theorem plain (f : FuncId) (fn : Func) (hf : Tryd.pinned.checked.prog.funcNamed "loop.example/turtlewalks/laws.FnWalksOf" = some f) (hfn : Tryd.pinned.checked.prog.funcs[f]? = some fn) :
    false = Tryd.pinned.checked.prog.looks [] ∧ ∀ (j : Nat) t, fn.params[j]? = some t → Tryd.pinned.checked.prog.wantsStandIn t = false := by
  obtain rfl : f = 6 := Option.some.inj ((show Tryd.prog.funcNamed "loop.example/turtlewalks/laws.FnWalksOf" = some 6 by kernel_rfl).symm.trans hf) |>.symm
  obtain rfl : fn = Tryd.f6 := (Option.some.inj (Tryd.func6.symm.trans hfn)).symm
  refine ⟨by kernel_rfl, fun j t ht => ?_⟩
  rw [Tryd.params6] at ht
  have hm : t ∈ [28] := by simpa using Array.mem_of_getElem? ht
  have hall : ([28].all fun u => !Tryd.prog.wantsStandIn u) = true := by kernel_rfl
  exact (show Tryd.prog.wantsStandIn t = false by simpa using List.all_eq_true.1 hall t hm)

set_option maxRecDepth 100000 in
theorem card : Rows.FnWalksOfCardSaid :=
  Claim7.holds_tied_plain_at .later [] _ _ _ _ said (fun _ h => by cases h) (by kernel_rfl) (fun _ h => by cases h) fnWalksOf_row_tie rfl ⟨rfl, rfl⟩ (by kernel_rfl) rfl plain (by kernel_rfl)

end Go.Proofs.YtjcagkpolfacpaaDoor.fnWalksOf
