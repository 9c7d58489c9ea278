/-
  FnExactWalksOf: for every number the program's WalksOf returns what the reference's returns, in memory of its own. No condition beyond what the given statement itself bears.
-/
import Derived.Test.YtjcagkpolfacpaaDoorAvoiding
import Derived.Test.YtjcagkpolfacpaaDoorAllWays
import Derived.Maps.OwnIn
import Derived.Test.YtjcagkpolfacpaaDoorCountPure
import Derived.Test.YtjcagkpolfacpaaDoorAvoids
import Derived.Test.YtjcagkpolfacpaaDoorAllWaysSpec
import Derived.Test.YtjcagkpolfacpaaDoorExt
import Derived.Test.YtjcagkpolfacpaaDoorLaw
import Derived.Test.YtjcagkpolfacpaaDoorCards
import Derived.Test.YtjcagkpolfacpaaDoorTie

namespace Go.Proofs.YtjcagkpolfacpaaDoor
open Go Go.RowKit Go.Maps Go.WideMaps Go.Shelf

attribute [local go_sem] Oper.semAt_some

theorem av_all (B N lrec R M : Nat) (hN : N ≤ 39) (hR : B ≤ R) (hM : B ≤ M) (hRM : R ≠ M) (xs : List (List UInt8)) (J : List (List UInt8) → Option Nat → World → Prop) (hA : AbidesOwn B J) (hC : ∀ pre r W, J pre r W → DirsAt W)
    (hY : RoundsOwn Fence.wide 4 Tryd.prog lrec B (fun x => #[.string (Tw.str x)]) xs J) : ∀ n, AvFrom B N lrec R M xs J n
  | 0 => fun l pre r w hst _ _ hJ hpre h1 h2 => av_zero B N lrec R M hR hM xs J hA hY l pre r _ _ w hst hJ hpre h1 h2
  | n + 1 => av_succ B N lrec R M hN hR hM hRM xs J hA hC n (av_all B N lrec R M hN hR hM hRM xs J hA hC hY n)

theorem been_first : Been ((.map [] : DataW Unit).put (placeKey (0, 0)) (.agg [])) 1 (Tw.places []) := by
  have h0 : Been (.map [] : DataW Unit) 0 [] := ⟨tidy_empty, rfl, fun _ _ => rfl⟩
  exact h0.put (q := (0, 0)) (by unfold near; omega) rfl

theorem make_row (N : Nat) (hN : N ≤ 7) (W : World) : (Instr.makeSlice 28 (.int .i64 0) (.int .i64 (N : Int))).run Tryd.prog W = .ok (.slice (some ⟨W.heap.size, 0, none⟩) 0 N) (W.alloc (.cells (Array.replicate N (.int .u8 0)) 5)) := by
  obtain rfl | rfl | rfl | rfl | rfl | rfl | rfl | rfl : N = 0 ∨ N = 1 ∨ N = 2 ∨ N = 3 ∨ N = 4 ∨ N = 5 ∨ N = 6 ∨ N = 7 := by omega
  all_goals kernel_rfl
set_option maxRecDepth 100000 in
set_option maxHeartbeats 3200000 in
theorem avoiding1 (N lrec Bs : Nat) (hN : N ≤ 7) (J : List (List UInt8) → Option Nat → World → Prop) (w : World) (hA : AbidesOwn w.heap.size J) (hC : ∀ pre r W, J pre r W → DirsAt W ∧ W.cell? ⟨Bs, 0, none⟩ = some (.int .i64 (N : Int)))
    (hY : RoundsOwn Fence.wide 4 Tryd.prog lrec w.heap.size (fun x => #[.string (Tw.str x)]) (Tw.onWalks [] N) J) (hJ : J [] none w) :
    Calls Tryd.prog 43 #[.func (.yield lrec) #[] #[], .pointer (some ⟨Bs, 0, none⟩)] w fun e w' => (∃ v, e = .returned v) ∧ ∃ r, J (Tw.onWalks [] N) r w' := by
  have hBs := (hC _ _ _ hJ).2
  have hmm := @run_makeMap Tryd.prog
  obtain ⟨W1, hW1⟩ : ∃ W1, w.alloc (Obj.map #[] 0) = W1 := ⟨_, rfl⟩
  have hown1 : W1.ownsMap Tryd.prog 54 (unitElem (H := Unit)) w.heap.size 0 (.map []) := hW1 ▸ World.ownsMap_made _ _ _ _
  have hnear0 : near (0, 0) := by unfold near; omega
  obtain ⟨w2, hrun, hmap2, hturn2⟩ := hown1.store placeLaw Tryd.underlying56 (by decide) (keyOf_place (0, 0) hnear0) (unitElem_mk (H := Unit))
  have hb1 : Below w.heap.size w W1 := by rw [← hW1]; exact (Below.refl _ _).alloc (Nat.le_refl _) _
  have hs1 : W1.heap.size = w.heap.size + 1 := by rw [← hW1]; simp
  have hb2 : Below w.heap.size w w2 := hb1.grown hturn2.grown (by omega) (fun k e => by cases e; exact Nat.le_refl _)
  have hs2 := hturn2.grown.size
  have hc2 : w2.cell? ⟨Bs, 0, none⟩ = some (.int .i64 (N : Int)) := (hb2.cell (p := ⟨Bs, 0, none⟩) (World.block_lt_of_cell? w _ hBs)).trans hBs
  rw [← hW1] at hrun
  have hrun2 : (Instr.mapUpdate 56 (.map (some w.heap.size)) (.agg #[.int .i64 0, .int .i64 0]) (.agg #[])).run Tryd.prog (w.alloc (Obj.map #[] 0)) = .ok () w2 := hrun
  have hs12 : w.heap.size < w2.heap.size := by omega
  clear hrun hW1 hs1 hs2
  go_enter Tryd.func43, Tryd.ntmps43
  go_wp2_with fail
  have hmk := make_row N hN
  obtain ⟨w3, hw3⟩ : ∃ w3, (w2.alloc (.cells (Array.replicate N (.int .u8 0)) 5)).drew = w3 := ⟨_, rfl⟩
  have hs3 : w3.heap.size = w2.heap.size + 1 := by rw [← hw3]; simp
  have hb3 : Below w2.heap.size w2 w3 := by rw [← hw3]; exact ((Below.refl _ _).alloc (Nat.le_refl _) _).drew
  have hst3 : AvSt w.heap.size N w2.heap.size w.heap.size [] w3 := by
    refine ⟨⟨rfl, .inr ⟨w2.heap.size, N, Array.replicate N (.int .u8 0), rfl, by omega, ?_, Nat.zero_le _, by unfold maxLen; omega, by simp, by simp [bytesOf]⟩⟩, ?_⟩
    · rw [← hw3]
      exact heap_alloc_new w2 _
    · exact (BeenAt.tight hmap2 been_first).kept (hb3.block _ (by omega))
  have hJ2 : J [] none w3 := hA.1 _ _ _ _ (hA.1 _ _ _ _ hJ ⟨hb2.os, hb2.tape, hb2.output, by omega, fun k hk => hb2.block k (by
    rcases hk with h9 | h9
    · exact h9
    · cases h9)⟩) (SameOwn.of_below hb3 (by omega) (fun k e => by cases e))
  have HCALL := Lib.hid (av_all w.heap.size N lrec w2.heap.size w.heap.size (by omega) (by omega) (Nat.le_refl _) (by omega) _ J hA (fun pre r W h => (hC pre r W h).1) hY N [] [] none w3 hst3 rfl (by simp) hJ2 List.prefix_rfl (by simp) (by simp))
  have HW3 := Lib.hid hw3
  clear hw3 hs3 hst3 hJ2 hb3 hmap2 hturn2 hown1
  go_region_held3 (fun w' => w'.cell? ⟨Bs, 0, none⟩ = some (.int .i64 (N : Int))) (first | exact hc2 | exact (cell_alloc_old (World.block_lt_of_cell? w2 _ hc2) _).trans hc2 | exact q0)
    ((go_at_call 44; rw [HW3.out]; refine HCALL.out.mono ?_; rintro e w4 ⟨rfl, r4, hJ4, hN4, hst4, hk4⟩; have q0 := (hC _ _ _ hJ4).2))
  go_wp2_with fail
  go_end0
  exact ⟨⟨_, rfl⟩, r4, hJ4⟩
end Go.Proofs.YtjcagkpolfacpaaDoor

namespace Go.Proofs.YtjcagkpolfacpaaDoor
open Go Go.RowKit Go.Maps Go.WideMaps Go.Shelf

attribute [local go_sem] Oper.semAt_some

namespace Tw
theorem count_le {n : Nat} (hn : n ≤ 7) : countOf n ≤ 2172 := by
  have h2 := congrArg (fun l : List Nat => l[n]?) counts
  simp only [List.getElem?_map, List.getElem?_range (show n < 8 by omega), Option.map_some] at h2
  obtain rfl | rfl | rfl | rfl | rfl | rfl | rfl | rfl : n = 0 ∨ n = 1 ∨ n = 2 ∨ n = 3 ∨ n = 4 ∨ n = 5 ∨ n = 6 ∨ n = 7 := by omega
  all_goals
    have := Option.some.inj h2
    omega
/-- What CountOf says. -/
def countI (s : Int) : Int := if 0 ≤ s ∧ s ≤ 7 then (countOf s.toNat : Int) else -1
end Tw

theorem avoiding_any (n : Int) (w : World) :
    Calls Tryd.prog 27 #[.int .i64 n] w fun e w' => e = .returned (.func (.func 43) #[] #[.pointer (some ⟨w.heap.size, 0, none⟩)]) ∧ w' = w.alloc (.cells #[.int .i64 n] 3) := by
  go_enter Tryd.func27, Tryd.ntmps27
  go_wp2
  go_ret
  exact ⟨rfl, rfl⟩

set_option maxRecDepth 100000 in
set_option maxHeartbeats 3200000 in
theorem implCount_yes (N : Nat) (hN : N ≤ 7) (w : World) (hD : DirsAt w) :
    Calls Tryd.prog 9 #[.int .i64 (N : Int)] w fun e w' => e = .returned (.int .i64 (Tw.countOf N : Int)) ∧ Below w.heap.size w w' := by
  have HD := Lib.hid hD
  have h1 : ¬ (7 : Int) < (N : Int) := by omega
  have HXL : Hid ((Tw.onWalks [] N).length = Tw.countOf N) := Tw.countOf_eq (by omega)
  have hle := Tw.count_le hN
  clear hD
  refine (callsIn_wide (n := 6)).1 ?_
  refine callsIn_of_wp_marks Tryd.func9 rfl trivial ?_
  refine wpIn_wide.2 ?_
  simp only [Tryd.ntmps9, List.size_toArray, List.length_cons, List.length_nil, Nat.reduceAdd, Nat.reduceSub, Array.replicate_succ, Array.replicate_zero, List.push_toArray, List.append_toArray, List.nil_append, List.cons_append]
  go_wp2_with (go_at_call 27; refine (avoiding_any _ _).mono ?_; rintro e w1 ⟨rfl, rfl⟩)
  obtain ⟨R, hR⟩ : ∃ R, w.heap.size = R := ⟨_, rfl⟩
  obtain ⟨W0, hW0⟩ : ∃ W0, ((w.alloc (.cells #[.int .i64 0] 3)).alloc (.cells #[.int .i64 (N : Int)] 3)) = W0 := ⟨_, rfl⟩
  have hsz0 : W0.heap.size = R + 2 := by rw [← hW0, ← hR]; simp
  have hbb0 : Below w.heap.size w W0 := by rw [← hW0]; exact ((Below.refl _ _).alloc (Nat.le_refl _) _).alloc (by simp) _
  have hbox0 : W0.heap[R]? = some (.cells #[.int .i64 0] 3 (0, 0)) := by rw [← hW0, ← hR]; exact (Below.heap_alloc _ _ _ (by simp)).trans (World.alloc_heap_new w _)
  have hst0 : W0.heap[R + 1]? = some (.cells #[.int .i64 (N : Int)] 3 (0, 0)) := by
    rw [← hW0, ← hR]
    have := World.alloc_heap_new (w.alloc (.cells #[.int .i64 0] 3)) (.cells #[.int .i64 (N : Int)] 3)
    rwa [World.size_alloc] at this
  have hs0 := cell_of_row _ _ 0 _ _ _ hst0
  have HR := Lib.hid hR
  rw [hR] at ⊢
  rw [hW0]
  clear hR
  refine (wpIn_wide (n := 6)).1 ?_
  refine wpIn_rangeOwn (α := List UInt8) rfl (by decide) (gf := 43) (lb := #[.pointer (some ⟨R + 1, 0, none⟩)]) rfl trivial (enters_of Tryd.func43 (by kernel_rfl) rfl) (encs := fun x : List UInt8 => #[.string (Tw.str x)]) (xs := Tw.onWalks [] N) (C := fun W => DirsAt W ∧ W.cell? ⟨R + 1, 0, none⟩ = some (.int .i64 (N : Int)))
    (fun l J W _ hsW hA hC hY h0 => callsIn_wide.2 (avoiding1 N l (R + 1) hN J W (by rw [hsW]; exact hA) hC (by rw [hsW]; exact hY) h0)) (fun _ => rfl)
    (fun pre _ W => W.cell? ⟨R, 0, none⟩ = some (.int .i64 pre.length) ∧ W.frozen? ⟨R, 0, none⟩ = false ∧ W.cell? ⟨R + 1, 0, none⟩ = some (.int .i64 (N : Int)) ∧ Below w.heap.size w W)
    ?own (fun _ _ _ h => ⟨HD.out.below' h.2.2.2, h.2.2.1⟩) ?start ?_ ?assign ?body ?done
  case own =>
    rintro pre q W W' ⟨i1, i2, i3, i4⟩ hs9
    have hb9 := hs9.below
    rw [hsz0] at hb9
    exact ⟨(hb9.cell (p := ⟨R, 0, none⟩) (by simp)).trans i1, (hb9.frozen (p := ⟨R, 0, none⟩) (by simp)).trans i2, (hb9.cell (p := ⟨R + 1, 0, none⟩) (by simp)).trans i3, i4.trans (hb9.mono (by rw [HR.out]; omega))⟩
  case start => exact ⟨cell_of_row _ _ 0 _ _ _ hbox0, frozen_of_row _ _ _ _ _ hbox0, hs0, hbb0⟩
  case assign =>
    intro l x W K hK
    gi_wp2
    exact hK
  case body =>
    rintro l pre x q W ⟨i1, i2, i3, i4⟩ hpre hz9 hq9
    have hpl : (pre ++ [x]).length ≤ (Tw.onWalks [] N).length := hpre.length_le
    rw [HXL.out, List.length_append, List.length_singleton] at hpl
    have hlen : pre.length ≤ 2172 := by omega
    clear hpl hpre
    gi_wp2
    refine ⟨q, ⟨?_, (by rw [World.frozen?_setCell]; exact i2), (World.cell?_of_block (w := W) (Below.heap_setCell _ _ _ _ (by simp))).trans i3, i4.setCell (by rw [HR.out]; simp) _⟩, SameOther.setCell (by rw [hsz0]; simp) _, NextRow.refl _ _, fun k e => ?_⟩
    · rw [World.cell?_setCell_same' _ _ _ (by rw [i1]; rfl), List.length_append]
      rfl
    · show k < (W.heap.modify _ _).size
      rw [Array.size_modify]
      exact (hq9 k e).2
  case done =>
    rintro q W ⟨i1, i2, i3, i4⟩ hz9 hk9
    go_wp2
    refine ⟨by simp, .inl ⟨_, _, rfl, run_takeDeferred hk9, ?_⟩⟩
    refine ⟨_, results_tmp rfl _ _ _, ?_, i4.trans (belowK_b (w := w) (Nat.le_refl _) W _ _ _ (by rw [HR.out]; omega) hk9 rfl rfl)⟩
    show Ending.returned (.int .i64 ((Tw.onWalks [] N).length : Int)) = _
    rw [HXL.out]
theorem implCount_no (s : Int) (hs : s < 0 ∨ 7 < s) (w : World) :
    Calls Tryd.prog 9 #[.int .i64 s] w fun e w' => e = .returned (.int .i64 (-1)) ∧ w = w' := by
  rcases hs with h | h
  · go_enter Tryd.func9, Tryd.ntmps9
    go_wp2_with fail
    go_ret
    exact ⟨rfl, rfl⟩
  · have h0 : 0 ≤ s := by omega
    go_enter Tryd.func9, Tryd.ntmps9
    go_wp2_with fail
    go_ret
    exact ⟨rfl, rfl⟩
theorem implCount (s : Int) (w : World) (hD : DirsAt w) :
    Calls Tryd.prog 9 #[.int .i64 s] w fun e w' => e = .returned (.int .i64 (Tw.countI s)) ∧ Below w.heap.size w w' := by
  by_cases h : 0 ≤ s ∧ s ≤ 7
  · obtain ⟨N, rfl⟩ := Int.eq_ofNat_of_zero_le h.1
    unfold Tw.countI
    rw [if_pos h]
    exact implCount_yes N (by omega) w hD
  · unfold Tw.countI
    rw [if_neg h]
    exact (implCount_no s (by omega) w).mono fun e w' ⟨h1, h2⟩ => ⟨h1, h2 ▸ Below.refl _ _⟩
end Go.Proofs.YtjcagkpolfacpaaDoor

namespace Go.Proofs.YtjcagkpolfacpaaDoor
open Go Go.RowKit Go.Maps Go.WideMaps Go.Shelf

attribute [local go_sem] Oper.semAt_some

namespace Tw
theorem count_le5 {n : Nat} (hn : n ≤ 5) : countOf n ≤ 284 := by
  have h2 := congrArg (fun l : List Nat => l[n]?) counts
  simp only [List.getElem?_map, List.getElem?_range (show n < 8 by omega), Option.map_some] at h2
  obtain rfl | rfl | rfl | rfl | rfl | rfl : n = 0 ∨ n = 1 ∨ n = 2 ∨ n = 3 ∨ n = 4 ∨ n = 5 := by omega
  all_goals
    have := Option.some.inj h2
    omega
end Tw
/-- What WalksOf says. -/
def walksI (s : Int) : List ByteArray := if 0 ≤ s ∧ s ≤ 5 then (Tw.onWalks [] s.toNat).map Tw.str else []
theorem walksI_few (s : Int) : (walksI s).length ≤ 284 := by
  unfold walksI
  split
  · rw [List.length_map, Tw.countOf_eq (by omega)]
    exact Tw.count_le5 (by omega)
  · exact Nat.zero_le _
theorem own_keep {w w' : World} {base n : Nat} {e : TypeId} {size : Nat} {v : Value} {xs : List Value} (h : w.ownsRow base e size v n xs) (hk : ∀ k, v.ownBlock = some k → w'.heap[k]? = w.heap[k]?) : w'.ownsRow base e size v n xs := by
  refine ⟨h.1, ?_⟩
  rcases h.2 with h1 | ⟨g, cap, cur, h1, h2, h3, h4⟩
  · exact .inl h1
  · exact .inr ⟨g, cap, cur, h1, h2, (hk g (by rw [h1]; rfl)).trans h3, h4⟩
theorem own_blockC {w : World} {base n : Nat} {e : TypeId} {size : Nat} {v : Value} {xs : List Value} (h : w.ownsRow base e size v n xs) {k : Nat} (hk : v.ownBlock = some k) : base ≤ k ∧ ∃ cur, w.heap[k]? = some (.cells cur e (0, 0)) := by
  rcases h.2 with ⟨h1, _⟩ | ⟨g, cap, cur, h1, h2, h3, _⟩
  · rw [h1] at hk
    cases hk
  · rw [h1] at hk
    obtain rfl : g = k := Option.some.inj hk
    exact ⟨h2, cur, h3⟩

/-- What holds between two rounds of WalksOf. -/
def WkI (w : World) (N : Nat) (pre : List (List UInt8)) (r : Option Nat) (W : World) : Prop :=
  (∃ v, W.heap[w.heap.size]? = some (.cells #[v] 24 (0, 0)) ∧ W.ownsRow w.heap.size 9 1 v pre.length (strVals (pre.map Tw.str)) ∧ v.ownBlock = r) ∧ W.cell? ⟨w.heap.size + 1, 0, none⟩ = some (.int .i64 (N : Int)) ∧ Below w.heap.size w W
theorem strVals_snoc (l : List (List UInt8)) (x : List UInt8) : strVals ((l ++ [x]).map Tw.str) = strVals (l.map Tw.str) ++ [.string (Tw.str x)] := by unfold strVals; simp

set_option maxRecDepth 100000 in
set_option maxHeartbeats 3200000 in
theorem implWalks_yes (N : Nat) (hN : N ≤ 5) (w : World) (hD : DirsAt w) :
    Calls Tryd.prog 11 #[.int .i64 (N : Int)] w (TextsOut w ((Tw.onWalks [] N).map Tw.str)) := by
  have HD := Lib.hid hD
  have h1 : ¬ (5 : Int) < (N : Int) := by omega
  have HXL : Hid ((Tw.onWalks [] N).length = Tw.countOf N) := Tw.countOf_eq (by omega)
  have hle := Tw.count_le5 hN
  obtain ⟨i0, hi0, hz0, hz1, hz2⟩ := info_parts stringInfo
  clear hD
  refine (callsIn_wide (n := 6)).1 ?_
  refine callsIn_of_wp_marks Tryd.func11 rfl trivial ?_
  refine wpIn_wide.2 ?_
  simp only [Tryd.ntmps11, List.size_toArray, List.length_cons, List.length_nil, Nat.reduceAdd, Nat.reduceSub, Array.replicate_succ, Array.replicate_zero, List.push_toArray, List.append_toArray, List.nil_append, List.cons_append]
  go_wp2_with (go_at_call 27; refine (avoiding_any _ _).mono ?_; rintro e w1 ⟨rfl, rfl⟩)
  obtain ⟨R, hR⟩ : ∃ R, w.heap.size = R := ⟨_, rfl⟩
  obtain ⟨W0, hW0⟩ : ∃ W0, ((w.alloc (.cells #[.slice none 0 0] 24)).alloc (.cells #[.int .i64 (N : Int)] 3)) = W0 := ⟨_, rfl⟩
  have hsz0 : W0.heap.size = R + 2 := by rw [← hW0, ← hR]; simp
  have hbb0 : Below w.heap.size w W0 := by rw [← hW0]; exact ((Below.refl _ _).alloc (Nat.le_refl _) _).alloc (by simp) _
  have hbox0 : W0.heap[w.heap.size]? = some (.cells #[.slice none 0 0] 24 (0, 0)) := by rw [← hW0]; exact (Below.heap_alloc _ _ _ (by simp)).trans (World.alloc_heap_new w _)
  have hst0 : W0.heap[w.heap.size + 1]? = some (.cells #[.int .i64 (N : Int)] 3 (0, 0)) := by
    rw [← hW0]
    have := World.alloc_heap_new (w.alloc (.cells #[.slice none 0 0] 24)) (.cells #[.int .i64 (N : Int)] 3)
    rwa [World.size_alloc] at this
  have hs0 := cell_of_row _ _ 0 _ _ _ hst0
  have HR := Lib.hid hR
  rw [hW0, hR]
  clear hR
  refine (wpIn_wide (n := 6)).1 ?_
  refine wpIn_rangeOwn (α := List UInt8) rfl (by decide) (gf := 43) (lb := #[.pointer (some ⟨R + 1, 0, none⟩)]) rfl trivial (enters_of Tryd.func43 (by kernel_rfl) rfl) (encs := fun x : List UInt8 => #[.string (Tw.str x)]) (xs := Tw.onWalks [] N) (C := fun W => DirsAt W ∧ W.cell? ⟨R + 1, 0, none⟩ = some (.int .i64 (N : Int)))
    (fun l J W _ hsW hA hC hY h0 => callsIn_wide.2 (avoiding1 N l (R + 1) (by omega) J W (by rw [hsW]; exact hA) hC (by rw [hsW]; exact hY) h0)) (fun _ => rfl)
    (WkI w N)
    ?own (fun _ _ _ h => ⟨HD.out.below' h.2.2, by rw [← HR.out]; exact h.2.1⟩) ?start ?_ ?assign ?body ?done
  case own =>
    rintro pre q W W' ⟨⟨v, i1, i2, i3⟩, i4, i5⟩ hs9
    have hb9 := hs9.below
    rw [hsz0] at hb9
    exact ⟨⟨v, (hb9.block _ (by rw [HR.out]; omega)).trans i1, own_keep i2 (fun k hk => hs9.block k (.inr (by rw [← i3]; exact hk))), i3⟩, (hb9.cell (p := ⟨w.heap.size + 1, 0, none⟩) (by rw [HR.out]; simp)).trans i4, i5.trans (hb9.mono (by rw [HR.out]; omega))⟩
  case start => exact ⟨⟨_, hbox0, World.ownsRow_nil _ _ _ _, rfl⟩, hs0, hbb0⟩
  case assign =>
    intro l x W K hK
    gi_wp2
    exact hK
  case body =>
    rintro l pre x q W ⟨⟨v, i1, i2, i3⟩, i4, i5⟩ hpre hz9 hq9
    have hpl : (pre ++ [x]).length ≤ (Tw.onWalks [] N).length := hpre.length_le
    rw [HXL.out, List.length_append, List.length_singleton] at hpl
    have hlen : pre.length ≤ 284 := by omega
    rw [HR.out] at i1
    have c0 := cell_of_row _ _ 0 _ _ _ i1
    have c1 := frozen_of_row _ _ 0 _ _ i1
    have I1 := Lib.hid i1
    have I3 := Lib.hid i3
    have hRW : R < W.heap.size := by omega
    clear hpl hpre i1 i3
    gi_wp2_with (gi_at_builtin; refine wpListIn_append_own_at _ rfl _ _ _ rfl w.heap.size 9 i0 _ 1 16 Tryd.underlying24 hi0 hz0 hz1 hz2 rfl (by decide) v pre.length _ rfl (i2.alloc _) ⟨W.heap.size, 0, none⟩ 1 1 [.string (Tw.str x)] rfl rfl (cell_one_new _ _ _) (by simp [Value.oneCell']) (by unfold maxLen; omega) (by omega) (by have := i5.size; simp; omega) ?_; intro v' w1 hown' hgrow _ hat; obtain ⟨g', cap', rfl⟩ := ownsRow_succ hown'; have hbx1 := (hgrow.block R (by simp; omega) (fun e => by have := (hq9 R (I3.out ▸ e.symm)).1; omega)).trans ((Below.heap_alloc _ _ _ hRW).trans I1.out); have d0 := cell_of_row _ _ 0 _ _ _ hbx1; have d1 := frozen_of_row _ _ 0 _ _ hbx1)
    have hg9 : R + 2 ≤ g' := by
      rcases hat with h9 | h9
      · have := (hq9 g' (I3.out ▸ h9.symm)).1
        omega
      · have h8 := Option.some.inj h9
        simp at h8
        omega
    have hlt' := (hown'.lt g' rfl).2
    have hs1 := hgrow.size
    refine ⟨some g', ⟨⟨_, by rw [HR.out]; exact one_setCell hbx1, own_keep (v := .slice (some ⟨g', 0, none⟩) (pre.length + 1) cap') ?_ (fun k hk => by obtain rfl : g' = k := Option.some.inj hk; exact Below.heap_setCell _ _ _ _ (by simp; omega)), rfl⟩, ?_, ?_⟩, ?_, ?_, ?_⟩
    · rw [List.length_append, List.length_singleton, strVals_snoc]
      exact hown'
    · refine (World.cell?_of_block (w := w1) (Below.heap_setCell _ _ _ _ (by rw [HR.out]; simp))).trans ?_
      refine (World.cell?_of_block (w := W.alloc _) (hgrow.block (w.heap.size + 1) (by rw [HR.out]; simp; omega) (fun e => by have := (hq9 _ (I3.out ▸ e.symm)).1; rw [HR.out] at this; omega))).trans ?_
      exact (World.cell?_of_block (w := W) (Below.heap_alloc _ _ _ (by rw [HR.out]; show R + 1 < _; omega))).trans i4
    · exact ((i5.alloc i5.size _).grown hgrow (by have := i5.size; simp; omega) (fun k e => by have := (hq9 k (I3.out ▸ e)).1; rw [HR.out]; omega)).setCell (by rw [HR.out]; simp) _
    · refine ⟨?_, ?_, ?_, ?_, fun k g1 g2 g3 => ?_⟩
      · exact (show _ = W.os from hgrow.os)
      · exact (show _ = W.tape from hgrow.tape)
      · exact (show _ = W.output from hgrow.output)
      · show W.heap.size ≤ (w1.heap.modify _ _).size
        rw [Array.size_modify]
        simp at hs1
        omega
      · refine (Below.heap_setCell _ _ _ _ (by rw [hsz0] at g1; simp; omega)).trans ((hgrow.block k (by simp; omega) (fun e => g3 (I3.out ▸ e.symm))).trans (Below.heap_alloc _ _ _ g2))
    · rcases hat with h9 | h9
      · exact .inl (h9.trans I3.out)
      · exact .inr ⟨g', rfl, by have h8 := Option.some.inj h9; simp at h8; omega⟩
    · intro k e
      obtain rfl : g' = k := Option.some.inj e
      show g' < (w1.heap.modify _ _).size
      rw [Array.size_modify]
      exact hlt'
  case done =>
    rintro q W ⟨⟨v, i1, i2, i3⟩, i4, i5⟩ hz9 hk9
    rw [HR.out] at i1
    have c0 := cell_of_row _ _ 0 _ _ _ i1
    go_wp2
    refine ⟨by simp, .inl ⟨_, _, rfl, run_takeDeferred hk9, ?_⟩⟩
    have hfar : ∀ k, v.ownBlock = some k → k ≠ W0.heap.size := fun k hk e => by
      obtain ⟨_, cur, hc⟩ := own_blockC i2 hk
      rw [e, hk9] at hc
      cases hc
    have hfin := own_keep (w' := W.putObj W0.heap.size (.deferred none)) i2 (fun k hk => World.putObj_heap_other (hfar k hk))
    refine ⟨_, results_tmp rfl _ _ _, v, rfl, past_own (by rw [List.length_map]; exact hfin), fresh_own hfin (Nat.le_refl _), i5.trans (belowK_b (w := w) (Nat.le_refl _) W _ _ _ (by rw [hsz0, HR.out]; omega) hk9 rfl rfl)⟩
theorem implWalks_no (s : Int) (hs : s < 0 ∨ 5 < s) (w : World) :
    Calls Tryd.prog 11 #[.int .i64 s] w fun e w' => e = .returned (.slice none 0 0) ∧ w = w' := by
  rcases hs with h | h
  · go_enter Tryd.func11, Tryd.ntmps11
    go_wp2_with fail
    go_ret
    exact ⟨rfl, rfl⟩
  · have h0 : 0 ≤ s := by omega
    go_enter Tryd.func11, Tryd.ntmps11
    go_wp2_with fail
    go_ret
    exact ⟨rfl, rfl⟩
theorem implWalks (s : Int) (w : World) (hD : DirsAt w) : Calls Tryd.prog 11 #[.int .i64 s] w (TextsOut w (walksI s)) := by
  by_cases h : 0 ≤ s ∧ s ≤ 5
  · obtain ⟨N, rfl⟩ := Int.eq_ofNat_of_zero_le h.1
    unfold walksI
    rw [if_pos h]
    exact implWalks_yes N (by omega) w hD
  · unfold walksI
    rw [if_neg h]
    exact (implWalks_no s (by omega) w).mono fun e w' ⟨h1, h2⟩ => ⟨_, h1, .inl ⟨rfl, rfl⟩, Fresh.none _, h2 ▸ Below.refl _ _⟩
end Go.Proofs.YtjcagkpolfacpaaDoor

namespace Go.Proofs.YtjcagkpolfacpaaDoor
open Go.RowKit

namespace Tw
/-- In which order the reference counts. -/
def turn4 : List UInt8 := [101, 110, 119, 115]
def cntS (l : List UInt8) : Nat → Nat
  | 0 => 1
  | n + 1 => (turn4.map fun c => if avoids (l ++ [c]) = true then cntS (l ++ [c]) n else 0).sum
def cntTo (l : List UInt8) (n k : Nat) : Nat := ((turn4.take k).map fun c => if avoids (l ++ [c]) = true then cntS (l ++ [c]) n else 0).sum
theorem cntTo_all (l : List UInt8) (n : Nat) : cntTo l n 4 = cntS l (n + 1) := rfl
theorem cntTo_succ {l : List UInt8} {n k : Nat} {c : UInt8} (hc : turn4[k]? = some c) : cntTo l n (k + 1) = cntTo l n k + if avoids (l ++ [c]) = true then cntS (l ++ [c]) n else 0 := by
  unfold cntTo
  rw [List.take_add_one, hc, List.map_append, List.sum_append]
  simp
theorem cntS_le : ∀ (n : Nat) (l : List UInt8), cntS l n ≤ 4 ^ n
  | 0, _ => Nat.le_refl _
  | n + 1, l => by
    have h : ∀ c : UInt8, (if avoids (l ++ [c]) = true then cntS (l ++ [c]) n else 0) ≤ 4 ^ n := fun c => by
      split
      · exact cntS_le n _
      · exact Nat.zero_le _
    have h1 := h 101
    have h2 := h 110
    have h3 := h 119
    have h4 := h 115
    unfold cntS turn4
    simp only [List.map_cons, List.map_nil, List.sum_cons, List.sum_nil]
    rw [Nat.pow_succ]
    omega
theorem cntTo_le (n : Nat) (l : List UInt8) (k : Nat) (hk : k ≤ 4) : cntTo l n k ≤ 4 * 4 ^ n := by
  have h : ∀ c : UInt8, (if avoids (l ++ [c]) = true then cntS (l ++ [c]) n else 0) ≤ 4 ^ n := fun c => by
    split
    · exact cntS_le n _
    · exact Nat.zero_le _
  have h1 := h 101
  have h2 := h 110
  have h3 := h 119
  have h4 := h 115
  obtain rfl | rfl | rfl | rfl | rfl : k = 0 ∨ k = 1 ∨ k = 2 ∨ k = 3 ∨ k = 4 := by omega
  all_goals
    simp only [cntTo, turn4, List.take_zero, List.take_succ_cons, List.map_cons, List.map_nil, List.sum_cons, List.sum_nil]
    omega
theorem cntS_walks : ∀ (n : Nat) (l : List UInt8), cntS l n = (onWalks l n).length
  | 0, _ => rfl
  | n + 1, l => by
    have ih := fun c : UInt8 => cntS_walks n (l ++ [c])
    unfold cntS onWalks turn4 order
    rw [length_flatMap']
    simp only [List.map_cons, List.map_nil, List.sum_cons, List.sum_nil, ih]
    have h : ∀ c : UInt8, (if avoids (l ++ [c]) = true then onWalks (l ++ [c]) n else []).length = if avoids (l ++ [c]) = true then (onWalks (l ++ [c]) n).length else 0 := fun c => by split <;> rfl
    simp only [h]
    omega
end Tw

set_option maxRecDepth 100000 in
set_option maxHeartbeats 3200000 in
theorem l11Count_any : ∀ (n : Nat) (s : ByteArray) (w : World), n ≤ 7 → s.size + n ≤ 100 →
    Calls Tryd.prog 26 #[.string s, .int .i64 (n : Int)] w fun e w' => e = .returned (.int .i64 (Tw.cntS s.data.toList n : Int)) ∧ Below w.heap.size w w'
  | 0, s, w, _, _ => by
    go_enter Tryd.func26, Tryd.ntmps26
    go_wp2_with fail
    go_ret
    exact ⟨rfl, Below.refl _ _⟩
  | n + 1, s, w, hn, hs => by
    have ih := fun (c : UInt8) (W : World) => l11Count_any n (s ++ (⟨#[c]⟩ : ByteArray)) W (by omega) (by rw [ByteArray.size_append]; show s.size + 1 + n ≤ _; omega)
    have hav := fun (c : UInt8) (W : World) => specAvoidsOk (s ++ (⟨#[c]⟩ : ByteArray)) W (by rw [ByteArray.size_append]; show s.size + 1 ≤ _; omega)
    rw [show ((n : Nat) : Int) = ((n + 1 : Nat) : Int) - 1 by omega] at ih
    have hpow : 4 ^ n ≤ 4 ^ 6 := Nat.pow_le_pow_right (by omega) (by omega)
    have hcl : ∀ c : UInt8, Tw.cntS (s ++ (⟨#[c]⟩ : ByteArray)).data.toList n ≤ 4096 := fun c => Nat.le_trans (Tw.cntS_le n _) hpow
    have hct : ∀ k, k ≤ 4 → Tw.cntTo s.data.toList n k ≤ 16384 := fun k hk => by
      have := Tw.cntTo_le n s.data.toList k hk
      omega
    have HAV := Lib.hid hav
    have HCL := Lib.hid hcl
    have HCT := Lib.hid hct
    obtain ⟨z, hz⟩ : ∃ z : Int, ((n + 1 : Nat) : Int) = z := ⟨_, rfl⟩
    have hz0 : (z == 0) = false := by simp; omega
    have hz1 : 1 ≤ z ∧ z ≤ 7 := by omega
    rw [hz] at ih ⊢
    have HIH := Lib.hid ih
    clear ih hav hcl hct hpow hz
    go_enter Tryd.func26, Tryd.ntmps26
    go_wp2_with fail
    go_loopw [5, 6] (fun a i wr => ∃ k : Nat, k ≤ 4 ∧ a = .int .i64 (Tw.cntTo s.data.toList n k : Int) ∧ i = .int .i64 k ∧ Below w.heap.size w wr) (fun _ i _ => 4 - (intOf i).toNat)
    case atStart => exact ⟨0, Nat.zero_le _, rfl, rfl, Below.refl _ _⟩
    case round =>
      obtain ⟨k, hk, rfl, rfl, hb⟩ := hrel
      have hle := HCT.out k hk
      by_cases hlt : k < 4
      · obtain ⟨c, hc, hk4⟩ : ∃ c, Tw.turn4[k]? = some c ∧ ((k = 0 ∧ c = 101) ∨ (k = 1 ∧ c = 110) ∨ (k = 2 ∧ c = 119) ∨ (k = 3 ∧ c = 115)) := by
          obtain rfl | rfl | rfl | rfl : k = 0 ∨ k = 1 ∨ k = 2 ∨ k = 3 := by omega
          · exact ⟨101, rfl, by simp⟩
          · exact ⟨110, rfl, by simp⟩
          · exact ⟨119, rfl, by simp⟩
          · exact ⟨115, rfl, by simp⟩
        have hnext := Tw.cntTo_succ (l := s.data.toList) (n := n) hc
        obtain ⟨a, ha⟩ : ∃ a, Tw.cntTo s.data.toList n k = a := ⟨_, rfl⟩
        rw [ha] at hnext hle ⊢
        have e : (s ++ (⟨#[c]⟩ : ByteArray)).data.toList = s.data.toList ++ [c] := by simp
        have hcl := HCL.out c
        have hih := HIH.out c
        have hav := HAV.out c
        rw [e] at hcl hih hav
        obtain ⟨u, hu⟩ : ∃ u, Tw.cntS (s.data.toList ++ [c]) n = u := ⟨_, rfl⟩
        obtain ⟨b, hb9⟩ : ∃ b, Tw.avoids (s.data.toList ++ [c]) = b := ⟨_, rfl⟩
        rw [hu] at hcl hih hnext
        rw [hb9] at hav hnext
        have HN := Lib.hid hnext
        have HI := Lib.hid hih
        have HV := Lib.hid hav
        clear hnext hih hav hu hb9 ha e hc
        have hbs := hb.size
        cases b
        all_goals
          rcases hk4 with ⟨rfl, rfl⟩ | ⟨rfl, rfl⟩ | ⟨rfl, rfl⟩ | ⟨rfl, rfl⟩
        all_goals
          go_wp2_with (first
            | (go_at_call 42; refine (HV.out _).mono ?_; rintro e w2 ⟨rfl, hb2⟩; have hb2' := hb.trans (hb2.mono hbs); have hbs2 := hb2'.size)
            | (go_at_call 26; refine (HI.out _).mono ?_; rintro e w3 ⟨rfl, hb3⟩; have hb3' := hb2'.trans (hb3.mono hbs2)))
          go_roundw
          case rel => exact ⟨_, hlt, by rw [HN.out]; first | rfl | (simp; done), rfl, by assumption⟩
          case measure => simp [intOf]
      · obtain rfl : k = 4 := by omega
        go_wp2_with fail
        go_ret
        exact ⟨ret_int (by rw [Tw.cntTo_all]), hb⟩

set_option maxHeartbeats 800000 in
theorem specCount (s : Int) (w : World) :
    Calls Tryd.prog 8 #[.int .i64 s] w fun e w' => e = .returned (.int .i64 (Tw.countI s)) ∧ Below w.heap.size w w' := by
  by_cases h : 0 ≤ s ∧ s ≤ 7
  · have HIN := Lib.hid (in_yes s 0 7 · h.1 h.2)
    by_cases h0 : s = 0
    · subst h0
      go_enter Tryd.func8, Tryd.ntmps8
      go_wp2_with (go_at_call 25; refine (HIN.out _).mono ?_; rintro e w' ⟨rfl, rfl⟩)
      go_ret
      exact ⟨rfl, Below.refl _ _⟩
    · obtain ⟨n, hn⟩ := Int.eq_ofNat_of_zero_le (show 0 ≤ s - 1 by omega)
      have hn6 : n < 7 := by omega
      have hc := Tw.count_east hn6
      rw [← Tw.cntS_walks] at hc
      have hle := Tw.count_le (n := n + 1) (by omega)
      have hs : s.toNat = n + 1 := by omega
      have hcall := fun W => l11Count_any n ⟨#[101]⟩ W (by omega) (by show 1 + n ≤ 100; omega)
      rw [← hn] at hcall
      obtain ⟨u, hu⟩ : ∃ u, Tw.cntS [101] n = u := ⟨_, rfl⟩
      rw [hu] at hc
      have hcall' : ∀ W, Calls Tryd.prog 26 #[.string ⟨#[101]⟩, .int .i64 (s - 1)] W fun e w' => e = .returned (.int .i64 (u : Int)) ∧ Below W.heap.size W w' := fun W => hu ▸ hcall W
      have HC := Lib.hid hcall'
      have hub : u ≤ 543 := by omega
      have HFIN : Hid (((4 : Int) * (u : Int)) = Tw.countI s) := by
        show _ = _
        unfold Tw.countI
        rw [if_pos h, hs, ← hc]
        omega
      have hz0 : (s == 0) = false := by simp; omega
      have hs1 : 1 ≤ s := by omega
      have hs7 : s ≤ 7 := h.2
      clear hc hcall hcall' hu hn hs h0 h
      go_enter Tryd.func8, Tryd.ntmps8
      go_wp2_with (first
        | (go_at_call 25; refine (HIN.out _).mono ?_; rintro e w' ⟨rfl, rfl⟩)
        | (go_at_call 26; refine (HC.out _).mono ?_; rintro e w1 ⟨rfl, hb1⟩))
      go_ret
      exact ⟨ret_int HFIN.out, hb1⟩
  · have HIN := Lib.hid (in_no s 0 7 · h)
    have HFIN : Hid (Tw.countI s = -1) := by show _ = _; unfold Tw.countI; rw [if_neg h]
    clear h
    go_enter Tryd.func8, Tryd.ntmps8
    go_wp2_with (go_at_call 25; refine (HIN.out _).mono ?_; rintro e w' ⟨rfl, rfl⟩)
    go_ret
    exact ⟨ret_int HFIN.out.symm, Below.refl _ _⟩
end Go.Proofs.YtjcagkpolfacpaaDoor

namespace Go.Proofs.YtjcagkpolfacpaaDoor
open Go.RowKit

namespace Tw
theorem onWalks_le : ∀ (n : Nat) (l : List UInt8), (onWalks l n).length ≤ 4 ^ n := fun n l => by rw [← cntS_walks]; exact cntS_le n l
theorem onTo_le (n : Nat) (l : List UInt8) (k : Nat) : (onTo l n k).length ≤ 4 ^ (n + 1) := Nat.le_trans (onTo_prefix l n k).length_le (onWalks_le (n + 1) l)
end Tw
theorem src_named {w : World} {v : Value} {zs : List ByteArray} (h : StrsAt w v zs) {M : Nat} (hM : zs.length = M) : (v = .slice none 0 0 ∧ M = 0 ∧ strVals zs = []) ∨ ∃ ad c, v = .slice (some ad) M c ∧ (strVals zs).length = M * 1 ∧ ∀ j u, (strVals zs)[j]? = some u → w.cell? (ad.add j) = some u := hM ▸ src_of h
theorem strs_append (a b : List ByteArray) : strVals (a ++ b) = strVals a ++ strVals b := by unfold strVals; rw [List.map_append]
def walkStrs (l : List UInt8) (n : Nat) : List ByteArray := (Tw.onWalks l n).map Tw.str

set_option maxRecDepth 100000 in
set_option maxHeartbeats 6400000 in
theorem l11Walks_any : ∀ (n : Nat) (s : ByteArray) (w : World), n ≤ 5 → s.size + n ≤ 100 →
    Calls Tryd.prog 28 #[.string s, .int .i64 (n : Int)] w (TextsOut w (walkStrs s.data.toList n))
  | 0, s, w, _, _ => by
    go_enter Tryd.func28, Tryd.ntmps28
    go_wp2_with fail
    go_ret
    refine ⟨_, rfl, ?_, Fresh.slice (Nat.le_refl _), (Below.refl _ _).alloc (Nat.le_refl _) _⟩
    have : walkStrs s.data.toList 0 = [s] := by unfold walkStrs Tw.onWalks; simp [Tw.str_of]
    rw [this]
    exact .inr ⟨w.heap.size, 0, 1, #[.string s], rfl, Nat.le_refl _, heap_alloc_new w _, by simp, fun j z hj => by
      cases j with
      | zero => obtain rfl := Option.some.inj hj; rfl
      | succ j => simp at hj⟩
  | n + 1, s, w, hn, hs => by
    have ih := fun (c : UInt8) (W : World) => l11Walks_any n (s ++ (⟨#[c]⟩ : ByteArray)) W (by omega) (by rw [ByteArray.size_append]; show s.size + 1 + n ≤ _; omega)
    have hav := fun (c : UInt8) (W : World) => specAvoidsOk (s ++ (⟨#[c]⟩ : ByteArray)) W (by rw [ByteArray.size_append]; show s.size + 1 ≤ _; omega)
    rw [show ((n : Nat) : Int) = ((n + 1 : Nat) : Int) - 1 by omega] at ih
    have hpow : 4 ^ n ≤ 4 ^ 4 := Nat.pow_le_pow_right (by omega) (by omega)
    have hcl : ∀ c : UInt8, (Tw.onWalks (s.data.toList ++ [c]) n).length ≤ 256 := fun c => Nat.le_trans (Tw.onWalks_le n _) hpow
    have hct : ∀ k, (Tw.onTo s.data.toList n k).length ≤ 1024 := fun k => Nat.le_trans (Tw.onTo_le n s.data.toList k) (Nat.pow_le_pow_right (n := 4) (by omega) (by omega : n + 1 ≤ 5))
    have HAV := Lib.hid hav
    have HCL := Lib.hid hcl
    have HCT := Lib.hid hct
    obtain ⟨z, hz⟩ : ∃ z : Int, ((n + 1 : Nat) : Int) = z := ⟨_, rfl⟩
    have hz0 : (z == 0) = false := by simp; omega
    have hz1 : 1 ≤ z ∧ z ≤ 7 := by omega
    rw [hz] at ih ⊢
    have HIH := Lib.hid ih
    clear ih hav hcl hct hpow hz
    obtain ⟨i0, hi0, hi1, hi2, hi3⟩ := info_parts stringInfo
    go_enter Tryd.func28, Tryd.ntmps28
    go_wp2_with fail
    go_loopw [5, 6] (fun a i wr => ∃ (k g cap : Nat), k ≤ 4 ∧ a = .slice (some ⟨g, 0, none⟩) (Tw.onTo s.data.toList n k).length cap ∧ i = .int .i64 k ∧ Hid (wr.ownsRow w.heap.size 9 1 (.slice (some ⟨g, 0, none⟩) (Tw.onTo s.data.toList n k).length cap) (Tw.onTo s.data.toList n k).length (strVals ((Tw.onTo s.data.toList n k).map Tw.str))) ∧ Below w.heap.size w wr) (fun _ i _ => 4 - (intOf i).toNat)
    case atStart => exact ⟨0, w.heap.size, 0, Nat.zero_le _, rfl, rfl, own_none w 9 w.heap.size (Nat.le_refl _), (Below.refl _ _).alloc (Nat.le_refl _) _⟩
    case round =>
      obtain ⟨k, g, cap, hk, rfl, rfl, HOWN, hb⟩ := hrel
      have hle := HCT.out k
      by_cases hlt : k < 4
      · obtain ⟨c, hc, hk4⟩ : ∃ c, Tw.order[k]? = some c ∧ ((k = 0 ∧ c = 101) ∨ (k = 1 ∧ c = 110) ∨ (k = 2 ∧ c = 115) ∨ (k = 3 ∧ c = 119)) := by
          obtain rfl | rfl | rfl | rfl : k = 0 ∨ k = 1 ∨ k = 2 ∨ k = 3 := by omega
          · exact ⟨101, rfl, by simp⟩
          · exact ⟨110, rfl, by simp⟩
          · exact ⟨115, rfl, by simp⟩
          · exact ⟨119, rfl, by simp⟩
        have hnext := Tw.onTo_succ (l := s.data.toList) (n := n) hc
        have e : (s ++ (⟨#[c]⟩ : ByteArray)).data.toList = s.data.toList ++ [c] := by simp
        have hcl := HCL.out c
        have hih := HIH.out c
        have hav := HAV.out c
        rw [e] at hih hav
        unfold walkStrs at hih
        obtain ⟨u, hu⟩ : ∃ u, Tw.onWalks (s.data.toList ++ [c]) n = u := ⟨_, rfl⟩
        obtain ⟨b, hb9⟩ : ∃ b, Tw.avoids (s.data.toList ++ [c]) = b := ⟨_, rfl⟩
        obtain ⟨us, hus⟩ : ∃ us, u.map Tw.str = us := ⟨_, rfl⟩
        have husl : us.length = u.length := by rw [← hus, List.length_map]
        rw [hu] at hcl hih hnext
        rw [hus] at hih
        rw [hb9] at hav hnext
        have HN := Lib.hid hnext
        have HI := Lib.hid hih
        have HV := Lib.hid hav
        have HUS := Lib.hid hus
        have HUL := Lib.hid husl
        clear hnext hih hav hu hb9 e hc hus husl
        have hbs := hb.size
        cases b
        · rcases hk4 with ⟨rfl, rfl⟩ | ⟨rfl, rfl⟩ | ⟨rfl, rfl⟩ | ⟨rfl, rfl⟩
          all_goals
            go_wp2_with (go_at_call 42; refine (HV.out _).mono ?_; rintro e w2 ⟨rfl, hb2⟩; have hb2' := (hb.alloc hbs _).trans (hb2.mono (by simp; omega)); have hbs2 := hb2'.size; have HO2 := Lib.hid (own_below (HOWN.out.alloc _) hb2))
            go_roundw
            case rel =>
              refine ⟨_, g, cap, hlt, ?_, rfl, ?_, hb2'⟩
              · rw [HN.out, if_neg (by simp), List.append_nil]
              · show World.ownsRow _ _ _ _ _ _ _
                rw [HN.out, if_neg (by simp), List.append_nil]
                exact HO2.out
            case measure => simp [intOf]
        · rcases hk4 with ⟨rfl, rfl⟩ | ⟨rfl, rfl⟩ | ⟨rfl, rfl⟩ | ⟨rfl, rfl⟩
          all_goals
            go_wp2_with (first
              | (go_at_call 42; refine (HV.out _).mono ?_; rintro e w2 ⟨rfl, hb2⟩; have hb2' := (hb.alloc hbs _).trans (hb2.mono (by simp; omega)); have hbs2 := hb2'.size; have HO2 := Lib.hid (own_below (HOWN.out.alloc _) hb2))
              | (go_at_call 28; refine (HI.out _).mono ?_; rintro e w3 ⟨v3, rfl, hp3, hf3, hb3⟩; obtain ⟨a3, c3, hv3⟩ := past_slice hp3 HUL.out; subst hv3; have hb3' := hb2'.trans (hb3.mono hbs2); have hbs3 := hb3'.size; have HO3 := Lib.hid (own_below HO2.out hb3); have P3 := Lib.hid hp3; clear hp3 hf3)
              | (at_builtin; refine wpList_append_src _ rfl (.tmp 25) (.tmp 31) 24 rfl w.heap.size 9 i0 _ 1 16 Tryd.underlying24 hi0 hi1 hi2 hi3 rfl (by omega) (.slice (some ⟨g, 0, none⟩) _ cap) _ _ rfl HO3.out (by simp) (.slice a3 u.length c3) u.length (strVals us) rfl (src_named P3.out.strs HUL.out) (one_strs _) (by unfold maxLen; omega) (by omega) (by omega) ?_; intro v4 w4 hown4 hgrow4 hne4; obtain ⟨g4, cap4, hv4⟩ := own_slice hown4 hne4; subst hv4))
            go_roundw
            case rel =>
              refine ⟨_, g4, cap4, hlt, ?_, rfl, ?_, hb3'.grown hgrow4 hbs3 (fun i hi => by obtain rfl : g = i := Option.some.inj hi; exact (HO3.out.lt g rfl).1)⟩
              · rw [HN.out, if_pos trivial, List.length_append]
              · show World.ownsRow _ _ _ _ _ _ _
                rw [HN.out, if_pos trivial, List.length_append, List.map_append, strs_append, HUS.out]
                exact hown4
            case measure => simp [intOf]
      · obtain rfl : k = 4 := by omega
        go_wp2_with fail
        go_ret
        have hown := HOWN.out
        rw [Tw.onTo_all] at hown
        refine ⟨_, rfl, ?_, Fresh.slice (hown.lt g rfl).1, hb⟩
        rw [Tw.onTo_all]
        exact past_own (by unfold walkStrs; rw [List.length_map]; exact hown)

set_option maxHeartbeats 800000 in
theorem specWalks (s : Int) (w : World) : Calls Tryd.prog 10 #[.int .i64 s] w (TextsOut w (walksI s)) := by
  by_cases h : 0 ≤ s ∧ s ≤ 5
  · have HIN := Lib.hid (in_yes s 0 5 · h.1 h.2)
    obtain ⟨N, rfl⟩ := Int.eq_ofNat_of_zero_le h.1
    have hcall := fun W => l11Walks_any N ⟨#[]⟩ W (by omega) (by show 0 + N ≤ 100; omega)
    have HC : Hid (∀ W, Calls Tryd.prog 28 #[.string ⟨#[]⟩, .int .i64 (N : Int)] W (TextsOut W (walksI (N : Int)))) := fun W => by
      have := hcall W
      unfold walksI
      rw [if_pos h]
      exact this
    clear hcall h
    go_enter Tryd.func10, Tryd.ntmps10
    go_wp2_with (first
      | (go_at_call 25; refine (HIN.out _).mono ?_; rintro e w' ⟨rfl, rfl⟩)
      | (go_at_call 28; refine (HC.out _).mono ?_; rintro e w1 ⟨v1, rfl, hp1, hf1, hb1⟩))
    go_ret
    exact ⟨_, rfl, hp1, hf1, hb1⟩
  · have HIN := Lib.hid (in_no s 0 5 · h)
    have HZ : Hid (walksI s = []) := by show _ = _; unfold walksI; rw [if_neg h]
    clear h
    go_enter Tryd.func10, Tryd.ntmps10
    go_wp2_with (go_at_call 25; refine (HIN.out _).mono ?_; rintro e w' ⟨rfl, rfl⟩)
    go_ret
    rw [HZ.out]
    refine ⟨_, rfl, ?_, Fresh.slice (Nat.le_refl _), (Below.refl _ _).alloc (Nat.le_refl _) _⟩
    exact .inr ⟨w.heap.size, 0, 0, #[], rfl, Nat.le_refl _, heap_alloc_new w _, by simp, fun j z hj => by simp at hj⟩
end Go.Proofs.YtjcagkpolfacpaaDoor

namespace Go.Proofs.YtjcagkpolfacpaaDoor.fnExactWalksOf
open Go.ChangeShapes Go.WideShapes Go.ChangeAt Go.RowKit Go.WideMaps Go.WideElems
open Go.ChangeMaps (open_string shut_string)

theorem mark_one (v : Value) (zs : List ByteArray) (w : World) (h : PastAt w v zs) (L : Nat) (hL : zs.length = L) (hn : L ≤ 1048577) :
    Calls Tryd.prog 13 #[v, .int .i64 1] w fun e w' => e = .returned (.int .i64 (1 + (L : Int))) ∧ PastAt w' v (marksOf 1 L) ∧ But v w w' := by
  subst hL
  exact markStrings_any v zs 1 w h hn (by omega) (by omega)
theorem held_one (v : Value) (n : Nat) (w : World) (h : PastAt w v (marksOf 1 n)) (hn : n ≤ 1048577) :
    Calls Tryd.prog 14 #[v, .int .i64 1] w fun e w' => e = .returned (.int .i64 (1 + (n : Int))) ∧ Below w.heap.size w w' := heldStrings_any v n 1 w h hn (by omega) (by omega)
theorem eq_same (v u : Value) (zs : List ByteArray) (w : World) (h : StrsAt w v zs) (k : StrsAt w u zs) (hn : zs.length ≤ 1048577) :
    Calls Tryd.prog 12 #[v, u] w fun e w' => e = .returned (.bool true) ∧ Below w.heap.size w w' := by
  have := eqStrings_any v u zs zs w h k (by omega) (by omega)
  rwa [decide_eq_true rfl] at this

set_option maxRecDepth 100000 in
set_option maxHeartbeats 1600000 in
theorem walk (s : Int) (w : World) (hw : DirsAt w) (_ : -9223372036854775808 ≤ s ∧ s ≤ 9223372036854775807) :
    Calls Tryd.prog 4 #[.int .i64 s] w fun e w' => e = .returned (.bool true) ∧ Below w.heap.size w w' := by
    have hfew := walksI_few s
    have hsp := fun W => specWalks s W
    have him := fun W => implWalks s W
    obtain ⟨zs, hzs⟩ : ∃ zs, walksI s = zs := ⟨_, rfl⟩
    rw [hzs] at hfew hsp him
    obtain ⟨L, hL⟩ : ∃ L, zs.length = L := ⟨_, rfl⟩
    rw [hL] at hfew
    have HSP := Lib.hid hsp
    have HIM := Lib.hid him
    have HL := Lib.hid hL
    have HW := Lib.hid hw
    clear hsp him hL hw hzs
    go_enter Tryd.func4, Tryd.ntmps4
    go_wp2_with (first
      | (go_at_call 10; refine (HSP.out w).mono ?_; rintro e w1 ⟨v1, rfl, hp1, hf1, hb1⟩; obtain ⟨a1, c1, hv1⟩ := past_slice hp1 HL.out; subst hv1; have P1 := Lib.hid hp1; have hs1 := hb1.size; clear hp1)
      | (go_at_call 11; first
          | (have hq := B4; refine (HIM.out _ (HW.out.below' B4.out)).mono ?_; rintro e w5 ⟨v5, rfl, hp5, hf5, hb5⟩; obtain ⟨a5, c5, hv5⟩ := past_slice hp5 HL.out; subst hv5; have P5 := Lib.hid hp5; have B5 := Lib.hid (B4.out.trans (hb5.mono hs4)); have hs5 := B5.out.size; have Q5 := Lib.hid (Q4.out.below' hb5); have M5 := Lib.hid (M4.out.below hb5); clear hp5 hb5)
          | (refine (HIM.out _ (HW.out.below' hb1)).mono ?_; rintro e w2 ⟨v2, rfl, hp2, hf2, hb2⟩; obtain ⟨a2, c2, hv2⟩ := past_slice hp2 HL.out; subst hv2; have P2 := Lib.hid hp2; have B2 := Lib.hid (hb1.trans (hb2.mono hs1)); have hs2 := B2.out.size; have Q2 := Lib.hid (P1.out.below hb2).strs; have F2 : Hid (∀ b, (Value.slice a2 L c2).ownBlock = some b → (Value.slice a1 L c1).ownBlock ≠ some b) := (fun b hb h9 => by have h8 := hf2 b hb; have h7 := past_lt P1.out h9; omega); have G2 := Lib.hid (fresh_ext (a := w) hb1 hf2); clear hp2 hb2 hf2))
      | (go_at_call 12; first
          | (have hq := B5; refine (eq_same _ _ zs _ P5.out.strs Q5.out (by rw [HL.out]; omega)).mono ?_; rintro e w6 ⟨rfl, hb6⟩; have B6 := Lib.hid (B5.out.trans (hb6.mono hs5)); have hs6 := B6.out.size; have M6 := Lib.hid (M5.out.below hb6); clear hb6)
          | (refine (eq_same _ _ zs _ P2.out.strs Q2.out (by rw [HL.out]; omega)).mono ?_; rintro e w3 ⟨rfl, hb3⟩; have P3 := Lib.hid (P2.out.below hb3); have Q3 := Lib.hid (Q2.out.below' hb3); have B3 := Lib.hid (B2.out.trans (hb3.mono hs2)); have hs3 := B3.out.size; clear hb3))
      | (go_at_call 13; refine (mark_one _ zs _ P3.out L HL.out (by omega)).mono ?_; rintro e wm ⟨rfl, hpm, hbm⟩; have Mm := Lib.hid hpm; have Qm := Lib.hid (hbm.strs Q3.out (fun b hb => F2.out b hb)); have Bm := Lib.hid (B3.out.trans (hbm.below G2.out hs3)); have hsm := Bm.out.size; clear hpm hbm)
      | (go_at_call 14; first
          | (have hq := B6; refine (held_one _ L _ M6.out (by omega)).mono ?_; rintro e w7 ⟨rfl, hb7⟩; have B7 := Lib.hid (B6.out.trans (hb7.mono hs6)); clear hb7)
          | (refine (held_one _ L _ Mm.out (by omega)).mono ?_; rintro e w4 ⟨rfl, hb4⟩; have M4 := Lib.hid (Mm.out.below hb4); have Q4 := Lib.hid (Qm.out.below' hb4); have B4 := Lib.hid (Bm.out.trans (hb4.mono hsm)); have hs4 := B4.out.size; clear hb4)))
    go_ret
    exact ⟨rfl, B7.out⟩

set_option maxRecDepth 100000 in
theorem own : ownKnob Tryd.prog.godebug = none := by kernel_rfl
set_option maxRecDepth 100000 in
theorem laidOut : laidOutB Tryd.prog = true := by kernel_rfl
set_option maxRecDepth 100000 in
theorem rowed : rowsOk Tryd.prog Tryd.f4.params.toList = true := by kernel_rfl
set_option maxRecDepth 100000 in
theorem varred : varsOk Tryd.prog Rows.fnExactWalksOfSpec.vars = true := by kernel_rfl
set_option maxRecDepth 100000 in
theorem resType : Tryd.f4.resultTypes = #[4] := by kernel_rfl

set_option maxRecDepth 100000 in
theorem contract (H : Type) (enc : TypeId × Value → H) (W : World) (base : Nat) (args : Array Value) (ds gs : List (DataW H)) (before : List MemPlace)
    (hval : ∀ (j : Nat) t v, Tryd.f4.params[j]? = some t → args[j]? = some v → Value.okWide Tryd.prog W .any base t v)
    (hW : DataW.Whole enc Tryd.prog Tryd.f4.params.toList Rows.fnExactWalksOfSpec.vars false W args.toList ds gs before) (hL : laidMetH Tryd.prog Rows.fnExactWalksOfRow.laid W) :
    Calls Tryd.prog 4 args W fun e W' => ∃ v, e = .returned v ∧ Rows.fnExactWalksOfSpec.post enc Tryd.prog Tryd.f4 false true false false W args v W' := by
  have hW' := hW
  obtain ⟨p, q, hA0, hV, rfl, hfz, hnd⟩ := hW
  have hA : DataW.TrodAll enc Tryd.prog W 0 (fun _ => true) true Tryd.f4.params.toList args.toList ds p := hA0
  rw [Tryd.params4] at hA hval
  obtain ⟨v0, vs0, d0, ds0, p0, q0, hargs, rfl, rfl, h0, r0⟩ := trodAll_cons hA
  obtain ⟨rfl, rfl, rfl⟩ := trodAll_nil r0
  obtain rfl : args = #[v0] := by cases args; simp_all
  obtain ⟨g0, rfl⟩ := trodVars_len1 hV
  obtain ⟨x0, rfl, rfl, rfl, z0⟩ := open_int Tryd.underlying3 (hval 0 3 v0 rfl rfl) h0
  have t_dirs : DirsAt W := dirsAt (by kernel_rfl) hL (by simp [Rows.fnExactWalksOfRow])
  refine (walk x0 W t_dirs (bounds_i64 z0)).mono fun e W' ⟨he, hb⟩ => ?_
  subst he
  exact ⟨_, rfl, law_post laidOut rowed varred resType Tryd.underlying4 hW' ⟨rfl, rfl, rfl⟩ hb⟩

/-- A world for the witness: the settled one, the listed variables holding what their initialisers lay. -/
noncomputable def laidWorld (os : Os) : World := { World.holding Tryd.prog os ⟨#[], #[], []⟩ with heap := ((World.holding Tryd.prog os ⟨#[], #[], []⟩).heap.modify 1 fun
      | .cells _ t frozen => .cells #[.int .i64 1, .int .i64 0, .int .i64 0, .int .i64 1, .int .i64 (-1), .int .i64 0, .int .i64 0, .int .i64 (-1)] t frozen
      | o => o) }
set_option maxRecDepth 100000 in
theorem laid_met (os : Os) : laidMet Tryd.prog Rows.fnExactWalksOfRow.laid ((laidWorld os).forCall (fun _ _ => 0) ⟨#[], #[.int .i64 0], []⟩).memory := laidMet_of_run' 8 (by kernel_rfl) (by kernel_rfl)
set_option maxRecDepth 100000 in
theorem reads (os : Os) {H : Type} (enc : TypeId × Value → H) : ∃ places, DataW.whole enc Tryd.prog ((laidWorld os).forCall (fun _ _ => 0) ⟨#[], #[.int .i64 0], []⟩).memory Tryd.f4.params.toList Rows.fnExactWalksOfSpec.vars false (#[.int .i64 0] : Array Value).toList 8 = some ([.lit (.int .i64 0)], [Rows.laid_loop_example_turtlewalks_impl_directions], places) := ⟨MemPlace.row ⟨1, 0, none⟩ 8, by kernel_rfl⟩

set_option maxRecDepth 100000 in
theorem lifted (os : Os) (started : os.Started) (H : Type) (enc : TypeId × Value → H) (F : Stop.Interp) :
    ReturnsInHanded {} Tryd.checked os 4 .any ((OpenSpec.ofChange Rows.fnExactWalksOfSpec).preRow enc Tryd.prog Tryd.f4 Rows.fnExactWalksOfRow.domain false Rows.fnExactWalksOfRow.laid) (((OpenSpec.ofChange Rows.fnExactWalksOfSpec).at F).post enc Tryd.prog Tryd.f4 false true false false) := by
  obtain ⟨places, hx⟩ := reads os enc
  refine returnsInHanded_of_row (C := Tryd.checked) (s := OpenSpec.ofChange Rows.fnExactWalksOfSpec) own started (by kernel_rfl) Tryd.func4
    (witness_row_at (enc := enc) (C := Tryd.checked) false (laidWorld os) #[.int .i64 0] rfl (by kernel_rfl) (by kernel_rfl) (by kernel_rfl)
      (OpenSpec.preRow_of_cond 8 hx (by kernel_rfl) (fun k hk => by cases hk) (by kernel_rfl) (laid_met os))) ?_
  intro W base args ds gs before hval hW _ _ _ hL _ _
  exact contract H enc W base args ds gs before hval hW hL

set_option maxRecDepth 100000 in
theorem said : Rows.FnExactWalksOfSaid :=
  OpenClaim.holds_of_cond 4 Tryd.f4 rfl rfl rfl rfl rfl rfl rfl ⟨rfl, rfl, rfl, rfl, rfl⟩ rfl rfl rfl rfl rfl (by kernel_rfl) Tryd.func4 (by kernel_rfl)
    (of_decide_eq_true (by kernel_rfl)) (by unfold Func.isWrapper; first | (rw [if_pos (by decide +kernel)]; kernel_rfl) | (rw [if_neg (by decide +kernel)]; exact ⟨rfl, rfl⟩))
    (fun os started H enc _ F => by rw [OpenClaim.pre_eq_preRow]; exact lifted os started H enc F)

set_option maxRecDepth 100000 in
theorem plain (f : FuncId) (fn : Func) (hf : Tryd.pinned.checked.prog.funcNamed "loop.example/turtlewalks/laws.FnExactWalksOf" = some f) (hfn : Tryd.pinned.checked.prog.funcs[f]? = some fn) :
    false = Tryd.pinned.checked.prog.looks [] ∧ ∀ (j : Nat) t, fn.params[j]? = some t → Tryd.pinned.checked.prog.wantsStandIn t = false := by
  obtain rfl : f = 4 := Option.some.inj ((show Tryd.prog.funcNamed "loop.example/turtlewalks/laws.FnExactWalksOf" = some 4 by kernel_rfl).symm.trans hf) |>.symm
  obtain rfl : fn = Tryd.f4 := (Option.some.inj (Tryd.func4.symm.trans hfn)).symm
  refine ⟨by kernel_rfl, fun j t ht => ?_⟩
  rw [Tryd.params4] at ht
  have hm : t ∈ [3] := by simpa using Array.mem_of_getElem? ht
  have hall : ([3].all fun u => !Tryd.prog.wantsStandIn u) = true := by kernel_rfl
  exact (show Tryd.prog.wantsStandIn t = false by simpa using List.all_eq_true.1 hall t hm)

set_option maxRecDepth 100000 in
theorem card : Rows.FnExactWalksOfCardSaid :=
  Claim7.holds_tied_plain_at .later [] _ _ _ _ said (fun _ h => by cases h) (by kernel_rfl) (fun _ h => by cases h) fnExactWalksOf_row_tie rfl ⟨rfl, rfl⟩ (by kernel_rfl) rfl plain (by kernel_rfl)

end Go.Proofs.YtjcagkpolfacpaaDoor.fnExactWalksOf
