/-
  RunsOf, of the program.
-/
import Derived.Test.YtjcagkpolfacpaaRunsIter
import Derived.Test.YtjcagkpolfacpaaRunsSpec
import Derived.Test.YtjcagkpolfacpaaSteps
import Derived.Maps.AppendAt
import Derived.Sort.Grow
import Derived.Lib.RowBridge
import Derived.Deep.AppendLies
namespace Go.Proofs.Ytjcagkpolfacpaa
open Go Go.RowKit
attribute [local go_sem] Oper.semAt_some
open Go.Sort (Holds putRow putCells grow grow_empty heap_grow_old)

def numCells (zs : List Nat) : List Value := zs.map fun n : Nat => .int .i64 (n : Int)
/-- Numbers in a row known whole. -/
def NumAt (w : World) (g cap : Nat) (zs : List Nat) : Prop := ∃ cur : Array Value, w.heap[g]? = some (.cells cur 3 (0, 0)) ∧ cap ≤ cur.size ∧ zs.length ≤ cap ∧ ∀ (j : Nat) (z : Nat), zs[j]? = some z → cur[j]? = some (.int .i64 (z : Int))
theorem num_own {w : World} {base g n cap : Nat} {zs : List Nat} (h : w.ownsRow base 3 1 (.slice (some ⟨g, 0, none⟩) n cap) n (numCells zs)) (hn : zs.length = n) : NumAt w g cap zs := by
  rcases h.2 with ⟨h1, _⟩ | ⟨g', cap', cur, h1, _, hg, hl, _, hs, ht⟩
  · cases h1
  · cases h1
    refine ⟨cur, hg, by omega, by omega, fun j z hz => ?_⟩
    have hj := (List.getElem?_eq_some_iff.1 hz).1
    have e : (cur.toList.take (n * 1))[j]? = (numCells zs)[j]? := by rw [ht]
    rw [List.getElem?_take, if_pos (by omega), Array.getElem?_toList] at e
    rw [e]
    unfold numCells
    rw [List.getElem?_map, hz]
    rfl
theorem NumAt.lt {w : World} {g cap : Nat} {zs : List Nat} (h : NumAt w g cap zs) : g < w.heap.size := by
  obtain ⟨cur, hg, _⟩ := h
  exact (Array.getElem?_eq_some_iff.1 hg).1
theorem NumAt.cell {w : World} {g cap : Nat} {zs : List Nat} (h : NumAt w g cap zs) {j : Nat} (hj : j < zs.length) : w.cell? ⟨g, j, none⟩ = some (.int .i64 ((zs[j]?.getD 0 : Nat) : Int)) := by
  obtain ⟨cur, hg, _, _, hz⟩ := h
  rw [cell_of_row _ _ _ _ _ _ hg, hz j _ (List.getElem?_eq_getElem hj)]
  simp [hj]
theorem NumAt.below {w w' : World} {g cap B : Nat} {zs : List Nat} (h : NumAt w g cap zs) (hb : Below B w w') (hg : g < B) : NumAt w' g cap zs := by
  obtain ⟨cur, h1, h2⟩ := h
  exact ⟨cur, (hb.block _ hg).trans h1, h2⟩
theorem NumAt.holds {w : World} {g cap : Nat} {zs : List Nat} (h : NumAt w g cap zs) : Holds (Value.int .i64) w g 0 (zs.map fun n : Nat => (n : Int)).toArray := by
  obtain ⟨cur, hg, _, _, hz⟩ := h
  intro j hj
  have hj' : j < zs.length := by simpa using hj
  refine ⟨?_, frozen_of_row _ _ _ _ _ hg⟩
  rw [Nat.zero_add, cell_of_row _ _ _ _ _ _ hg, hz j _ (List.getElem?_eq_getElem hj')]
  simp [getElem!_pos, hj']
theorem NumAt.put {w : World} {g cap : Nat} {zs ys : List Nat} (h : NumAt w g cap zs) (hl : ys.length = zs.length) (n : Nat) (os : Array Obj) : NumAt (grow (putRow (Value.int .i64) (Go.Sort.ahead w n) g 0 (ys.map fun n : Nat => (n : Int)).toArray) os) g cap ys := by
  have hlt := h.lt
  obtain ⟨cur, hg, hc, hcap, hz⟩ := h
  refine ⟨putCells (Value.int .i64) 0 (ys.map fun n : Nat => (n : Int)).toArray cur, ?_, by simpa [putCells] using hc, by omega, fun j z hj => ?_⟩
  · rw [heap_grow_old _ _ (by simpa using hlt)]
    show (w.heap.modify g _)[g]? = _
    rw [Array.getElem?_modify, if_pos rfl, hg]
    rfl
  · have hj' := (List.getElem?_eq_some_iff.1 hj)
    obtain ⟨hj1, hj2⟩ := hj'
    have hjc : j < cur.size := by omega
    unfold putCells
    rw [Array.getElem?_mapIdx, Array.getElem?_eq_getElem hjc]
    simp only [Option.map_some, Nat.zero_le, Nat.zero_add, true_and, Nat.sub_zero, List.size_toArray, List.length_map]
    rw [if_pos hj1]
    simp [getElem!_pos, hj1, hj2]
theorem nput_below {w W : World} {B g : Nat} {ys : Array Int} (h : Below B w W) (hg : B ≤ g) (hgW : g < W.heap.size) (n : Nat) (os : Array Obj) : Below B w (grow (putRow (Value.int .i64) (Go.Sort.ahead W n) g 0 ys) os) := by
  have hs := h.size
  refine ⟨h.os, h.tape, h.output, by simp; omega, fun k hk => ?_⟩
  rw [← h.block k hk]
  rcases Nat.lt_or_ge k W.heap.size with h1 | h1
  · rw [heap_grow_old _ _ (by simpa using h1)]
    show (W.heap.modify g _)[k]? = _
    rw [Array.getElem?_modify, if_neg (by omega)]
  · omega

namespace Rn
/-- A row of numbers, sorted. -/
def sortN (s : List Nat) : List Nat := s.mergeSort fun x y => decide (x ≤ y)
theorem sortN_ints (s : List Nat) : (s.map fun n : Nat => (n : Int)).mergeSort (fun x y => decide (x ≤ y)) = (sortN s).map fun n : Nat => (n : Int) := by
  unfold sortN
  exact (List.map_mergeSort (f := fun n : Nat => (n : Int)) (r := fun x y => decide (x ≤ y)) (s := fun x y => decide (x ≤ y)) (by intro a _ b _; simp)).symm
theorem sort_bound {s : List Nat} (h : ∀ v ∈ s, v ≤ 256) (j : Nat) : (sortN s)[j]?.getD 0 ≤ 256 := by
  cases hj : (sortN s)[j]? with
  | none => exact Nat.zero_le _
  | some v => exact h v ((List.mergeSort_perm s _).mem_iff.1 (List.mem_of_getElem? hj))
theorem sortN_length (s : List Nat) : (sortN s).length = s.length := List.length_mergeSort _
end Rn

theorem sort_nums {w : World} {g cap B : Nat} {zs : List Nat} (hB : B ≤ g) (h : NumAt w g cap zs) (hl : zs.length ≤ 1000) :
    Calls Try.prog 13 #[.slice (some ⟨g, 0, none⟩) zs.length cap] w fun e w' => e = .returned (.tuple #[]) ∧ NumAt w' g cap (Rn.sortN zs) ∧ Below B w w' := by
  have hg : g < w.heap.size := h.lt
  have hs := Try.slices_Sort_int g 0 cap (zs.map fun n : Nat => (n : Int)) w h.holds hg (by simp; omega)
  rw [List.length_map, Rn.sortN_ints] at hs
  refine hs.mono ?_
  rintro e w' ⟨rfl, n, os, rfl⟩
  exact ⟨rfl, h.put (Rn.sortN_length zs) n os, nput_below (Below.refl _ _) hB hg n os⟩
theorem intInfo : (Try.prog.info? 3).map (fun i => (i.zero, i.size, i.bytes)) = some (some (.int .i64 0), 1, 8) := by kernel_rfl

theorem own_some {w : World} {base n : Nat} {e : TypeId} {size : Nat} {v : Value} {xs : List Value} (h : w.ownsRow base e size v n xs) (hn : 0 < xs.length) : ∃ g cap, v = .slice (some ⟨g, 0, none⟩) n cap ∧ base ≤ g := by
  rcases h.2 with ⟨_, h1⟩ | ⟨g, cap, cur, h1, h2, _⟩
  · have h3 := h.1
    rw [h1, Nat.zero_mul] at h3
    omega
  · exact ⟨g, cap, h1, h2⟩
theorem runsIn_any (g n cap : Nat) (w : World) :
    Calls Try.prog 14 #[.slice (some ⟨g, 0, none⟩) n cap] w fun e w' => e = .returned (.func (.func 23) #[] #[.pointer (some ⟨w.heap.size, 0, none⟩)]) ∧ w' = w.alloc (.cells #[.slice (some ⟨g, 0, none⟩) n cap] 32) := by
  go_enter Try.func14, Try.ntmps14
  go_wp2
  go_ret
  exact ⟨rfl, rfl⟩

set_option maxRecDepth 100000 in
set_option maxHeartbeats 3200000 in
theorem implRuns_yes (h l lo r hi : Nat) (hh : h ≤ 4) (h1 : l ≤ r) (h2 : lo ≤ hi) (h3 : r < 2 ^ h) (h4 : hi < 2 ^ h) (w : World) :
    Calls Try.prog 6 #[.int .i64 h, .int .i64 l, .int .i64 lo, .int .i64 r, .int .i64 hi] w fun e w' => e = .returned (.int .i64 (Rn.runsOf h l lo r hi)) ∧ Below w.heap.size w w' := by
  have hp := Rn.pow_le hh
  have HL := Lib.hid h3
  have HH := Lib.hid h4
  have hr16 : r < 16 := by omega
  have hhi16 : hi < 16 := by omega
  have k1 : decide (0 ≤ (h : Int) ∧ 0 ≤ (l : Int) ∧ (l : Int) < 2 ^ (h : Int).toNat ∧ 0 ≤ (lo : Int) ∧ (lo : Int) < 2 ^ (h : Int).toNat) = true := by
    have e : ((2 ^ h : Nat) : Int) = (2 : Int) ^ h := by push_cast; rfl
    simp only [Int.toNat_natCast, decide_eq_true_eq, ← e]
    omega
  have k2 : decide (0 ≤ (h : Int) ∧ 0 ≤ (r : Int) ∧ (r : Int) < 2 ^ (h : Int).toNat ∧ 0 ≤ (hi : Int) ∧ (hi : Int) < 2 ^ (h : Int).toNat) = true := by
    have e : ((2 ^ h : Nat) : Int) = (2 : Int) ^ h := by push_cast; rfl
    simp only [Int.toNat_natCast, decide_eq_true_eq, ← e]
    omega
  have HC1 := Lib.hid (cell_is _ (by omega) _ _ true k1)
  have HC2 := Lib.hid (cell_is _ (by omega) _ _ true k2)
  have HWV : Hid (∀ x y : Nat, x ≤ r → y ≤ hi → ∀ W, Calls Try.prog 12 #[.int .i64 h, .int .i64 x, .int .i64 y] W fun e w' => e = .returned (.int .i64 (Rn.woven x y)) ∧ W = w') := fun x y hx hy W => woven_at h x y hh (by omega) (by omega) W
  have hg : ¬ (4 : Int) < (h : Int) := by omega
  have HHH := Lib.hid hh
  have d1 : decide (r < l) = false := decide_eq_false (by omega)
  have d2 : decide (hi < lo) = false := decide_eq_false (by omega)
  clear k1 k2 h3 h4 hp hh
  obtain ⟨i0, hi0, hz0, hz1, hz2⟩ := info_parts intInfo
  refine (callsIn_wide (n := 6)).1 ?_
  refine callsIn_of_wp_marks Try.func6 rfl trivial ?_
  refine wpIn_wide.2 ?_
  simp only [Try.ntmps6, List.size_toArray, List.length_cons, List.length_nil, Nat.reduceAdd, Nat.reduceSub, Array.replicate_succ, Array.replicate_zero, List.push_toArray, List.append_toArray, List.nil_append, List.cons_append]
  go_wp2_with (first
    | (go_at_call 11; first | ((with_reducible refine (HC1.out _).mono ?_); rintro e w' ⟨rfl, rfl⟩) | ((with_reducible refine (HC2.out _).mono ?_); rintro e w' ⟨rfl, rfl⟩)))
  go_loopw [11, 12] (fun v i wr => ∃ x : Nat, l ≤ x ∧ x ≤ r + 1 ∧ i = .int .i64 x ∧ wr.ownsRow w.heap.size 3 1 v (Rn.columns l lo (x - l) (hi + 1 - lo)).length (numCells (Rn.columns l lo (x - l) (hi + 1 - lo))) ∧ Below w.heap.size w wr)
    (fun _ i _ => r + 1 - (intOf i).toNat)
  case atStart => exact ⟨l, Nat.le_refl _, by omega, rfl, by rw [Nat.sub_self]; exact World.ownsRow_nil _ _ _ _, Below.refl _ _⟩
  case round =>
    obtain ⟨x, hx1, hx2, rfl, hown, hb⟩ := hrel
    by_cases hlt : x < r + 1
    · have hxr : x ≤ r := by omega
      have hml := Rn.columns_length l lo (hi + 1 - lo) (x - l)
      have hcl : ∀ m, (Rn.column x lo m).length = m := fun m => Rn.column_length x lo m
      have hbig : (x - l) * (hi + 1 - lo) ≤ 16 * 16 := Nat.mul_le_mul (by omega) (by omega)
      have hm2 : (x + 1 - l) = (x - l) + 1 := by omega
      have hsucc := Rn.columns_succ l lo (x - l) (hi + 1 - lo)
      rw [show l + (x - l) = x by omega, ← hm2] at hsucc
      have HSU := Lib.hid hsucc
      have HHI := Lib.hid hlt
      obtain ⟨pre, hpre⟩ : ∃ pre, Rn.columns l lo (x - l) (hi + 1 - lo) = pre := ⟨_, rfl⟩
      rw [hpre] at hown hml
      have HPRE := Lib.hid hpre
      have hpl : pre.length ≤ 256 := by omega
      have HCL := Lib.hid hcl
      have HB := Lib.hid hb
      clear hml hbig hm2 hsucc hpre hcl hlt
      obtain ⟨wo, hwo⟩ : ∃ wo : World, wo = wr := ⟨_, rfl⟩
      subst hwo
      go_wp2_with fail
      go_loopw [11, 13] (fun v i wr => ∃ y : Nat, lo ≤ y ∧ y ≤ hi + 1 ∧ i = .int .i64 y ∧ wr.ownsRow w.heap.size 3 1 v (pre ++ Rn.column x lo (y - lo)).length (numCells (pre ++ Rn.column x lo (y - lo))) ∧ Below w.heap.size w wr)
        (fun _ i _ => hi + 1 - (intOf i).toNat)
      case atStart => exact ⟨lo, Nat.le_refl _, by omega, rfl, by rw [Nat.sub_self]; simpa [Rn.column] using hown, HB.out⟩
      case round =>
        obtain ⟨y, hy1, hy2, rfl, hown2, hb2⟩ := hrel
        by_cases hlt2 : y < hi + 1
        · have hl2 : (pre ++ Rn.column x lo (y - lo)).length ≤ 300 := by rw [List.length_append, HCL.out]; omega
          have hsn := Rn.column_succ x lo (y - lo)
          rw [show lo + (y - lo) = y by omega, show y - lo + 1 = y + 1 - lo by omega] at hsn
          have HSN := Lib.hid hsn
          obtain ⟨q, hq⟩ : ∃ q, pre ++ Rn.column x lo (y - lo) = q := ⟨_, rfl⟩
          rw [hq] at hown2 hl2
          have HQ := Lib.hid hq
          have HWX := Lib.hid (HWV.out x y hxr (by omega))
          obtain ⟨z, hz⟩ : ∃ z, Rn.woven x y = z := ⟨_, rfl⟩
          rw [hz] at HWX
          have HZ := Lib.hid hz
          have hyh : y ≤ hi := by omega
          have hs2 := hb2.size
          clear hsn hq hz hlt2
          go_wp2_with (first
            | (go_at_call 12; refine (HWX.out _).mono ?_; rintro e w' ⟨rfl, rfl⟩)
            | (at_builtin; refine wpList_append_own _ rfl _ _ 32 rfl w.heap.size 3 i0 (.int .i64 0) 1 8 Try.underlying32 hi0 hz0 hz1 hz2 rfl (by decide) _ _ _ rfl (hown2.alloc _) ⟨wr.heap.size, 0, none⟩ 1 1 [.int .i64 z] rfl rfl (cell_one_new _ _ _) (by simp [Value.oneCell']) (by unfold maxLen; omega) (by omega) (by simp; omega) ?_; intro v' w1 hown' hgrow _))
          go_roundw
          case rel =>
            refine ⟨y + 1, by omega, by omega, by go_num, ?_, ?_⟩
            · rw [HSN.out, ← List.append_assoc, HQ.out, HZ.out, List.length_append, show numCells (q ++ [z]) = numCells q ++ [.int .i64 (z : Int)] from by unfold numCells; rw [List.map_append]; rfl]
              exact hown'
            · exact (hb2.alloc hs2 _).grown hgrow (by simp; omega) (fun j hj => (hown2.2.elim (fun h9 => by rw [h9.1] at hj; cases hj) (fun ⟨g9, _, _, h9, h8, _⟩ => by rw [h9] at hj; cases hj; exact h8)))
          case measure => simp [intOf]; omega
        · obtain rfl : y = hi + 1 := by omega
          go_wp2_with fail
          go_roundw
          case rel => exact ⟨x + 1, by omega, by omega, by go_num, by rw [HSU.out, HPRE.out]; exact hown2, hb2⟩
          case measure => simp [intOf]; omega
    · obtain rfl : x = r + 1 := by omega
      obtain ⟨zs, hzs⟩ : ∃ zs, Rn.columns l lo (r + 1 - l) (hi + 1 - lo) = zs := ⟨_, rfl⟩
      have hzl := Rn.columns_length l lo (hi + 1 - lo) (r + 1 - l)
      have hbig : (r + 1 - l) * (hi + 1 - lo) ≤ 16 * 16 := Nat.mul_le_mul (by omega) (by omega)
      have hpos : 0 < (r + 1 - l) * (hi + 1 - lo) := Nat.mul_pos (by omega) (by omega)
      rw [hzs] at hown hzl
      have hz256 : zs.length ≤ 256 := by omega
      have hz0 : 0 < zs.length := by omega
      obtain ⟨g, cap, rfl, hgb⟩ := own_some hown (by unfold numCells; rw [List.length_map]; exact hz0)
      have hnum := num_own hown rfl
      have HRUN := Lib.hid (Rn.block_runs HHH.out h1 h2 HL.out HH.out (Rn.sortN zs) (by rw [hzs]; exact (Rn.sorted_of zs).1) (Rn.sorted_of zs).2)
      have HSRT := Lib.hid (sort_nums hgb hnum (by omega))
      have HSZ := Lib.hid (Rn.sortN_length zs)
      have HB := Lib.hid hb
      have hzb : ∀ v ∈ zs, v ≤ 256 := by
        intro v hv
        rw [← hzs] at hv
        obtain ⟨i, j, hi, hj, rfl⟩ := Rn.mem_columns.1 hv
        have := (Rn.woven_back (x := l + i) (y := lo + j) (by omega) (by omega)).2.2
        omega
      clear hzs hzl hbig hpos hown hnum hb
      go_wp2_with (first
        | (go_at_call 13; refine HSRT.out.mono ?_; rintro e w3 ⟨rfl, hn3, hb3⟩; have HN3 := Lib.hid hn3; have HB3 := Lib.hid (HB.out.trans hb3); clear hn3 hb3)
        | (go_at_call 14; refine (runsIn_any _ _ _ _).mono ?_; rintro e w4 ⟨rfl, rfl⟩))
      obtain ⟨R, hR⟩ : ∃ R, w3.heap.size = R := ⟨_, rfl⟩
      have hbd := Rn.sort_bound hzb
      obtain ⟨s, hs⟩ : ∃ s, Rn.sortN zs = s := ⟨_, rfl⟩
      have hn3 := HN3.out
      have hb3 := HB3.out
      have hsl := HSZ.out
      have hrn := HRUN.out
      rw [hs] at hn3 hsl hrn hbd
      have HBD := Lib.hid hbd
      have hrl := Rn.runsL_le s
      have HXL : Hid ((Rn.pairsTo s s.length).length = Rn.runsL s) := by show _ = _; rw [Rn.pairs_length, Rn.ends_all]
      clear hbd
      have hgR : g < w3.heap.size := hn3.lt
      have hwR := hb3.size
      obtain ⟨W0, hW0⟩ : ∃ W0, ((w3.alloc (.cells #[.int .i64 0] 3)).alloc (.cells #[.slice (some ⟨g, 0, none⟩) zs.length cap] 32)) = W0 := ⟨_, rfl⟩
      have hsz0 : W0.heap.size = R + 2 := by rw [← hW0, ← hR]; simp
      have hb30 : Below w3.heap.size w3 W0 := by rw [← hW0]; exact ((Below.refl _ _).alloc (Nat.le_refl _) _).alloc (by simp) _
      have hbox0 : W0.heap[R]? = some (.cells #[.int .i64 0] 3 (0, 0)) := by rw [← hW0, ← hR]; exact (Below.heap_alloc _ _ _ (by simp)).trans (World.alloc_heap_new w3 _)
      have hrow0 : W0.heap[R + 1]? = some (.cells #[.slice (some ⟨g, 0, none⟩) s.length cap] 32 (0, 0)) := by
        rw [← hW0, ← hR, hsl]
        have := World.alloc_heap_new (w3.alloc (.cells #[.int .i64 0] 3)) (.cells #[.slice (some ⟨g, 0, none⟩) zs.length cap] 32)
        rwa [World.size_alloc] at this
      have hn0 := hn3.below hb30 hgR
      have hrin : RowIn (R + 1) g cap s W0 := ⟨cell_of_row _ _ 0 _ _ _ hrow0, fun j hj => hn0.cell hj⟩
      have hbb0 : Below w.heap.size w W0 := hb3.trans (hb30.mono hwR)
      rw [hR] at hgR hwR ⊢
      rw [hW0]
      refine (wpIn_wide (n := 6)).1 ?_
      refine wpIn_rangeOwn (α := Nat × Nat) rfl (by decide) (gf := 23) (lb := #[.pointer (some ⟨R + 1, 0, none⟩)]) rfl trivial (enters_of Try.func23 (by kernel_rfl) rfl) (encs := fun x : Nat × Nat => #[.int .i64 (x.1 : Int), .int .i64 (x.2 : Int)]) (xs := Rn.pairsTo s s.length) (C := RowIn (R + 1) g cap s)
        (fun l J W _ _ hA hC hY h0 => runs1_in Fence.wide (6 - 1) trivial rfl (by decide) l (R + 1) (W0.heap.size + 2) g cap s (by omega) ?_ J hC hY W h0) (fun _ => rfl)
        (fun pre _ W => W.cell? ⟨R, 0, none⟩ = some (.int .i64 pre.length) ∧ W.frozen? ⟨R, 0, none⟩ = false ∧ RowIn (R + 1) g cap s W ∧ Below w.heap.size w W)
        ?own (fun _ _ _ h => h.2.2.1) ?start ?_ ?assign ?body ?done
      · exact HBD.out
      case own =>
        rintro pre q W W' ⟨i1, i2, i3, i4⟩ hs9
        have hb9 := hs9.below
        rw [hsz0] at hb9
        exact ⟨(hb9.cell (p := ⟨R, 0, none⟩) (by simp)).trans i1, (hb9.frozen (p := ⟨R, 0, none⟩) (by simp)).trans i2, ⟨(hb9.cell (p := ⟨R + 1, 0, none⟩) (by simp)).trans i3.1, fun j hj => (hb9.cell (p := ⟨g, j, none⟩) (by simp; omega)).trans (i3.2 j hj)⟩, i4.trans (hb9.mono (by omega))⟩
      case start => exact ⟨cell_of_row _ _ 0 _ _ _ hbox0, frozen_of_row _ _ _ _ _ hbox0, hrin, hbb0⟩
      case assign =>
        intro l x W K hK
        gi_wp2
        exact hK
      case body =>
        rintro l pre x q W ⟨i1, i2, i3, i4⟩ hpre hz9 hq9
        have hpl : (pre ++ [x]).length ≤ (Rn.pairsTo s s.length).length := hpre.length_le
        rw [HXL.out, List.length_append, List.length_singleton] at hpl
        have hlen : pre.length ≤ 256 := by omega
        clear hpl hpre
        gi_wp2
        refine ⟨q, ⟨?_, (by rw [World.frozen?_setCell]; exact i2), ⟨(World.cell?_of_block (w := W) (Below.heap_setCell _ _ _ _ (by simp))).trans i3.1, fun j hj => (World.cell?_of_block (w := W) (Below.heap_setCell _ _ _ _ (by simp; omega))).trans (i3.2 j hj)⟩, i4.setCell (by simp; omega) _⟩, SameOther.setCell (by simp; omega) _, NextRow.refl _ _, fun k e => ?_⟩
        · rw [World.cell?_setCell_same' _ _ _ (by rw [i1]; rfl), List.length_append]
          rfl
        · show k < (W.heap.modify _ _).size
          rw [Array.size_modify]
          exact (hq9 k e).2
      case done =>
        rintro q W ⟨i1, i2, i3, i4⟩ hz9 hk9
        go_wp2
        refine ⟨by simp, .inl ⟨_, _, rfl, run_takeDeferred hk9, ?_⟩⟩
        have hok : Rn.okB h l lo r hi = true := by
          unfold Rn.okB
          have e : ((2 ^ h : Nat) : Int) = (2 : Int) ^ h := by push_cast; rfl
          have h3 := HL.out
          have h4 := HH.out
          have h5 := HHH.out
          simp only [Int.toNat_natCast, decide_eq_true_eq, ← e]
          omega
        have hfin : ((Rn.pairsTo s zs.length).length : Int) = Rn.runsOf h l lo r hi := by
          unfold Rn.runsOf
          rw [if_pos hok]
          simp only [Int.toNat_natCast]
          rw [← hrn, ← HXL.out, hsl]
        refine ⟨_, results_tmp rfl _ _ _, ?_, i4.trans (belowK_b (w := w) (Nat.le_refl _) W _ _ _ (by omega) hk9 rfl rfl)⟩
        show Ending.returned (.int .i64 ((Rn.pairsTo s zs.length).length : Int)) = _
        exact ret_int hfin

end Go.Proofs.Ytjcagkpolfacpaa
