/-
  FnAllWays: for every code: the drawn walk has eight ways divided by those that leave it as it is, it is among them, each has the same ones, and they stand in the order of bytes. No condition beyond what the given statement itself bears.
-/
import Derived.Test.YtjcagkpolfacpaaDoorSame
import Derived.Test.YtjcagkpolfacpaaDoorCaughtPure
import Derived.Test.YtjcagkpolfacpaaDoorSortPure
import Derived.Test.YtjcagkpolfacpaaDoorShapeLaw
import Derived.Test.YtjcagkpolfacpaaDoorDrawAvoid
import Derived.Test.YtjcagkpolfacpaaDoorDrawWalk
import Derived.Test.YtjcagkpolfacpaaDoorMoved
import Derived.Test.YtjcagkpolfacpaaDoorBack
import Derived.Test.YtjcagkpolfacpaaDoorDeskDone
import Derived.Test.YtjcagkpolfacpaaDoorMarks
import Derived.Test.YtjcagkpolfacpaaDoorStrs
import Derived.BigQuiet
import Derived.Deep.QuietTactic
import Derived.Test.YtjcagkpolfacpaaDoorBase
import Derived.Test.YtjcagkpolfacpaaDoorLaw
import Derived.Test.YtjcagkpolfacpaaDoorDraw
import Derived.ChangeSlices
import Derived.Test.YtjcagkpolfacpaaDoorAllWaysSpec
import Derived.Deep.RegionHeld3
import Derived.Deep.RegionLaw
import Derived.WalkLawsBesides
import Derived.IntWalk
import Derived.Test.YtjcagkpolfacpaaDoorCards
import Derived.Test.YtjcagkpolfacpaaDoorTie

namespace Go.Proofs.YtjcagkpolfacpaaDoor
namespace Tw

def isEast (c : UInt8) : Bool := c == 101 || c == 119
def hasEast (l : List UInt8) : Bool := l.any isEast
def hasNorth (l : List UInt8) : Bool := l.any fun c => !isEast c
def keeps (i : Nat) (l : List UInt8) : Bool := l.all fun c => wayLetter i c == c
theorem keeps_letter {i : Nat} (hi : i < 8) {c : UInt8} (hc : 0 ≤ dir c) : (wayLetter i c == c) = if isEast c then (i == 0 || i == 4) else (i == 0 || i == 6) := by
  have h : (List.range 8).all (fun i => order.all fun c => (wayLetter (i : Int) c == c) == if isEast c then (i == 0 || i == 4) else (i == 0 || i == 6)) = true := by decide
  have h1 := List.all_eq_true.1 h i (List.mem_range.2 hi)
  have h2 := List.all_eq_true.1 h1 c (in_order hc)
  simpa using h2
theorem keeps_eq {i : Nat} (hi : i < 8) : ∀ {l : List UInt8}, valid l → keeps i l = ((!hasEast l || (i == 0 || i == 4)) && (!hasNorth l || (i == 0 || i == 6)))
  | [], _ => rfl
  | c :: l, hv => by
    have ih := keeps_eq hi (l := l) fun d hd => hv d (by simp [hd])
    have hc := keeps_letter hi (hv c (by simp))
    have e1 : keeps i (c :: l) = ((wayLetter i c == c) && keeps i l) := rfl
    have e2 : hasEast (c :: l) = (isEast c || hasEast l) := rfl
    have e3 : hasNorth (c :: l) = (!isEast c || hasNorth l) := rfl
    rw [e1, e2, e3, hc, ih]
    cases isEast c <;> cases hasEast l <;> cases hasNorth l <;> cases (i == 0) <;> cases (i == 4) <;> cases (i == 6) <;> rfl
theorem inWay_keeps {l : List UInt8} (h : walkOk l = true) {i : Nat} (hi : i < 8) : (inWay l i == l) = keeps i l := by
  rw [inWay_eq h (by omega) (by omega)]
  unfold wayList keeps
  rw [Bool.eq_iff_iff, beq_iff_eq, List.all_eq_true]
  constructor
  · intro e c hc
    obtain ⟨k, hk, rfl⟩ := List.getElem_of_mem hc
    have := List.getElem_of_eq e (i := k) (by simpa using hk)
    simpa using this
  · intro e
    exact (List.map_congr_left fun c hc => by simpa using e c hc).trans (List.map_id l)
theorem same_eq {l : List UInt8} (h : walkOk l = true) : sameTo l 8 = ((List.range 8).filter fun i => (!hasEast l || (i == 0 || i == 4)) && (!hasNorth l || (i == 0 || i == 6))).length := by
  have hv := ((walkOk_iff l).1 h).2
  unfold sameTo
  congr 1
  refine List.filter_congr fun i hi => ?_
  have hi8 := List.mem_range.1 hi
  rw [inWay_keeps h hi8, keeps_eq hi8 hv]
theorem same_none {l : List UInt8} (h : walkOk l = true) (he : hasEast l = false) (hn : hasNorth l = false) : sameTo l 8 = 8 := by rw [same_eq h, he, hn]; rfl
theorem same_two {l : List UInt8} (h : walkOk l = true) (hx : hasEast l ≠ hasNorth l) : sameTo l 8 = 2 := by
  rw [same_eq h]
  cases he : hasEast l <;> cases hn : hasNorth l
  · exact absurd (he.trans hn.symm) hx
  · rfl
  · rfl
  · exact absurd (he.trans hn.symm) hx
theorem same_one {l : List UInt8} (h : walkOk l = true) (he : hasEast l = true) (hn : hasNorth l = true) : sameTo l 8 = 1 := by rw [same_eq h, he, hn]; rfl
theorem hasEast_take {l : List UInt8} {k : Nat} (hk : k < l.length) : hasEast (l.take (k + 1)) = (hasEast (l.take k) || isEast l[k]) := by
  unfold hasEast
  rw [take_snoc _ _ hk, List.any_append]
  simp
theorem hasNorth_take {l : List UInt8} {k : Nat} (hk : k < l.length) : hasNorth (l.take (k + 1)) = (hasNorth (l.take k) || !isEast l[k]) := by
  unfold hasNorth
  rw [take_snoc _ _ hk, List.any_append]
  simp

end Tw
end Go.Proofs.YtjcagkpolfacpaaDoor

namespace Go.Proofs.YtjcagkpolfacpaaDoor
namespace Tw

theorem mem_waysUpTo {l x : List UInt8} {k : Nat} : x ∈ waysUpTo l k ↔ ∃ w, w < k ∧ x = wayList (w : Int) l := by
  unfold waysUpTo
  simp only [List.mem_map, List.mem_range]
  constructor
  · rintro ⟨w, hw, rfl⟩
    exact ⟨w, hw, rfl⟩
  · rintro ⟨w, hw, rfl⟩
    exact ⟨w, hw, rfl⟩
theorem mem_allWays {l x : List UInt8} : x ∈ allWays l ↔ ∃ w, w < 8 ∧ x = wayList ((w : Nat) : Int) l := by
  unfold allWays
  rw [(insAll_facts _).2.1 x, mem_waysUpTo]
theorem strict_allWays (l : List UInt8) : Strict (allWays l) := (insAll_facts _).1
theorem self_allWays {l : List UInt8} (hv : valid l) : l ∈ allWays l :=
  mem_allWays.2 ⟨0, by omega, by
    unfold wayList
    exact ((List.map_congr_left fun c hc => way_zero c (hv c hc)).trans (List.map_id l)).symm⟩
theorem way_way {v w : Nat} (l : List UInt8) : ∃ u : Nat, u < 8 ∧ wayList (w : Int) (wayList (v : Int) l) = wayList (u : Int) l := by
  have hr := wayThen_range (v := (v : Int)) (w := (w : Int))
  obtain ⟨u, hu⟩ := Int.eq_ofNat_of_zero_le hr.1
  exact ⟨u, by omega, by rw [wayList_then, hu]⟩
theorem back_range (w : Nat) (hw : w < 8) : 0 ≤ wayBack (w : Int) ∧ wayBack (w : Int) ≤ 7 := by
  have h : (List.range 8).all (fun w => decide (0 ≤ wayBack (w : Int)) && decide (wayBack (w : Int) ≤ 7)) = true := by decide
  have := List.all_eq_true.1 h w (List.mem_range.2 hw)
  simpa using this
theorem ways_ways {l z : List UInt8} (hv : valid l) (hz : z ∈ allWays l) : allWays z = allWays l := by
  obtain ⟨w, hw, rfl⟩ := mem_allWays.1 hz
  refine strict_unique (strict_allWays _) (strict_allWays _) (fun x => ?_)
  rw [mem_allWays, mem_allWays]
  constructor
  · rintro ⟨v, hv8, rfl⟩
    obtain ⟨u, hu, e⟩ := way_way (v := w) (w := v) l
    exact ⟨u, hu, e⟩
  · rintro ⟨v, hv8, rfl⟩
    obtain ⟨b, hb⟩ := Int.eq_ofNat_of_zero_le (back_range w hw).1
    obtain ⟨u, hu, e⟩ := way_way (v := b) (w := v) (wayList (w : Int) l)
    refine ⟨u, hu, ?_⟩
    rw [← e, ← hb, wayList_undo hv]

/-! ### how many -/
theorem ins_new {x : Tx} : ∀ {zs : List Tx}, x ∉ zs → (insT x zs).length = zs.length + 1
  | [], _ => rfl
  | z :: zs, h => by
    have h1 : z ≠ x := fun e => h (by rw [e]; simp)
    have h2 := ins_new (zs := zs) (fun e : x ∈ zs => h (List.mem_cons_of_mem _ e))
    unfold insT
    split
    · simp [h2]
    · simp
theorem insFold_new : ∀ (l acc : List Tx), (∀ x ∈ l, x ∉ acc) → l.Nodup → (l.foldl (fun acc x => insT x acc) acc).length = acc.length + l.length
  | [], acc, _, _ => by simp
  | x :: l, acc, h, hn => by
    have hn' := List.nodup_cons.1 hn
    rw [List.foldl_cons, insFold_new l (insT x acc) (fun y hy h9 => ?_) hn'.2, ins_new (h x (by simp))]
    · simp; omega
    · rcases (mem_ins x acc y).1 h9 with h1 | h1
      · rw [h1] at hy
        exact hn'.1 hy
      · exact h y (by simp [hy]) h1
theorem letters_eq {i j : Nat} (hi : i < 8) (hj : j < 8) {c : UInt8} (hc : 0 ≤ dir c) : (wayLetter (i : Int) c == wayLetter (j : Int) c) = if isEast c then (wayLetter (i : Int) 101 == wayLetter (j : Int) 101) else (wayLetter (i : Int) 110 == wayLetter (j : Int) 110) := by
  have h : (List.range 8).all (fun i => (List.range 8).all fun j => order.all fun c => (wayLetter (i : Int) c == wayLetter (j : Int) c) == if isEast c then (wayLetter (i : Int) 101 == wayLetter (j : Int) 101) else (wayLetter (i : Int) 110 == wayLetter (j : Int) 110)) = true := by decide +kernel
  have h1 := List.all_eq_true.1 h i (List.mem_range.2 hi)
  have h2 := List.all_eq_true.1 h1 j (List.mem_range.2 hj)
  have h3 := List.all_eq_true.1 h2 c (in_order hc)
  exact beq_iff_eq.1 h3
/-- When two ways of a walk are one. -/
def oneWay (e n : Bool) (i j : Nat) : Bool := (!e || (wayLetter (i : Int) 101 == wayLetter (j : Int) 101)) && (!n || (wayLetter (i : Int) 110 == wayLetter (j : Int) 110))
theorem ways_eq {i j : Nat} (hi : i < 8) (hj : j < 8) : ∀ {l : List UInt8}, valid l → (wayList (i : Int) l == wayList (j : Int) l) = oneWay (hasEast l) (hasNorth l) i j
  | [], _ => rfl
  | c :: l, hv => by
    have ih := ways_eq hi hj (l := l) fun d hd => hv d (by simp [hd])
    have hc := letters_eq hi hj (hv c (by simp))
    have e1 : (wayList (i : Int) (c :: l) == wayList (j : Int) (c :: l)) = ((wayLetter (i : Int) c == wayLetter (j : Int) c) && (wayList (i : Int) l == wayList (j : Int) l)) := rfl
    have e2 : hasEast (c :: l) = (isEast c || hasEast l) := rfl
    have e3 : hasNorth (c :: l) = (!isEast c || hasNorth l) := rfl
    rw [e1, e2, e3, hc, ih]
    unfold oneWay
    cases isEast c <;> cases hasEast l <;> cases hasNorth l <;> cases (wayLetter (i : Int) 101 == wayLetter (j : Int) 101) <;> cases (wayLetter (i : Int) 110 == wayLetter (j : Int) 110) <;> rfl
def reps (e n : Bool) : List Nat := if e then (if n then [0, 1, 2, 3, 4, 5, 6, 7] else [0, 1, 2, 3]) else (if n then [0, 1, 2, 3] else [0])
theorem reps_all (e n : Bool) : ((List.range 8).all fun w => (reps e n).any fun r => decide (r < 8) && oneWay e n w r) = true ∧ ((reps e n).all fun a => decide (a < 8) && (reps e n).all fun b => a == b || !oneWay e n a b) = true ∧ (reps e n).Nodup := by
  cases e <;> cases n <;> refine ⟨by decide +kernel, by decide +kernel, by decide⟩
theorem nodup_map {f : Nat → Tx} : ∀ {l : List Nat}, l.Nodup → (∀ a ∈ l, ∀ b ∈ l, f a = f b → a = b) → (l.map f).Nodup
  | [], _, _ => List.nodup_nil
  | a :: l, h, hf => by
    have h' := List.nodup_cons.1 h
    rw [List.map_cons, List.nodup_cons]
    refine ⟨fun h9 => ?_, nodup_map h'.2 (fun x hx y hy => hf x (by simp [hx]) y (by simp [hy]))⟩
    obtain ⟨b, hb, e⟩ := List.mem_map.1 h9
    have := hf b (by simp [hb]) a (by simp) e
    rw [this] at hb
    exact h'.1 hb
theorem allWays_length {l : List UInt8} (hv : valid l) : (allWays l).length = (reps (hasEast l) (hasNorth l)).length := by
  obtain ⟨h1, h2, h3⟩ := reps_all (hasEast l) (hasNorth l)
  have hlt : ∀ a ∈ reps (hasEast l) (hasNorth l), a < 8 := fun a ha => by
    have := List.all_eq_true.1 h2 a ha
    rw [Bool.and_eq_true] at this
    simpa using this.1
  have e : allWays l = insAll ((reps (hasEast l) (hasNorth l)).map fun (r : Nat) => wayList (r : Int) l) := by
    refine strict_unique (strict_allWays _) (insAll_facts _).1 (fun x => ?_)
    rw [mem_allWays, (insAll_facts _).2.1 x, List.mem_map]
    constructor
    · rintro ⟨w, hw, rfl⟩
      have := List.all_eq_true.1 h1 w (List.mem_range.2 hw)
      obtain ⟨r, hr, hr2⟩ := List.any_eq_true.1 this
      rw [Bool.and_eq_true] at hr2
      have hr8 : r < 8 := by simpa using hr2.1
      exact ⟨r, hr, (beq_iff_eq.1 ((ways_eq hw hr8 hv).trans hr2.2)).symm⟩
    · rintro ⟨r, hr, rfl⟩
      exact ⟨r, hlt r hr, rfl⟩
  rw [e]
  unfold insAll
  rw [insFold_new _ [] (fun x _ => by simp) (nodup_map h3 (fun a ha b hb hab => ?_))]
  · simp
  · have h4 := List.all_eq_true.1 h2 a ha
    rw [Bool.and_eq_true] at h4
    have h5 := List.all_eq_true.1 h4.2 b hb
    rw [← ways_eq (hlt a ha) (hlt b hb) hv, beq_iff_eq.2 hab] at h5
    simpa using h5
/-- Ways and walks are eight. -/
theorem eight {l : List UInt8} (h : walkOk l = true) : (allWays l).length * sameTo l 8 = 8 := by
  have hv := ((walkOk_iff l).1 h).2
  rw [allWays_length hv]
  cases he : hasEast l <;> cases hn : hasNorth l
  · rw [same_none h he hn]; rfl
  · rw [same_two h (by rw [he, hn]; simp)]; rfl
  · rw [same_two h (by rw [he, hn]; simp)]; rfl
  · rw [same_one h he hn]; rfl
end Tw
end Go.Proofs.YtjcagkpolfacpaaDoor

namespace Go.Proofs.YtjcagkpolfacpaaDoor
open Go.RowKit

theorem Drawn.below_base {w w1 w2 : World} {R n p k : Nat} {v : Value} (h : Drawn w1 w2 R v n p k) (hb : Below w.heap.size w w1) (hR : w.heap.size ≤ R) : Below w.heap.size w w2 := by
  obtain ⟨_, _, _, hg⟩ := h
  exact hb.grown hg hb.size (fun j hj => by cases hj; exact hR)



end Go.Proofs.YtjcagkpolfacpaaDoor

namespace Go.Proofs.YtjcagkpolfacpaaDoor
open Go.RowKit

theorem lit_first {W w' : World} {R : Nat} {cs ds : Array Value} {t u : TypeId} (hR : R < W.heap.size) (hg : ((W.alloc (.cells cs t)).alloc (.cells ds u)).grownBy w' (some R)) (j : Nat) (x : Value) (hx : cs[j]? = some x) : w'.cell? ⟨W.heap.size, j, none⟩ = some x := by
  rw [hg.cell_far ⟨W.heap.size, j, none⟩ (by simp; omega) (by simp; omega)]
  exact (((Below.refl _ _).alloc (w := W.alloc (.cells cs t)) (Nat.le_refl _) (.cells ds u)).cell (p := ⟨W.heap.size, j, none⟩) (by simp)).trans ((cell_of_row _ _ _ _ _ _ (heap_alloc_new W _)).trans hx)
theorem lit_second {W w' : World} {R : Nat} {cs ds : Array Value} {t u : TypeId} (hR : R < W.heap.size) (hg : ((W.alloc (.cells cs t)).alloc (.cells ds u)).grownBy w' (some R)) (j : Nat) (x : Value) (hx : ds[j]? = some x) : w'.cell? ⟨W.heap.size + 1, j, none⟩ = some x := by
  have h := lit_cell (W := W.alloc (.cells cs t)) (by simp; omega) hg j x hx
  simpa using h
theorem movedOn_len (l : List UInt8) (k : Int) : (Tw.movedOn l k).length ≤ l.length := by
  unfold Tw.movedOn
  split
  · rw [Tw.length_moved]
    exact Nat.le_refl _
  · simp
theorem backWalk_len (l : List UInt8) : (Tw.backWalk l).length ≤ l.length := by
  unfold Tw.backWalk
  split <;> simp
theorem wayLen (l : List UInt8) (way : Int) : (Tw.inWay l way).length ≤ l.length := by
  unfold Tw.inWay
  split <;> simp


theorem div19 {q : Int} (h0 : 0 ≤ q) (h1 : q < 20) : ∃ d : Int, q.tdiv 19 = d ∧ 0 ≤ d ∧ d ≤ 1 := by
  refine ⟨_, rfl, ?_⟩
  rw [Int.tdiv_eq_ediv_of_nonneg h0]
  omega


set_option maxHeartbeats 1600000 in
theorem drawWaysSame (v : Value) (n : Nat) (w : World) (h : CodeAt w v n) :
    Calls Tryd.prog 35 #[v] w fun e w' => ∃ s : ByteArray, e = .returned (.string s) ∧ s.size ≤ 41 ∧ Below w.heap.size w w' := by
  go_enter Tryd.func35, Tryd.ntmps35
  go_wp2_with (first
    | (go_at_call 30; refine (open_any v n _ h).mono ?_; rintro e w1 ⟨rfl, ⟨v', n', hr⟩, hb1⟩; have hd0 := Drawn.start hr)
    | (go_at_call 46; refine (walk_d w1 w1 _ n' 0 _ v' 9 hd0 (by omega) (by omega) (by omega)).mono ?_; rintro e w2 ⟨s, rfl, hs, hd1⟩)
    | (go_at_call 31; refine (pick_d ((hd1.alloc _).alloc _) (by omega) (by omega) (by omega)).mono ?_; rintro e w3 ⟨y, rfl, hy0, hy1, hend, hg⟩; have f1 := lit_first hd1.lt hg; have f2 := lit_second hd1.lt hg; obtain rfl | rfl | rfl | rfl | rfl | rfl | rfl : y = 0 ∨ y = 1 ∨ y = 2 ∨ y = 3 ∨ y = 4 ∨ y = 5 ∨ y = 6 := by omega
       all_goals (have l0 := f1 0 _ rfl; have l1 := f1 1 _ rfl; have l2 := f1 2 _ rfl; have l3 := f1 3 _ rfl; have l4 := f1 4 _ rfl; have m0 := f2 0 _ rfl; have m1 := f2 1 _ rfl; have m2 := f2 2 _ rfl; have m3 := f2 3 _ rfl; have m4 := f2 4 _ rfl; have m5 := f2 5 _ rfl; have m6 := f2 6 _ rfl)))
  all_goals
    go_ret
    exact ⟨_, rfl, by first | omega | (simp [lit_size]; done), hend.below_base hb1 (Nat.le_refl _)⟩

set_option maxHeartbeats 1600000 in
theorem drawAllWays (v : Value) (n : Nat) (w : World) (h : CodeAt w v n) :
    Calls Tryd.prog 20 #[v] w fun e w' => ∃ s : ByteArray, e = .returned (.string s) ∧ s.size ≤ 41 ∧ Below w.heap.size w w' := by
  go_enter Tryd.func20, Tryd.ntmps20
  go_wp2_with (go_at_call 35; refine (drawWaysSame v n _ h).mono ?_; rintro e w1 ⟨s, rfl, hs, hb⟩)
  go_ret
  exact ⟨_, rfl, hs, hb⟩




end Go.Proofs.YtjcagkpolfacpaaDoor

namespace Go.Proofs.YtjcagkpolfacpaaDoor
open Go.RowKit

theorem strs_cell {w : World} {v : Value} {zs : List ByteArray} {a : Option Addr} {c : Nat} (h : StrsAt w v zs) (hv : v = .slice a zs.length c) {j : Nat} (hj : j < zs.length) : ∃ b z, a = some b ∧ zs[j]? = some z ∧ w.cell? (b.add j) = some (.string z) := by
  rcases h with ⟨rfl, rfl⟩ | ⟨b, cap, rfl, hl, hc⟩
  · simp at hj
  · cases hv
    exact ⟨b, zs[j], rfl, List.getElem?_eq_getElem hj, hc j _ (List.getElem?_eq_getElem hj)⟩
theorem take_same {ys zs : List ByteArray} {j : Nat} {y : ByteArray} (h : ys.take j = zs.take j) (hy : ys[j]? = some y) (hz : zs[j]? = some y) : ys.take (j + 1) = zs.take (j + 1) := by
  rw [List.take_add_one, List.take_add_one, h, hy, hz]
set_option maxHeartbeats 800000 in
theorem sameTexts_any (v u : Value) (ys zs : List ByteArray) (w : World) (hv : StrsAt w v ys) (hu : StrsAt w u zs) (hm : zs.length ≤ 1048577) :
    Calls Tryd.prog 18 #[v, u] w fun e w' => e = .returned (.bool (decide (ys = zs))) ∧ Below w.heap.size w w' := by
  obtain ⟨a, c, rfl⟩ := strs_value hv
  obtain ⟨b, d, rfl⟩ := strs_value hu
  have HV := Lib.hid hv
  have HU := Lib.hid hu
  clear hv hu
  by_cases hlen : ys.length = zs.length
  · obtain ⟨n, hN⟩ : ∃ n, zs.length = n := ⟨_, rfl⟩
    have HY := Lib.hid (hlen.trans hN)
    have HZ := Lib.hid hN
    rw [hN] at hlen
    rw [hlen, hN]
    rw [hN] at hm
    clear hlen hN
    go_enter Tryd.func18, Tryd.ntmps18
    go_wp2
    go_loopw [5] (fun i wr => ∃ j : Nat, j ≤ n ∧ i = .int .i64 j ∧ Hid (ys.take j = zs.take j) ∧ Below w.heap.size w wr) (fun i _ => n - (intOf i).toNat)
    case atStart => exact ⟨0, Nat.zero_le _, rfl, rfl, Below.refl _ _⟩
    case round =>
      obtain ⟨j, hj, rfl, HT, hb⟩ := hrel
      by_cases hlt : j < n
      · have hk3 : (0 : Int) ≤ (j : Int) := by omega
        have hk4 : (j : Int) < (n : Int) := by omega
        obtain ⟨a1, y, rfl, hy, c1⟩ := strs_cell (HV.out.below' hb) (by rw [HY.out]) (by rw [HY.out]; exact hlt)
        obtain ⟨b1, z, rfl, hz, c2⟩ := strs_cell (HU.out.below' hb) (by rw [HZ.out]) (by rw [HZ.out]; exact hlt)
        have HYJ := Lib.hid hy
        have HZJ := Lib.hid hz
        clear hy hz
        cases hyz : decide (y = z)
        · have he := (eq_bytes y z).trans hyz
          have HYZ := Lib.hid (of_decide_eq_false hyz)
          clear hyz
          go_wp2_with fail
          go_quiet (fail)
          go_wp2
          go_ret
          refine ⟨?_, below_drewN hb _⟩
          have hne : ys ≠ zs := fun e => HYZ.out (by have h1 := HYJ.out; rw [e, HZJ.out] at h1; exact (Option.some.inj h1).symm)
          simp [hne]
        · have he := (eq_bytes y z).trans hyz
          have HYZ := Lib.hid (of_decide_eq_true hyz)
          clear hyz
          go_wp2_with fail
          go_quiet (fail)
          go_wp2
          go_roundw
          case rel => exact ⟨j + 1, by omega, by go_num, take_same HT.out HYJ.out (HYZ.out ▸ HZJ.out), below_drewN hb _⟩
          case measure => simp [intOf]; omega
      · obtain rfl : j = n := by omega
        go_wp2_with fail
        go_ret
        refine ⟨?_, hb⟩
        have h1 := HT.out
        rw [List.take_of_length_le (by rw [HY.out]; exact Nat.le_refl _), List.take_of_length_le (by rw [HZ.out]; exact Nat.le_refl _)] at h1
        simp [h1]
  · have hne : ys ≠ zs := fun e => hlen (by rw [e])
    have hlen2 : (ys.length : Int) ≠ zs.length := by omega
    go_enter Tryd.func18, Tryd.ntmps18
    go_wp2
    go_ret
    exact ⟨by simp [hne], Below.refl _ _⟩
end Go.Proofs.YtjcagkpolfacpaaDoor

namespace Go.Proofs.YtjcagkpolfacpaaDoor
open Go.RowKit

set_option maxHeartbeats 800000 in
theorem word_yes (w : World) : Calls Tryd.prog 32 #[.string ⟨#[70, 76, 82]⟩] w fun e w' => e = .returned (.bool true) ∧ w = w' := by
  go_enter Tryd.func32, Tryd.ntmps32
  go_wp2
  refine wp_loop_rounds 4 ?_
  rw [rounds_succ]
  go_wp2
  rw [rounds_succ]
  go_wp2
  rw [rounds_succ]
  go_wp2
  rw [rounds_succ]
  go_wp2
  go_ret
  exact ⟨rfl, rfl⟩

set_option maxHeartbeats 800000 in
theorem word_no (w : World) : Calls Tryd.prog 32 #[.string ⟨#[88]⟩] w fun e w' => e = .returned (.bool false) ∧ w = w' := by
  go_enter Tryd.func32, Tryd.ntmps32
  go_wp2
  refine wp_loop_rounds 1 ?_
  rw [rounds_succ]
  go_wp2
  go_ret
  exact ⟨rfl, rfl⟩

set_option maxHeartbeats 800000 in
theorem alive_yes (w : World) : Calls Tryd.prog 16 #[] w fun e w' => e = .returned (.bool true) ∧ w = w' := by
  go_enter Tryd.func16, Tryd.ntmps16
  go_wp2_with (go_at_call 32; first
    | (have hq := st1; refine (word_no _).mono ?_; rintro e w' ⟨rfl, rfl⟩)
    | (refine (word_yes _).mono ?_; rintro e w' ⟨rfl, rfl⟩; have st1 := True.intro))
  go_ret
  exact ⟨rfl, rfl⟩

end Go.Proofs.YtjcagkpolfacpaaDoor

namespace Go.Proofs.YtjcagkpolfacpaaDoor
open Go.ChangeShapes Go.WideShapes Go.ChangeAt Go.RowKit Go.WideMaps Go.WideElems

set_option maxRecDepth 100000 in
theorem open_code {H : Type} {enc : TypeId × Value → H} {W : World} {base : Nat} {spare : Nat → Bool} {held : Bool} {r : Reach} {b0 : Nat} {v : Value} {d : DataW H} {p : List MemPlace} (hv : Value.okWide Tryd.prog W r b0 28 v) (h : DataW.Trod enc Tryd.prog W base spare held 28 v d p) :
    ∃ n, CodeAt W v n := by
  obtain ⟨a0, l0, c0, rfl⟩ := okWide_slice Tryd.underlying28 hv
  obtain ⟨fuel, hf⟩ := h
  rcases Go.ChangeShapes.open_ints Tryd.underlying28 Tryd.underlying5 (by kernel_rfl) hf with ⟨hv1, _⟩ | ⟨a, len, cap, zs, hv1, _, hl, _, hlen, _, hc, hzs⟩
  · simp [Value.cells] at hv1
    obtain ⟨rfl, rfl, rfl⟩ := hv1
    exact ⟨0, .inl ⟨rfl, rfl⟩⟩
  · simp [Value.cells] at hv1
    obtain ⟨rfl, rfl, rfl⟩ := hv1
    refine ⟨l0, .inr ⟨a, c0, rfl, hl, fun j hj => ?_⟩⟩
    have hj2 : j < zs.length := by rw [hlen]; split <;> omega
    have hw := hzs _ (List.getElem_mem hj2)
    have hcj := hc j hj2
    rw [List.getD, List.getElem?_eq_getElem hj2, Option.getD_some] at hcj
    refine ⟨_, ?_, ?_, hcj⟩ <;> (have := hw; simp [Lit.wf, IntKind.min, IntKind.max, IntKind.signed, IntKind.bits] at this; omega)

end Go.Proofs.YtjcagkpolfacpaaDoor

namespace Go.Proofs.YtjcagkpolfacpaaDoor.fnAllWays
open Go.ChangeShapes Go.WideShapes Go.ChangeAt Go.RowKit Go.WideMaps Go.WideElems
open Go.ChangeMaps (open_string shut_string)

theorem same_yes (v u : Value) (zs : List ByteArray) (w : World) (hv : StrsAt w v zs) (hu : StrsAt w u zs) (hm : zs.length ≤ 1048577) :
    Calls Tryd.prog 18 #[v, u] w fun e w' => e = .returned (.bool true) ∧ Below w.heap.size w w' := by
  have := sameTexts_any v u zs zs w hv hu hm
  rwa [decide_eq_true rfl] at this
theorem waysSame_is (s : ByteArray) (w : World) (hs : s.size ≤ 1048576) (hw : WaysAt w) (m : Int) (h : waysSame s.data.toList = m) :
    Calls Tryd.prog 24 #[.string s] w fun e w' => e = .returned (.int .i64 m) ∧ Below w.heap.size w w' := h ▸ implWaysSame s w hs hw

set_option maxRecDepth 100000 in
set_option maxHeartbeats 6400000 in
theorem walk (v : Value) (n : Nat) (w : World) (hw : WaysAt w) (h : CodeAt w v n) :
    Calls Tryd.prog 7 #[v] w fun e w' => e = .returned (.bool true) ∧ Below w.heap.size w w' := by
  have hdraw := drawAllWays v n w h
  have hv : ∃ a cap, v = .slice a n cap := by
    rcases h with ⟨rfl, rfl⟩ | ⟨a, cap, rfl, _⟩
    · exact ⟨_, _, rfl⟩
    · exact ⟨_, _, rfl⟩
  obtain ⟨a, cap, rfl⟩ := hv
  have HD := Lib.hid hdraw
  have HWW := Lib.hid hw
  clear hdraw h hw
  by_cases hn : n ≤ 1048576
  · go_enter Tryd.func7, Tryd.ntmps7
    go_upto_region 4 with (go_at_call 20; refine HD.out.mono ?_; rintro e w1 ⟨s, rfl, hs, hb1⟩)
    have hs1 : s.size ≤ 1048576 := by omega
    have HW1 := Lib.hid (HWW.out.below' hb1)
    obtain ⟨zs, hzs⟩ : ∃ zs, allW s = zs := ⟨_, rfl⟩
    have him : ∀ W, WaysAt W → Calls Tryd.prog 21 #[.string s] W (TextsOut W zs) := fun W hW => hzs ▸ implAllWays s W hs1 hW
    have hsp : ∀ W, Calls Tryd.prog 22 #[.string s] W (TextsOut W zs) := fun W => hzs ▸ specAllWays s W hs1
    obtain ⟨L, hL⟩ : ∃ L, zs.length = L := ⟨_, rfl⟩
    have HIM := Lib.hid him
    have HSP := Lib.hid hsp
    have HL := Lib.hid hL
    have HZS := Lib.hid hzs
    clear him hsp hL hzs
    have hL8 : L ≤ 8 := by
      rw [← HL.out, ← HZS.out]
      unfold allW
      split
      · have := (Tw.insAll_facts (Tw.waysUpTo s.data.toList 8)).2.2
        rw [Tw.waysUpTo_length] at this
        rw [List.length_map]
        exact this
      · exact Nat.zero_le _
    go_upto_region 7 with (first
      | (go_at_call 21; refine (HIM.out _ HW1.out).mono ?_; rintro e w2 ⟨v2, rfl, hp2, hf2, hb2⟩; obtain ⟨a2, c2, hv2⟩ := past_slice hp2 HL.out; subst hv2; have P2 := Lib.hid hp2; have E2 : Hid (Ext w1 w2) := hb2; clear hp2 hb2)
      | (go_at_call 22; refine (HSP.out _).mono ?_; rintro e w3 ⟨v3, rfl, hp3, hf3, hb3⟩; obtain ⟨a3, c3, hv3⟩ := past_slice hp3 HL.out; subst hv3; have P3 := Lib.hid hp3; have Q3 := Lib.hid (P2.out.below hb3); have E3 : Hid (Ext w1 w3) := Ext.call E2.out hb3; clear hp3 hb3)
      | (go_at_call 18; refine (same_yes _ _ zs _ Q3.out.strs P3.out.strs (by rw [HL.out]; omega)).mono ?_; rintro e w4 ⟨rfl, hb4⟩; have Q4 := Lib.hid (Q3.out.below hb4); have E4 : Hid (Ext w1 w4) := Ext.call E3.out hb4; clear hb4))
    cases hok : Tw.walkOk s.data.toList
    · have h0 : L = 0 := by
        rw [← HL.out, ← HZS.out]
        unfold allW
        rw [hok]
        rfl
      subst h0
      have HOK := Lib.hid hok
      clear hok
      go_wp2_with (first
        | (go_at_call 23; refine (implWalkOk_is s _ hs1 false HOK.out).mono ?_; rintro e w' ⟨rfl, rfl⟩)
        | (go_at_call 16; refine (alive_yes _).mono ?_; rintro e w' ⟨rfl, rfl⟩))
      go_ret
      exact ⟨rfl, Ext.below hb1 E4.out hb1.size⟩
    · obtain ⟨l, hl⟩ : ∃ l, s.data.toList = l := ⟨_, rfl⟩
      have hv := ((Tw.walkOk_iff _).1 hok).2
      rw [hl] at hv
      have hz : zs = (Tw.allWays l).map Tw.str := by rw [← HZS.out]; unfold allW; rw [hok, hl]; rfl
      have hlen : (Tw.allWays l).length = L := by rw [← HL.out, hz, List.length_map]
      have h8 := Tw.eight (hl ▸ hok)
      have hws := waysSame_yes hok
      rw [hl] at hws
      rw [hlen] at h8
      obtain ⟨m, hm⟩ : ∃ m, sameTo l 8 = m := ⟨_, rfl⟩
      rw [hm] at h8 hws
      have hLm : (L = 1 ∧ m = 8) ∨ (L = 4 ∧ m = 2) ∨ (L = 8 ∧ m = 1) ∨ (L = 2 ∧ m = 4) := by
        obtain rfl | rfl | rfl | rfl | rfl | rfl | rfl | rfl | rfl : L = 0 ∨ L = 1 ∨ L = 2 ∨ L = 3 ∨ L = 4 ∨ L = 5 ∨ L = 6 ∨ L = 7 ∨ L = 8 := by omega
        all_goals omega
      have hpos : 0 < L := by omega
      have hpos' : ¬ (L : Int) = 0 := by omega
      have HWS : Hid (∀ X, Ext w1 X → Calls Tryd.prog 24 #[.string s] X fun e w' => e = .returned (.int .i64 (m : Int)) ∧ Below X.heap.size X w') := fun X hX => waysSame_is s X hs1 (HW1.out.below' hX) _ (by rw [hl]; exact hws)
      have HIZ : Hid (∀ (z : Tw.Tx) (X : World), z ∈ Tw.allWays l → Ext w1 X → Calls Tryd.prog 21 #[.string (Tw.str z)] X (TextsOut X zs)) := fun z X hzm hX => by
        have hzok : Tw.walkOk z = true := by
          obtain ⟨w', hw8, rfl⟩ := Tw.mem_allWays.1 hzm
          have := walkOk_way (hl ▸ hok) (n := (w' : Int)) (by omega) (by omega)
          rwa [Tw.inWay_eq (hl ▸ hok) (by omega) (by omega)] at this
        have e : allW (Tw.str z) = zs := by
          unfold allW
          rw [Tw.str_data, hzok, if_pos rfl, Tw.ways_ways hv hzm, hz]
        have := implAllWays (Tw.str z) X (by rw [Tw.str_size]; have := Tw.walkOk_len hzok; omega) (HW1.out.below' hX)
        rwa [e] at this
      obtain ⟨ts, hts⟩ : ∃ ts, Tw.allWays l = ts := ⟨_, rfl⟩
      have hself := Tw.self_allWays hv
      have hstrict := Tw.strict_allWays l
      rw [hts] at hlen hz HIZ hself hstrict
      have HZ := Lib.hid hz
      have HLT := Lib.hid hlen
      have HSELF := Lib.hid hself
      have HST : Hid (Tw.Strict ts) := hstrict
      have HSL : Hid (s = Tw.str l) := by show s = _; rw [← hl, Tw.str_of]
      clear hz hlen hself hstrict hts hws hl hok hv h8 hm
      obtain ⟨ad, had⟩ : ∃ ad, a2 = some ad := by
        obtain ⟨b, _, h9, _⟩ := strs_cell Q4.out.strs (by rw [HL.out]) (j := 0) (by rw [HL.out]; exact hpos)
        exact ⟨b, h9⟩
      subst had
      have HC : Hid (∀ X, Ext w4 X → ∀ (j : Nat) (z : Tw.Tx), ts[j]? = some z → X.cell? (ad.add j) = some (.string (Tw.str z))) := fun X hX j z hj => by
        have hlt := (List.getElem?_eq_some_iff.1 hj).1
        obtain ⟨b, y, h9, h10, h11⟩ := strs_cell (hX.past Q4.out).strs (by rw [HL.out]) (j := j) (by rw [HL.out, ← HLT.out]; exact hlt)
        obtain rfl := Option.some.inj h9
        rw [HZ.out, List.getElem?_map, hj] at h10
        rw [h11, ← Option.some.inj h10]
      have hpb : ((L : Int) == 0) = false := by simp; omega
      clear hpos
      go_wp2_with fail
      go_loopw [5, 6] (fun hs i wr => ∃ (k : Nat) (b : Bool) (x : Int), k ≤ L ∧ hs = .bool b ∧ i = .int .i64 x ∧ Hid (x = (k : Int)) ∧ Hid (b = true ↔ ∃ i, i < k ∧ ts[i]? = some l) ∧ Ext w4 wr) (fun _ i _ => L - (intOf i).toNat)
      case atStart => exact ⟨0, false, 0, Nat.zero_le _, rfl, rfl, rfl, by show _ ↔ _; simp, Ext.refl _⟩
      case round =>
        obtain ⟨k, b, x, hk, rfl, rfl, HXK, hE'⟩ := hrel
        obtain ⟨HB, hE⟩ := hE'
        by_cases hlt : k < L
        · obtain ⟨z, hz⟩ : ∃ z, ts[k]? = some z := ⟨ts[k]'(by rw [HLT.out]; exact hlt), List.getElem?_eq_getElem (by rw [HLT.out]; exact hlt)⟩
          have c1 := HC.out wr hE k z hz
          have HZK := Lib.hid hz
          have HZM := Lib.hid (List.mem_of_getElem? hz)
          have E4w := Lib.hid (E4.out.trans hE)
          have HLS : Hid (∀ X, Ext wr X → PastAt X (.slice (some ad) L c2) zs) := fun X hX => (hE.trans hX).past Q4.out
          have HCK : Hid (∀ X, Ext wr X → X.cell? (ad.add k) = some (.string (Tw.str z))) := fun X hX => HC.out X (hE.trans hX) k z HZK.out
          have hk3 : (0 : Int) ≤ (k : Int) := by omega
          have hk4 : (k : Int) < (L : Int) := by omega
          have hnext : ∀ b' : Bool, (b' = true ↔ b = true ∨ z = l) → Hid (b' = true ↔ ∃ i, i < k + 1 ∧ ts[i]? = some l) := fun b' hb' => by
            show _ ↔ _
            rw [hb', HB.out]
            constructor
            · rintro (⟨i, hi, h9⟩ | rfl)
              · exact ⟨i, by omega, h9⟩
              · exact ⟨k, by omega, HZK.out⟩
            · rintro ⟨i, hi, h9⟩
              rcases Nat.lt_or_ge i k with h1 | h1
              · exact .inl ⟨i, h1, h9⟩
              · obtain rfl : i = k := by omega
                rw [HZK.out] at h9
                exact .inr (Option.some.inj h9)
          have hzl : z = l ↔ Tw.str z = s := by
            rw [HSL.out]
            constructor
            · rintro rfl; rfl
            · intro h9
              have := congrArg (fun q : ByteArray => q.data.toList) h9
              simpa only [Tw.str_data] using this
          have hway : (b = true ∧ Hid (true = true ↔ ∃ i, i < k + 1 ∧ ts[i]? = some l)) ∨ (b = false ∧ ((Tw.str z).toList == s.toList) = true ∧ Hid (true = true ↔ ∃ i, i < k + 1 ∧ ts[i]? = some l)) ∨ (b = false ∧ ((Tw.str z).toList == s.toList) = false ∧ Hid (false = true ↔ ∃ i, i < k + 1 ∧ ts[i]? = some l)) := by
            cases b
            · cases hzs : decide (Tw.str z = s)
              · exact .inr (.inr ⟨rfl, (eq_bytes _ _).trans hzs, hnext false (by rw [hzl]; simp [of_decide_eq_false hzs])⟩)
              · exact .inr (.inl ⟨rfl, (eq_bytes _ _).trans hzs, hnext true (by rw [hzl]; simp [of_decide_eq_true hzs])⟩)
            · exact .inl ⟨rfl, hnext true (by simp)⟩
          clear hnext hzl hz HB
          have hkk : (k = 0) ∨ ∃ j, k = j + 1 := by
            cases k with
            | zero => exact .inl rfl
            | succ j => exact .inr ⟨j, rfl⟩
          rcases hkk with hk0 | ⟨j, hj⟩
          · subst hk0
            obtain rfl : x = 0 := HXK.out
            have HC0 : Hid (∀ X, Ext wr X → X.cell? ad = some (.string (Tw.str z))) := fun X hX => by have := HCK.out X hX; rwa [show ad.add 0 = ad from by cases ad; unfold Addr.add; split <;> simp_all] at this
            have c0 := HC0.out wr (Ext.refl _)
            clear hk3 hk4 c1
            rcases hway with ⟨rfl, HN1⟩ | ⟨rfl, he, HN1⟩ | ⟨rfl, he, HN1⟩
            all_goals
              go_upto_region 14 with (fail)
              refine wp_region_held_drew (S := fun w' => w'.cell? ad = some (.string (Tw.str z))) (by kernel_rfl) (HC0.out _ (Ext.refl _).drew) (fun hHeld => ?_)
              refine wpAnyH_take (i := 0) (v := .slice (some ad) L c2) rfl (by kernel_rfl) (by kernel_rfl) (by kernel_rfl) (fun _ _ _ h => h) (Or.inl ⟨by kernel_rfl, ?_⟩) (by assumption) ?_
              · intro w hSw
                (try dsimp only at hSw)
                go_simp
              change wpAnyH _ _ _ _ _ _ _ (Act.put _ (some 43) _) _
              simp only [Act.put, List.setIfInBounds_toArray, List.set_cons_zero, List.set_cons_succ]
              refine wpAnyH_take (i := 1) (v := .int .i64 0) rfl (by kernel_rfl) (by kernel_rfl) (by kernel_rfl) (fun _ _ _ h => h) (Or.inl ⟨by kernel_rfl, ?_⟩) (by assumption) ?_
              · intro w hSw
                (try dsimp only at hSw)
                go_simp
              change wpAnyH _ _ _ _ _ _ _ (Act.put _ (some 44) _) _
              simp only [Act.put, List.setIfInBounds_toArray, List.set_cons_zero, List.set_cons_succ]
              refine wpAnyH_take (i := 2) (v := .pointer (some ad)) rfl (by kernel_rfl) (by kernel_rfl) (by kernel_rfl) (fun _ _ _ h => h) (Or.inl ⟨by kernel_rfl, ?_⟩) (by assumption) ?_
              · intro w hSw
                (try dsimp only at hSw)
                go_simp
              change wpAnyH _ _ _ _ _ _ _ (Act.put _ (some 45) _) _
              simp only [Act.put, List.setIfInBounds_toArray, List.set_cons_zero, List.set_cons_succ]
              refine wpAnyH_take (i := 3) (v := .string (Tw.str z)) rfl (by kernel_rfl) (by kernel_rfl) (by kernel_rfl) (fun _ _ _ h => h) (Or.inl ⟨by kernel_rfl, ?_⟩) (by assumption) ?_
              · intro w hSw
                (try dsimp only at hSw)
                go_simp
              change wpAnyH _ _ _ _ _ _ _ (Act.put _ (some 46) _) _
              simp only [Act.put, List.setIfInBounds_toArray, List.set_cons_zero, List.set_cons_succ]
              refine wpAnyH_take (i := 5) (v := .slice (some ad) L c2) rfl (by kernel_rfl) (by kernel_rfl) (by kernel_rfl) (fun _ _ _ h => h) (Or.inl ⟨by kernel_rfl, ?_⟩) (by assumption) ?_
              · intro w hSw
                (try dsimp only at hSw)
                go_simp
              change wpAnyH _ _ _ _ _ _ _ (Act.put _ (some 48) _) _
              simp only [Act.put, List.setIfInBounds_toArray, List.set_cons_zero, List.set_cons_succ]
              refine wpAnyH_ready (rs := [4]) (by kernel_rfl) (by simp) ?_
              refine AllReadyH.cons rfl (fun K hK => ?_) AllReadyH.nil
              go_simp
              go_at_call 21
              refine (HIZ.out z _ HZM.out (E4w.out.trans (Ext.refl _).drew)).mono ?_
              rintro e wA ⟨vA, rfl, hpA, hfA, hbA⟩
              obtain ⟨aA, cA, hvA⟩ := past_slice hpA HL.out
              subst hvA
              have eA : Ext wr wA := Ext.call (Ext.refl _).drew hbA
              have PA := Lib.hid hpA
              clear hpA hfA hbA
              go_wp2_with fail
              refine hK.out _ _ (HC0.out _ eA) (fun hHeld => ?_)
              clear hK K
              refine wpAnyH_ready (rs := [6]) (by kernel_rfl) (by simp) ?_
              refine AllReadyH.cons rfl (fun K hK => ?_) AllReadyH.nil
              go_simp
              go_at_call 18
              refine (same_yes _ _ zs _ PA.out.strs (HLS.out _ eA).strs (by rw [HL.out]; omega)).mono ?_
              rintro e wB ⟨rfl, hbB⟩
              have eB : Ext wr wB := Ext.call eA hbB
              clear hbB
              go_wp2_with fail
              refine hK.out _ _ (HC0.out _ eB) (fun hHeld => ?_)
              clear hK K
              refine wpAnyH_take (i := 7) (v := .bool false) rfl (by kernel_rfl) (by kernel_rfl) (by kernel_rfl) (fun _ _ _ h => h) (Or.inl ⟨by kernel_rfl, ?_⟩) (by assumption) ?_
              · intro w hSw
                (try dsimp only at hSw)
                go_simp
              change wpAnyH _ _ _ _ _ _ _ (Act.put _ (some 50) _) _
              simp only [Act.put, List.setIfInBounds_toArray, List.set_cons_zero, List.set_cons_succ]
              refine wpAnyH_take (i := 8) (v := .bool false) rfl (by kernel_rfl) (by kernel_rfl) (by kernel_rfl) (fun _ _ _ h => h) (Or.inl ⟨by kernel_rfl, ?_⟩) (by assumption) ?_
              · intro w hSw
                (try dsimp only at hSw)
                go_simp
              change wpAnyH _ _ _ _ _ _ _ (Act.put _ (some 51) _) _
              simp only [Act.put, List.setIfInBounds_toArray, List.set_cons_zero, List.set_cons_succ]
              refine wpAnyH_take (i := 9) (v := .int .i64 0) rfl (by kernel_rfl) (by kernel_rfl) (by kernel_rfl) (fun _ _ _ h => h) (Or.inl ⟨by kernel_rfl, ?_⟩) (by assumption) ?_
              · intro w hSw
                (try dsimp only at hSw)
                go_simp
              change wpAnyH _ _ _ _ _ _ _ (Act.put _ (some 52) _) _
              simp only [Act.put, List.setIfInBounds_toArray, List.set_cons_zero, List.set_cons_succ]
              refine wpAnyH_take (i := 10) (v := .bool false) rfl (by kernel_rfl) (by kernel_rfl) (by kernel_rfl) (fun _ _ _ h => h) (Or.inl ⟨by kernel_rfl, ?_⟩) (by assumption) ?_
              · intro w hSw
                (try dsimp only at hSw)
                go_simp
              change wpAnyH _ _ _ _ _ _ _ (Act.put _ (some 53) _) _
              simp only [Act.put, List.setIfInBounds_toArray, List.set_cons_zero, List.set_cons_succ]
              refine wpAnyH_take (i := 11) (v := .bool false) rfl (by kernel_rfl) (by kernel_rfl) (by kernel_rfl) (fun _ _ _ h => h) (Or.inl ⟨by kernel_rfl, ?_⟩) (by assumption) ?_
              · intro w hSw
                (try dsimp only at hSw)
                go_simp
              change wpAnyH _ _ _ _ _ _ _ (Act.put _ (some 54) _) _
              simp only [Act.put, List.setIfInBounds_toArray, List.set_cons_zero, List.set_cons_succ]
              refine wpAnyH_take (i := 12) (v := undef) rfl (by kernel_rfl) (by kernel_rfl) (by kernel_rfl) (fun _ _ _ h => h) (Or.inr ⟨by kernel_rfl, rfl⟩) (by assumption) ?_
              change wpAnyH _ _ _ _ _ _ _ (Act.put _ (some 55) _) _
              simp only [Act.put, List.setIfInBounds_toArray, List.set_cons_zero, List.set_cons_succ]
              refine wpAnyH_take (i := 13) (v := undef) rfl (by kernel_rfl) (by kernel_rfl) (by kernel_rfl) (fun _ _ _ h => h) (Or.inr ⟨by kernel_rfl, rfl⟩) (by assumption) ?_
              change wpAnyH _ _ _ _ _ _ _ (Act.put _ (some 56) _) _
              simp only [Act.put, List.setIfInBounds_toArray, List.set_cons_zero, List.set_cons_succ]
              refine wpAnyH_take (i := 14) (v := undef) rfl (by kernel_rfl) (by kernel_rfl) (by kernel_rfl) (fun _ _ _ h => h) (Or.inr ⟨by kernel_rfl, rfl⟩) (by assumption) ?_
              change wpAnyH _ _ _ _ _ _ _ (Act.put _ (some 57) _) _
              simp only [Act.put, List.setIfInBounds_toArray, List.set_cons_zero, List.set_cons_succ]
              refine wpAnyH_take (i := 15) (v := undef) rfl (by kernel_rfl) (by kernel_rfl) (by kernel_rfl) (fun _ _ _ h => h) (Or.inr ⟨by kernel_rfl, rfl⟩) (by assumption) ?_
              change wpAnyH _ _ _ _ _ _ _ (Act.put _ (some 58) _) _
              simp only [Act.put, List.setIfInBounds_toArray, List.set_cons_zero, List.set_cons_succ]
              refine wpAnyH_take (i := 16) (v := undef) rfl (by kernel_rfl) (by kernel_rfl) (by kernel_rfl) (fun _ _ _ h => h) (Or.inr ⟨by kernel_rfl, rfl⟩) (by assumption) ?_
              change wpAnyH _ _ _ _ _ _ _ (Act.put _ (some 59) _) _
              simp only [Act.put, List.setIfInBounds_toArray, List.set_cons_zero, List.set_cons_succ]
              refine wpAnyH_take (i := 17) (v := undef) rfl (by kernel_rfl) (by kernel_rfl) (by kernel_rfl) (fun _ _ _ h => h) (Or.inr ⟨by kernel_rfl, rfl⟩) (by assumption) ?_
              change wpAnyH _ _ _ _ _ _ _ (Act.put _ (some 60) _) _
              simp only [Act.put, List.setIfInBounds_toArray, List.set_cons_zero, List.set_cons_succ]
              refine wpAnyH_take (i := 18) (v := undef) rfl (by kernel_rfl) (by kernel_rfl) (by kernel_rfl) (fun _ _ _ h => h) (Or.inr ⟨by kernel_rfl, rfl⟩) (by assumption) ?_
              change wpAnyH _ _ _ _ _ _ _ (Act.put _ (some 61) _) _
              simp only [Act.put, List.setIfInBounds_toArray, List.set_cons_zero, List.set_cons_succ]
              refine wpAnyH_take (i := 19) (v := undef) rfl (by kernel_rfl) (by kernel_rfl) (by kernel_rfl) (fun _ _ _ h => h) (Or.inr ⟨by kernel_rfl, rfl⟩) (by assumption) ?_
              change wpAnyH _ _ _ _ _ _ _ (Act.put _ (some 62) _) _
              simp only [Act.put, List.setIfInBounds_toArray, List.set_cons_zero, List.set_cons_succ]
              refine wpAnyH_take (i := 20) (v := undef) rfl (by kernel_rfl) (by kernel_rfl) (by kernel_rfl) (fun _ _ _ h => h) (Or.inr ⟨by kernel_rfl, rfl⟩) (by assumption) ?_
              change wpAnyH _ _ _ _ _ _ _ (Act.put _ (some 63) _) _
              simp only [Act.put, List.setIfInBounds_toArray, List.set_cons_zero, List.set_cons_succ]
              refine wpAnyH_take (i := 21) (v := undef) rfl (by kernel_rfl) (by kernel_rfl) (by kernel_rfl) (fun _ _ _ h => h) (Or.inr ⟨by kernel_rfl, rfl⟩) (by assumption) ?_
              change wpAnyH _ _ _ _ _ _ _ (Act.put _ (some 64) _) _
              simp only [Act.put, List.setIfInBounds_toArray, List.set_cons_zero, List.set_cons_succ]
              refine wpAnyH_take (i := 22) (v := .bool false) rfl (by kernel_rfl) (by kernel_rfl) (by kernel_rfl) (fun _ _ _ h => h) (Or.inl ⟨by kernel_rfl, ?_⟩) (by assumption) ?_
              · intro w hSw
                (try dsimp only at hSw)
                go_simp
              change wpAnyH _ _ _ _ _ _ _ (Act.put _ (some 65) _) _
              simp only [Act.put, List.setIfInBounds_toArray, List.set_cons_zero, List.set_cons_succ]
              refine wpAnyH_take (i := 23) (v := .bool false) rfl (by kernel_rfl) (by kernel_rfl) (by kernel_rfl) (fun _ _ _ h => h) (Or.inl ⟨by kernel_rfl, ?_⟩) (by assumption) ?_
              · intro w hSw
                (try dsimp only at hSw)
                go_simp
              change wpAnyH _ _ _ _ _ _ _ (Act.put _ (some 66) _) _
              simp only [Act.put, List.setIfInBounds_toArray, List.set_cons_zero, List.set_cons_succ]
              refine wpAnyH_done (by kernel_rfl) ?_ _
              go_wp2
              go_roundw
              case rel => exact ⟨1, _, 1, by omega, rfl, rfl, rfl, (by have h9 := HN1.out; show _ ↔ _; simpa using h9), hE.trans eB⟩
              case measure => simp [intOf]; omega
          · obtain ⟨y, hy⟩ : ∃ y, ts[j]? = some y := ⟨ts[j]'(by rw [HLT.out]; omega), List.getElem?_eq_getElem (by rw [HLT.out]; omega)⟩
            have hyz : y < z := by
              obtain ⟨h1, h2⟩ := List.getElem?_eq_some_iff.1 hy
              obtain ⟨h3, h4⟩ := List.getElem?_eq_some_iff.1 HZK.out
              rw [← h2, ← h4]
              exact List.pairwise_iff_getElem.1 HST.out j k h1 h3 (by omega)
            have HCJ : Hid (∀ X, Ext wr X → X.cell? (ad.add k) = some (.string (Tw.str z)) ∧ X.cell? (ad.add j) = some (.string (Tw.str y))) := fun X hX => ⟨HCK.out X hX, HC.out X (hE.trans hX) j y hy⟩
            have l1 : Op.bytesLess (Tw.str z).toList (Tw.str y).toList = false := (less_str z y).trans (decide_eq_false (Tw.lt_asymm' hyz))
            have l2 : ((Tw.str z).toList == (Tw.str y).toList) = false := by
              rw [eq_bytes]
              refine decide_eq_false (fun h9 => ?_)
              have := congrArg (fun q : ByteArray => q.data.toList) h9
              simp only [Tw.str_data] at this
              rw [this] at hyz
              exact Tw.lt_irrefl' _ hyz
            have k6 : decide ((0 : Int) < (k : Int)) = true := by simp; omega
            have k5 : decide (0 < k) = true := by simp; omega
            have k7 : IntKind.i64.wrap ((k : Int) - 1) = (j : Int) := by rw [IntWalk.i64_in _ ⟨by omega, by omega⟩]; omega
            have k8 : (0 : Int) ≤ (j : Int) := by omega
            have k9 : (j : Int) < (L : Int) := by omega
            clear hj hy hyz
            obtain rfl : x = (k : Int) := HXK.out
            rcases hway with ⟨rfl, HN1⟩ | ⟨rfl, he, HN1⟩ | ⟨rfl, he, HN1⟩
            all_goals
              go_upto_region 14 with (fail)
              go_region_held3 (fun w' => w'.cell? (ad.add k) = some (.string (Tw.str z)) ∧ w'.cell? (ad.add j) = some (.string (Tw.str y)))
                (exact HCJ.out _ (by (first | assumption | exact Ext.refl _ | exact (Ext.refl _).drew | (refine Ext.alloc ?_ _; first | assumption | exact Ext.refl _ | exact (Ext.refl _).drew) | (refine Ext.drew ?_; first | assumption | exact Ext.refl _ | exact (Ext.refl _).drew) | (refine Ext.drew ?_; refine Ext.alloc ?_ _; first | assumption | exact Ext.refl _ | exact (Ext.refl _).drew) | (refine Ext.setCell (Ext.setCell ?_ ?_ _) ?_ _ <;> first | assumption | omega | (simp <;> omega)))))
                (first
                  | (go_at_call 21; refine (HIZ.out z _ HZM.out (E4w.out.trans (by (first | assumption | exact Ext.refl _ | exact (Ext.refl _).drew | (refine Ext.alloc ?_ _; first | assumption | exact Ext.refl _ | exact (Ext.refl _).drew) | (refine Ext.drew ?_; first | assumption | exact Ext.refl _ | exact (Ext.refl _).drew) | (refine Ext.drew ?_; refine Ext.alloc ?_ _; first | assumption | exact Ext.refl _ | exact (Ext.refl _).drew) | (refine Ext.setCell (Ext.setCell ?_ ?_ _) ?_ _ <;> first | assumption | omega | (simp <;> omega)))))).mono ?_; rintro e wA ⟨vA, rfl, hpA, hfA, hbA⟩; obtain ⟨aA, cA, hvA⟩ := past_slice hpA HL.out; subst hvA; have eA : Ext wr wA := Ext.call (by (first | assumption | exact Ext.refl _ | exact (Ext.refl _).drew | (refine Ext.alloc ?_ _; first | assumption | exact Ext.refl _ | exact (Ext.refl _).drew) | (refine Ext.drew ?_; first | assumption | exact Ext.refl _ | exact (Ext.refl _).drew) | (refine Ext.drew ?_; refine Ext.alloc ?_ _; first | assumption | exact Ext.refl _ | exact (Ext.refl _).drew) | (refine Ext.setCell (Ext.setCell ?_ ?_ _) ?_ _ <;> first | assumption | omega | (simp <;> omega)))) hbA; have PA := Lib.hid hpA; clear hpA hfA hbA)
                  | (go_at_call 18; refine (same_yes _ _ zs _ PA.out.strs (HLS.out _ eA).strs (by rw [HL.out]; omega)).mono ?_; rintro e wB ⟨rfl, hbB⟩; have eB : Ext wr wB := Ext.call eA hbB; clear hbB))
              all_goals
                go_wp2
                go_roundw
                case rel => exact ⟨k + 1, _, _, by omega, rfl, rfl, (by show _ = _; omega), (by have h9 := HN1.out; show _ ↔ _; simpa using h9), hE.trans eB⟩
                case measure => simp [intOf]; omega
        · obtain rfl : k = L := by omega
          obtain rfl : x = (k : Int) := HXK.out
          have hbt : b = true := HB.out.2 (by
            obtain ⟨i, hi, h9⟩ := List.mem_iff_getElem.1 HSELF.out
            exact ⟨i, by rw [← HLT.out]; exact hi, by rw [List.getElem?_eq_getElem hi, h9]⟩)
          subst hbt
          have hLm2 : IntKind.i64.wrap ((k : Int) * (m : Int)) = 8 := by rcases hLm with ⟨rfl, rfl⟩ | ⟨rfl, rfl⟩ | ⟨rfl, rfl⟩ | ⟨rfl, rfl⟩ <;> rfl
          have hLm3 : (k : Int) * (m : Int) = 8 := by rcases hLm with ⟨rfl, rfl⟩ | ⟨rfl, rfl⟩ | ⟨rfl, rfl⟩ | ⟨rfl, rfl⟩ <;> rfl
          have hLm4 : wrap64 ((k : Int) * (m : Int)) = 8 := by rw [hLm3]; decide +kernel
          clear hLm
          go_wp2_with (first
            | (go_at_call 24; refine (HWS.out _ (E4.out.trans hE)).mono ?_; rintro e w9 ⟨rfl, hb9⟩; have E9 : Hid (Ext w1 w9) := Ext.call (E4.out.trans hE) hb9; clear hb9))
          go_ret
          exact ⟨rfl, Ext.below hb1 E9.out hb1.size⟩
  · have hn' : 1048576 < n := by omega
    go_enter Tryd.func7, Tryd.ntmps7
    go_wp2_with fail
    go_ret
    exact ⟨rfl, Below.refl _ _⟩

set_option maxRecDepth 100000 in
theorem own : ownKnob Tryd.prog.godebug = none := by kernel_rfl
set_option maxRecDepth 100000 in
theorem laidOut : laidOutB Tryd.prog = true := by kernel_rfl
set_option maxRecDepth 100000 in
theorem rowed : rowsOk Tryd.prog Tryd.f7.params.toList = true := by kernel_rfl
set_option maxRecDepth 100000 in
theorem varred : varsOk Tryd.prog Rows.fnAllWaysSpec.vars = true := by kernel_rfl
set_option maxRecDepth 100000 in
theorem resType : Tryd.f7.resultTypes = #[4] := by kernel_rfl

set_option maxRecDepth 100000 in
theorem contract (H : Type) (enc : TypeId × Value → H) (W : World) (base : Nat) (args : Array Value) (ds gs : List (DataW H)) (before : List MemPlace)
    (hval : ∀ (j : Nat) t v, Tryd.f7.params[j]? = some t → args[j]? = some v → Value.okWide Tryd.prog W .any base t v)
    (hW : DataW.Whole enc Tryd.prog Tryd.f7.params.toList Rows.fnAllWaysSpec.vars false W args.toList ds gs before) (hL : laidMetH Tryd.prog Rows.fnAllWaysRow.laid W) :
    Calls Tryd.prog 7 args W fun e W' => ∃ v, e = .returned v ∧ Rows.fnAllWaysSpec.post enc Tryd.prog Tryd.f7 false true false false W args v W' := by
  have hW' := hW
  obtain ⟨p, q, hA0, hV, rfl, hfz, hnd⟩ := hW
  have hA : DataW.TrodAll enc Tryd.prog W 0 (fun _ => true) true Tryd.f7.params.toList args.toList ds p := hA0
  rw [Tryd.params7] at hA hval
  obtain ⟨v0, vs0, d0, ds0, p0, q0, hargs, rfl, rfl, h0, r0⟩ := trodAll_cons hA
  obtain ⟨rfl, rfl, rfl⟩ := trodAll_nil r0
  obtain rfl : args = #[v0] := by cases args; simp_all
  obtain ⟨g0, rfl⟩ := trodVars_len1 hV
  obtain ⟨n0, hcode0⟩ := open_code (hval 0 28 v0 rfl rfl) h0
  have t_ways : WaysAt W := waysAt (by kernel_rfl) hL (by simp [Rows.fnAllWaysRow])
  refine (walk v0 n0 W t_ways hcode0).mono fun e W' ⟨he, hb⟩ => ?_
  subst he
  exact ⟨_, rfl, law_post laidOut rowed varred resType Tryd.underlying4 hW' ⟨rfl, rfl, rfl⟩ hb⟩

/-- A world for the witness: the settled one, the listed variables holding what their initialisers lay. -/
noncomputable def laidWorld (os : Os) : World := { World.holding Tryd.prog os ⟨#[], #[], []⟩ with heap := ((World.holding Tryd.prog os ⟨#[], #[], []⟩).heap.modify 0 fun
      | .cells _ t frozen => .cells #[.string ⟨#[101, 110, 119, 115]⟩, .string ⟨#[110, 119, 115, 101]⟩, .string ⟨#[119, 115, 101, 110]⟩, .string ⟨#[115, 101, 110, 119]⟩, .string ⟨#[101, 115, 119, 110]⟩, .string ⟨#[110, 101, 115, 119]⟩, .string ⟨#[119, 110, 101, 115]⟩, .string ⟨#[115, 119, 110, 101]⟩] t frozen
      | o => o) }
set_option maxRecDepth 100000 in
theorem laid_met (os : Os) : laidMet Tryd.prog Rows.fnAllWaysRow.laid ((laidWorld os).forCall (fun _ _ => 0) ⟨#[], #[.slice none 0 0], []⟩).memory := laidMet_of_run' 8 (by kernel_rfl) (by kernel_rfl)
set_option maxRecDepth 100000 in
theorem reads (os : Os) {H : Type} (enc : TypeId × Value → H) : ∃ places, DataW.whole enc Tryd.prog ((laidWorld os).forCall (fun _ _ => 0) ⟨#[], #[.slice none 0 0], []⟩).memory Tryd.f7.params.toList Rows.fnAllWaysSpec.vars false (#[.slice none 0 0] : Array Value).toList 8 = some ([.nil], [Rows.laid_loop_example_turtlewalks_impl_wayLetters], places) := ⟨MemPlace.row ⟨0, 0, none⟩ 8, by kernel_rfl⟩

set_option maxRecDepth 100000 in
theorem lifted (os : Os) (started : os.Started) (H : Type) (enc : TypeId × Value → H) (F : Stop.Interp) :
    ReturnsInHanded {} Tryd.checked os 7 .any ((OpenSpec.ofChange Rows.fnAllWaysSpec).preRow enc Tryd.prog Tryd.f7 Rows.fnAllWaysRow.domain false Rows.fnAllWaysRow.laid) (((OpenSpec.ofChange Rows.fnAllWaysSpec).at F).post enc Tryd.prog Tryd.f7 false true false false) := by
  obtain ⟨places, hx⟩ := reads os enc
  refine returnsInHanded_of_row (C := Tryd.checked) (s := OpenSpec.ofChange Rows.fnAllWaysSpec) own started (by kernel_rfl) Tryd.func7
    (witness_row_at (enc := enc) (C := Tryd.checked) false (laidWorld os) #[.slice none 0 0] rfl (by kernel_rfl) (by kernel_rfl) (by kernel_rfl)
      (OpenSpec.preRow_of_cond 8 hx (by kernel_rfl) (fun k hk => by cases hk) (by kernel_rfl) (laid_met os))) ?_
  intro W base args ds gs before hval hW _ _ _ hL _ _
  exact contract H enc W base args ds gs before hval hW hL

set_option maxRecDepth 100000 in
theorem said : Rows.FnAllWaysSaid :=
  OpenClaim.holds_of_cond 7 Tryd.f7 rfl rfl rfl rfl rfl rfl rfl ⟨rfl, rfl, rfl, rfl, rfl⟩ rfl rfl rfl rfl rfl (by kernel_rfl) Tryd.func7 (by kernel_rfl)
    (of_decide_eq_true (by kernel_rfl)) (by unfold Func.isWrapper; first | (rw [if_pos (by decide +kernel)]; kernel_rfl) | (rw [if_neg (by decide +kernel)]; exact ⟨rfl, rfl⟩))
    (fun os started H enc _ F => by rw [OpenClaim.pre_eq_preRow]; exact lifted os started H enc F)

set_option maxRecDepth 100000 in
theorem plain (f : FuncId) (fn : Func) (hf : Tryd.pinned.checked.prog.funcNamed "loop.example/turtlewalks/laws.FnAllWays" = some f) (hfn : Tryd.pinned.checked.prog.funcs[f]? = some fn) :
    false = Tryd.pinned.checked.prog.looks [] ∧ ∀ (j : Nat) t, fn.params[j]? = some t → Tryd.pinned.checked.prog.wantsStandIn t = false := by
  obtain rfl : f = 7 := Option.some.inj ((show Tryd.prog.funcNamed "loop.example/turtlewalks/laws.FnAllWays" = some 7 by kernel_rfl).symm.trans hf) |>.symm
  obtain rfl : fn = Tryd.f7 := (Option.some.inj (Tryd.func7.symm.trans hfn)).symm
  refine ⟨by kernel_rfl, fun j t ht => ?_⟩
  rw [Tryd.params7] at ht
  have hm : t ∈ [28] := by simpa using Array.mem_of_getElem? ht
  have hall : ([28].all fun u => !Tryd.prog.wantsStandIn u) = true := by kernel_rfl
  exact (show Tryd.prog.wantsStandIn t = false by simpa using List.all_eq_true.1 hall t hm)

set_option maxRecDepth 100000 in
theorem card : Rows.FnAllWaysCardSaid :=
  Claim7.holds_tied_plain_at .later [] _ _ _ _ said (fun _ h => by cases h) (by kernel_rfl) (fun _ h => by cases h) fnAllWays_row_tie rfl ⟨rfl, rfl⟩ (by kernel_rfl) rfl plain (by kernel_rfl)

end Go.Proofs.YtjcagkpolfacpaaDoor.fnAllWays
