/-
  Contracts of uprightsOf and AreaOf: the area of a closed walk.
-/
import Derived.Test.YtccdfndnjjjgfaaGreatDoorEnd
import Derived.Test.YtccdfndnjjjgfaaGreatDoorClosed
import Derived.Test.YtccdfndnjjjgfaaGreatDoorShapeLaw
import Derived.Deep.AppendLies
namespace Go.Proofs.YtccdfndnjjjgfaaGreatDoor
open Go.RowKit

def triCells (us : List (Int × Int × Int)) : List Value := us.flatMap fun u => [.int .i64 u.1, .int .i64 u.2.1, .int .i64 u.2.2]
theorem triCells_append (us vs : List (Int × Int × Int)) : triCells (us ++ vs) = triCells us ++ triCells vs := List.flatMap_append
theorem triCells_get : ∀ (us : List (Int × Int × Int)) (i : Nat) (u : Int × Int × Int), us[i]? = some u → (triCells us)[i * 3]? = some (.int .i64 u.1) ∧ (triCells us)[i * 3 + 1]? = some (.int .i64 u.2.1) ∧ (triCells us)[i * 3 + 2]? = some (.int .i64 u.2.2)
  | [], i, p, h => by simp at h
  | q :: us, 0, p, h => by
    obtain rfl : q = p := by simpa using h
    exact ⟨rfl, rfl, rfl⟩
  | q :: us, i + 1, p, h => by
    have ih := triCells_get us i p (by simpa using h)
    rw [show (i + 1) * 3 = i * 3 + 1 + 1 + 1 from by omega]
    exact ih
def sumUp (us : List (Int × Int × Int)) : Int := (us.map fun u => u.1 * u.2.2).sum
theorem sumUp_snoc (us : List (Int × Int × Int)) (u : Int × Int × Int) : sumUp (us ++ [u]) = sumUp us + u.1 * u.2.2 := by
  unfold sumUp
  rw [List.map_append, List.sum_append]
  simp
/-- What an upright may be. -/
def upright (u : Int × Int × Int) : Prop := -1000 ≤ u.1 ∧ u.1 ≤ 1000 ∧ -1000 ≤ u.2.1 ∧ u.2.1 ≤ 1000 ∧ (u.2.2 = 1 ∨ u.2.2 = -1)
def areaTo (l : List UInt8) (k : Nat) : Int := Tw.areaFrom (0, 0) (l.take k)
theorem areaTo_succ {l : List UInt8} {k : Nat} (h : k < l.length) : areaTo l (k + 1) = areaTo l k + (Tw.placeAt l k).1 * Tw.north (Tw.dir l[k]) := by
  unfold areaTo
  rw [Tw.take_snoc _ _ h, Tw.area_append]
  show _ + ((Tw.placeAt l k).1 * Tw.north (Tw.dir l[k]) + 0) = _
  omega
theorem areaTo_all (l : List UInt8) : areaTo l l.length = Tw.areaOf l := by
  unfold areaTo Tw.areaOf
  rw [List.take_length]

theorem triInfo : (Tryz.prog.info? 154).map (fun i => (i.zero, i.size, i.bytes)) = some (some (.agg #[.int .i64 0, .int .i64 0, .int .i64 0]), 3, 24) := by kernel_rfl

theorem own_set3 {w : World} {base : Nat} {e : TypeId} {size : Nat} {v : Value} {n : Nat} {xs : List Value} (h : w.ownsRow base e size v n xs) (a : Addr) (u : Value) (hne : v.ownBlock ≠ some a.block) : (w.setCell a u).ownsRow base e size v n xs :=
  h.kept (row := some a.block) ⟨rfl, rfl, rfl, by simp, fun k _ hk => heap_setCell_other w a k _ (fun e => hk (by rw [e]))⟩ (.inr hne)
/-- The next place lies in block N, that of before in its own. -/
structure NextAt (w : World) (N base n m : Nat) (t T : TypeId) (v : Value) (xs : List Value) (x y x2 y2 : Value) (W : World) : Prop where
  own : W.ownsRow base t m v n xs
  below : Below w.heap.size w W
  lt : w.heap.size < W.heap.size
  nlt : N < W.heap.size
  ne : w.heap.size ≠ N
  vne : v.ownBlock ≠ some N
  row : W.heap[w.heap.size]? = some (.cells #[x, y] T (0, 0))
  nrow : W.heap[N]? = some (.cells #[x2, y2] T (0, 0))
theorem next_set {w W : World} {N base n m : Nat} {t T : TypeId} {v x y a b : Value} {xs : List Value} (hown : W.ownsRow base t m v n xs) (hb : Below w.heap.size w W) (hlt : w.heap.size < W.heap.size) (hlN : w.heap.size < N) (hv : v.ownBlock ≠ some N)
    (hrow : W.heap[w.heap.size]? = some (.cells #[x, y] T (0, 0))) (hN : W.heap[N]? = some (.cells #[a, b] T (0, 0))) (x2 y2 : Value) : NextAt w N base n m t T v xs x y x2 y2 ((W.setCell ⟨N, 0, none⟩ x2).setCell ⟨N, 1, none⟩ y2) := by
  have hne : w.heap.size ≠ N := Nat.ne_of_lt hlN
  refine ⟨own_set3 (own_set3 hown _ _ hv) _ _ hv, (hb.setCell (by show w.heap.size ≤ N; omega) _).setCell (by show w.heap.size ≤ N; omega) _, by simpa using hlt, by simpa using lt_of_heap hN, hne, hv, ?_, two_setCell hN _ _⟩
  rw [heap_setCell_other _ _ _ _ (by simpa using hne), heap_setCell_other _ _ _ _ (by simpa using hne)]
  exact hrow
theorem grow_row {W w4 : World} {o r : Obj} {b : Nat} {row : Option Nat} (h : W.heap[b]? = some r) (hg : (W.alloc o).grownBy w4 row) (hne : row ≠ some b) : w4.heap[b]? = some r := by
  have hlt := lt_of_heap h
  rw [hg.block b (by simp; omega) (fun e => hne e.symm)]
  exact (((Below.refl W.heap.size W).alloc (Nat.le_refl _) o).block b hlt).trans h
theorem heap_alloc_old' {w : World} {b : Nat} {r o : Obj} (h : w.heap[b]? = some r) : (w.alloc o).heap[b]? = some r := by
  have hlt := lt_of_heap h
  exact (((Below.refl w.heap.size w).alloc (Nat.le_refl _) o).block b hlt).trans h
theorem next_alloc {w W : World} {base n m : Nat} {t T : TypeId} {v x y : Value} {xs : List Value} (hown : W.ownsRow base t m v n xs) (hb : Below w.heap.size w W) (hlt : w.heap.size < W.heap.size)
    (hv : v.ownBlock ≠ some W.heap.size) (hrow : W.heap[w.heap.size]? = some (.cells #[x, y] T (0, 0))) (x2 y2 : Value) : NextAt w W.heap.size base n m t T v xs x y x2 y2 (W.alloc (.cells #[x2, y2] T)) :=
  ⟨hown.alloc _, hb.alloc (Nat.le_of_lt hlt) _, by simp; omega, by simp, Nat.ne_of_lt hlt, hv, heap_alloc_old' hrow, heap_alloc_new W _⟩
theorem stepped_to (x y d x2 y2 : Int) (w : World) (hw : DirsAt w) (h0 : 0 ≤ d) (h3 : d ≤ 3) (hx : -1000000 ≤ x ∧ x ≤ 1000000) (hy : -1000000 ≤ y ∧ y ≤ 1000000) (e1 : x + Tw.east d = x2) (e2 : y + Tw.north d = y2) :
    Calls Tryz.prog 146 #[.agg #[.int .i64 x, .int .i64 y], .int .i64 d] w fun e w' => e = .returned (.agg #[.int .i64 x2, .int .i64 y2]) ∧ Below w.heap.size w w' := e1 ▸ e2 ▸ stepped_any x y d w hw h0 h3 hx hy
theorem at_world {Q : Exit → Act → World → Prop} {a : Act} {W : World} {F : World → Prop} (h : F W) (k : ∀ W2, F W2 → Q .normal a W2) : Q .normal a W := k W h

theorem cell_old {w : World} {b j : Nat} (h : b < w.heap.size) (o : Obj) : (w.alloc o).cell? ⟨b, j, none⟩ = w.cell? ⟨b, j, none⟩ := ((Below.refl w.heap.size w).alloc (Nat.le_refl _) o).cell (p := ⟨b, j, none⟩) h
theorem far_cells {W : World} {N A : Nat} {u v x y : Value} (h : A ≠ N) (c0 : W.cell? ⟨A, 0, none⟩ = some x) (c1 : W.cell? ⟨A, 1, none⟩ = some y) :
    ((W.setCell ⟨N, 0, none⟩ u).setCell ⟨N, 1, none⟩ v).cell? ⟨A, 0, none⟩ = some x ∧ ((W.setCell ⟨N, 0, none⟩ u).setCell ⟨N, 1, none⟩ v).cell? ⟨A, 1, none⟩ = some y := by
  constructor
  · rw [World.cell?_setCell_far _ _ _ _ (fun e => h e.symm), World.cell?_setCell_far _ _ _ _ (fun e => h e.symm), c0]
  · rw [World.cell?_setCell_far _ _ _ _ (fun e => h e.symm), World.cell?_setCell_far _ _ _ _ (fun e => h e.symm), c1]
/-- What holds behind a step, if the room for the next place is laid before it or not. -/
theorem up_step {w wr w' w3 : World} {base n m : Nat} {t T : TypeId} {v x y : Value} {xs : List Value} (hb3 : Below w'.heap.size w' w3) (hw' : (∃ o, w' = wr.drew.alloc o) ∨ w' = wr.drew)
    (hown : wr.ownsRow base t m v n xs) (hbr : Below w.heap.size w wr) (hlt : w.heap.size < wr.heap.size)
    (hrow : wr.heap[w.heap.size]? = some (.cells #[x, y] T (0, 0))) :
    w3.ownsRow base t m v n xs ∧ Below w.heap.size w w3 ∧ wr.heap.size ≤ w3.heap.size ∧ w3.cell? ⟨w.heap.size, 0, none⟩ = some x ∧ w3.cell? ⟨w.heap.size, 1, none⟩ = some y ∧ w3.heap[w.heap.size]? = some (.cells #[x, y] T (0, 0)) := by
  have h3 : Below wr.heap.size wr w3 := by
    rcases hw' with ⟨o, rfl⟩ | rfl
    · exact ((Below.refl wr.heap.size wr).drew.alloc (Nat.le_refl _) o).trans (hb3.mono (by simp))
    · exact (Below.refl wr.heap.size wr).drew.trans hb3
  have hr3 := (h3.block _ hlt).trans hrow
  exact ⟨own_below hown h3, hbr.trans (h3.mono (Nat.le_of_lt hlt)), h3.size, cell_of_row _ _ _ _ _ _ hr3, cell_of_row _ _ _ _ _ _ hr3, hr3⟩

set_option maxRecDepth 100000 in
set_option maxHeartbeats 6400000 in
theorem uprights_any (s : ByteArray) (w : World) (hw : DirsAt w) (hok : Tw.walkOk s.data.toList = true) :
    Calls Tryz.prog 149 #[.string s] w fun e w' => ∃ v us, e = .returned v ∧ w'.ownsRow (w.heap.size + 1) 154 3 v us.length (triCells us) ∧ us.length ≤ 40 ∧ (∀ u ∈ us, upright u) ∧ sumUp us = Tw.areaOf s.data.toList ∧ Below w.heap.size w w' := by
  have HOK := Lib.hid hok
  clear hok
  have h40 : s.size ≤ 40 := by have := Tw.walkOk_len HOK.out; rwa [size_data] at this
  obtain ⟨i0, hi0, hz0, hz1, hz2⟩ := info_parts triInfo
  go_enter Tryz.func149, Tryz.ntmps149
  go_wp2
  go_loopw [3, 5, 6] (fun vv i _ wr => ∃ (v : Value) (k : Nat) (us : List (Int × Int × Int)), v = vv ∧ k ≤ s.size ∧ i = .int .i64 k ∧ wr.ownsRow (w.heap.size + 1) 154 3 v us.length (triCells us) ∧ us.length ≤ k ∧ Hid (∀ u ∈ us, upright u) ∧ Hid (sumUp us = areaTo s.data.toList k) ∧ Below w.heap.size w wr ∧ w.heap.size + 1 ≤ wr.heap.size ∧
      wr.heap[w.heap.size]? = some (.cells #[.int .i64 (Tw.placeAt s.data.toList k).1, .int .i64 (Tw.placeAt s.data.toList k).2] 130 (0, 0)))
    (fun _ i _ _ => s.size - (intOf i).toNat)
  case atStart =>
    refine ⟨_, 0, [], rfl, Nat.zero_le _, rfl, ?_, Nat.le_refl _, (fun u hu => by cases hu), rfl, (Below.refl _ _).alloc (Nat.le_refl _) _, by simp, ?_⟩
    · exact ⟨rfl, .inl ⟨rfl, rfl⟩⟩
    · rw [Tw.placeAt_zero]
      exact heap_alloc_new w _
  case round =>
    obtain ⟨v, k, us, rfl, hk, rfl, hown, hul, HU, HS, hb, hsz, hrow⟩ := hrel
    by_cases hlt : k < s.size
    · have hd : 0 ≤ Tw.dir s[k] := Tw.walkOk_dir HOK.out (k := k) (by rw [size_data]; exact hlt)
      have hd3 := (Tw.dir_range s[k]).2
      obtain ⟨p, hp⟩ : ∃ p, p = Tw.placeAt s.data.toList k := ⟨_, rfl⟩
      have hr := Tw.placeAt_range s.data.toList k
      rw [← hp] at hr hrow
      have HP := Lib.hid hp
      clear hp
      have hx2 : -1000000 ≤ p.1 ∧ p.1 ≤ 1000000 := ⟨by omega, by omega⟩
      have hy2 : -1000000 ≤ p.2 ∧ p.2 ≤ 1000000 := ⟨by omega, by omega⟩
      have hk0 : (0 : Int) ≤ (k : Int) := by omega
      have hdr := hw.below hb hw.lt
      have c0 : wr.cell? ⟨w.heap.size, 0, none⟩ = some (.int .i64 p.1) := cell_of_row _ _ _ _ _ _ hrow
      have c1 : wr.cell? ⟨w.heap.size, 1, none⟩ = some (.int .i64 p.2) := cell_of_row _ _ _ _ _ _ hrow
      have HROW := Lib.hid hrow
      clear hrow
      go_wp2_with fail
      obtain ⟨x2, hx2e⟩ : ∃ x2, p.1 + Tw.east (Tw.dir s[k]) = x2 := ⟨_, rfl⟩
      obtain ⟨nd, hnd⟩ : ∃ nd, Tw.north (Tw.dir s[k]) = nd := ⟨_, rfl⟩
      obtain ⟨y2, hy2e⟩ : ∃ y2, p.2 + Tw.north (Tw.dir s[k]) = y2 := ⟨_, rfl⟩
      have hnr := Tw.north_range (Tw.dir s[k])
      rw [hnd] at hnr
      have hy2n : y2 = p.2 + nd := by rw [← hy2e, hnd]
      have hplace : Tw.placeAt s.data.toList (k + 1) = (x2, y2) := by
        rw [Tw.placeAt_succ _ _ (by rw [size_data]; exact hlt), ← HP.out]
        show (p.1 + Tw.east (Tw.dir s[k]), p.2 + Tw.north (Tw.dir s[k])) = _
        rw [hx2e, hy2e]
      have harea : areaTo s.data.toList (k + 1) = areaTo s.data.toList k + p.1 * nd := by
        rw [areaTo_succ (by rw [size_data]; exact hlt), ← HP.out, ← hnd]
        rfl
      have HPL := Lib.hid hplace
      have HAR := Lib.hid harea
      have HX2 := Lib.hid hx2e
      have HY2 := Lib.hid hy2e
      clear hplace harea hx2e hy2e hnd
      have hyb : p.2 - 1 ≤ y2 ∧ y2 ≤ p.2 + 1 := by omega
      have hlt0 : w.heap.size < wr.heap.size := by omega
      have hvb : ∀ g, v.ownBlock = some g → w.heap.size + 1 ≤ g ∧ g < wr.heap.size := fun g hg => hown.lt g hg
      have hv0 : v.ownBlock ≠ some wr.heap.size := fun e => by have := hvb _ e; omega
      have hvA : v.ownBlock ≠ some w.heap.size := fun e => by have := hvb _ e; omega
      have hyy : (y2 = p.2 ∧ nd = 0) ∨ ((y2 == p.2) = false ∧ (nd = 1 ∨ nd = -1)) := by
        rcases Decidable.em (nd = 0) with h | h
        · exact .inl ⟨by omega, h⟩
        · exact .inr ⟨beq_false_of_ne (by omega), by omega⟩
      have HYN := Lib.hid hy2n
      clear hy2n
      go_region_held3 (fun w' => w'.cell? ⟨w.heap.size, 0, none⟩ = some (.int .i64 p.1) ∧ w'.cell? ⟨w.heap.size, 1, none⟩ = some (.int .i64 p.2))
        (first
          | exact ⟨c0, c1⟩
          | exact ⟨(cell_old hlt0 _).trans c0, (cell_old hlt0 _).trans c1⟩
          | exact ⟨k0, k1⟩
          | exact ⟨(cell_old hlt3 _).trans k0, (cell_old hlt3 _).trans k1⟩
          | exact far_cells hne3 ((cell_old hlt3 _).trans k0) ((cell_old hlt3 _).trans k1)
          | exact far_cells hne0 k0 k1)
        (first
          | (go_at_call 113; refine (dirOf_any _ _).mono ?_; rintro e w' ⟨rfl, rfl⟩)
          | (go_at_call 146; first
              | (refine (stepped_to p.1 p.2 _ x2 y2 wr.drew hdr.drew hd hd3 hx2 hy2 HX2.out HY2.out).mono ?_; rintro e w3 ⟨rfl, hb3⟩; obtain ⟨hown3, hB3, hs3, k0, k1, hrow3⟩ := up_step hb3 (.inr rfl) hown hb hlt0 HROW.out; have hlt3 : w.heap.size < w3.heap.size := Nat.lt_of_lt_of_le hlt0 hs3; have hne3 : w.heap.size ≠ w3.heap.size := Nat.ne_of_lt hlt3; have hne0 : w.heap.size ≠ wr.heap.size := Nat.ne_of_lt hlt0)
              | (refine (stepped_to p.1 p.2 _ x2 y2 (wr.drew.alloc _) (hdr.drew.alloc _) hd hd3 hx2 hy2 HX2.out HY2.out).mono ?_; rintro e w3 ⟨rfl, hb3⟩; obtain ⟨hown3, hB3, hs3, k0, k1, hrow3⟩ := up_step hb3 (.inl ⟨_, rfl⟩) hown hb hlt0 HROW.out; have e0 := (hb3.block wr.heap.size (by simp)).trans (heap_alloc_new wr.drew _); have n0 := cell_of_row _ _ 0 _ _ _ e0; have n1 := cell_of_row _ _ 1 _ _ _ e0; have f0 := frozen_of_row _ _ 0 _ _ e0; have f1 := frozen_of_row _ _ 1 _ _ e0; have hlt3 : w.heap.size < w3.heap.size := Nat.lt_of_lt_of_le hlt0 hs3; have hne3 : w.heap.size ≠ w3.heap.size := Nat.ne_of_lt hlt3; have hne0 : w.heap.size ≠ wr.heap.size := Nat.ne_of_lt hlt0)))
      all_goals
        have hv3 : v.ownBlock ≠ some w3.heap.size := fun e => by have := hvb _ e; omega
        first
          | (refine at_world (F := NextAt w w3.heap.size (w.heap.size + 1) us.length 3 154 130 v (triCells us) (.int .i64 p.1) (.int .i64 p.2) (.int .i64 x2) (.int .i64 y2)) (next_alloc hown3 hB3 hlt3 hv3 hrow3 _ _) ?_)
          | (refine at_world (F := NextAt w wr.heap.size (w.heap.size + 1) us.length 3 154 130 v (triCells us) (.int .i64 p.1) (.int .i64 p.2) (.int .i64 x2) (.int .i64 y2)) (next_set hown3 hB3 hlt3 hlt0 hv0 hrow3 e0 _ _) ?_)
        intro W2 hW2
        obtain ⟨hown2, hB2, hlt2, hnlt2, hnne2, hvN, hrow2, hnrow2⟩ := hW2
        have c0 := cell_of_row _ _ 0 _ _ _ hrow2
        have c1 := cell_of_row _ _ 1 _ _ _ hrow2
        have f0 := frozen_of_row _ _ 0 _ _ hrow2
        have f1 := frozen_of_row _ _ 1 _ _ hrow2
        have n0 := cell_of_row _ _ 0 _ _ _ hnrow2
        have n1 := cell_of_row _ _ 1 _ _ _ hnrow2
        have HR2 := Lib.hid hrow2
        have HN2 := Lib.hid hnrow2
        clear hrow2 hnrow2
        rcases hyy with ⟨rfl, hnd0⟩ | ⟨hyf, hnd1⟩
        · go_wp2
          go_roundw
          case rel =>
            refine ⟨v, k + 1, us, rfl, by omega, by go_num, own_set3 (own_set3 hown2 _ _ hvA) _ _ hvA, by omega, HU, ?_, (hB2.setCell (Nat.le_refl _) _).setCell (Nat.le_refl _) _, by simp; omega, ?_⟩
            · show _ = _
              rw [HAR.out, hnd0, HS.out, Int.mul_zero, Int.add_zero]
            · rw [HPL.out]
              exact two_setCell HR2.out _ _
          case measure => simp [intOf]; omega
        · go_wp2_with (first
            | (at_builtin; refine wpList_append_lies _ (by rfl) _ _ _ (by rfl) (w.heap.size + 1) 154 i0 _ 3 24 Tryz.underlying151 hi0 hz0 hz1 hz2 rfl (by omega) _ us.length _ (by rfl) (hown2.alloc _) ⟨W2.heap.size, 0, none⟩ 1 1 [.int .i64 p.1, .int .i64 (min p.2 y2), .int .i64 (y2 - p.2)] (by rfl) (by rfl) (World.news_of_block (cs := #[.int .i64 p.1, .int .i64 (min p.2 y2), .int .i64 (y2 - p.2)]) (t := 154) (fr := (0, 0)) (heap_alloc_new W2 _)) (by simp [Value.oneCell']) (by omega) (by unfold maxLen; omega) (by omega) (by simp; omega) (W2.heap.size + 1) (by simp) ?_; intro gg cap2 w4 hown4 hgrow4 hat4 hlt4; have r4 := grow_row HR2.out hgrow4 hvA; have m4 := grow_row HN2.out hgrow4 hvN; have q0 := cell_of_row _ _ 0 _ _ _ r4; have q1 := cell_of_row _ _ 1 _ _ _ r4; have g0 := frozen_of_row _ _ 0 _ _ r4; have g1 := frozen_of_row _ _ 1 _ _ r4; have o0 := cell_of_row _ _ 0 _ _ _ m4; have o1 := cell_of_row _ _ 1 _ _ _ m4; have R4 := Lib.hid r4; clear r4 m4))
          go_roundw
          case rel =>
            have hup : y2 - p.2 = nd := by have := HYN.out; omega
            have hgg := hown4.lt gg rfl
            have hggA : (Value.slice (some ⟨gg, 0, none⟩) (us.length + 1) cap2).ownBlock ≠ some w.heap.size := by
              show some gg ≠ some w.heap.size
              intro e
              cases e
              omega
            have hB4 : Below w.heap.size w w4 := (hB2.alloc (Nat.le_of_lt hlt2) _).grown hgrow4 (by simp; omega) (fun j hj => by have := hvb j hj; omega)
            have hcells : triCells us ++ [.int .i64 p.1, .int .i64 (min p.2 y2), .int .i64 (y2 - p.2)] = triCells (us ++ [(p.1, min p.2 y2, y2 - p.2)]) := by
              rw [triCells_append]
              rfl
            rw [hcells] at hown4
            refine ⟨_, k + 1, us ++ [(p.1, min p.2 y2, y2 - p.2)], rfl, by omega, by go_num, ?_, by simp; omega, ?_, ?_, (hB4.setCell (Nat.le_refl _) _).setCell (Nat.le_refl _) _, by simp; omega, ?_⟩
            · rw [List.length_append]
              exact own_set3 (own_set3 hown4 _ _ hggA) _ _ hggA
            · show ∀ u ∈ _, upright u
              intro u hu
              rcases List.mem_append.1 hu with h | h
              · exact HU.out u h
              · obtain rfl := List.mem_singleton.1 h
                refine ⟨by show -1000 ≤ p.1; omega, by show p.1 ≤ 1000; omega, by show -1000 ≤ min p.2 y2; omega, by show min p.2 y2 ≤ 1000; omega, ?_⟩
                show y2 - p.2 = 1 ∨ y2 - p.2 = -1
                omega
            · show _ = _
              rw [sumUp_snoc, HAR.out, HS.out]
              show _ + p.1 * (y2 - p.2) = _
              rw [hup]
            · rw [HPL.out]
              exact two_setCell R4.out _ _
          case measure => simp [intOf]; omega
    · obtain rfl : k = s.size := by omega
      go_wp2
      go_ret
      refine ⟨v, us, rfl, hown, by omega, HU.out, ?_, hb⟩
      rw [HS.out, ← size_data, areaTo_all]

end Go.Proofs.YtccdfndnjjjgfaaGreatDoor
