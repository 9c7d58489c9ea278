/-
  The reference's DeskDo: the desk after a deed.
-/
import Derived.Test.YtccdfndnjjjgfaaGreatDoorDeskCopy
import Derived.Test.YtccdfndnjjjgfaaGreatDoorMade
import Derived.Test.YtccdfndnjjjgfaaGreatDoorDeskAt
import Derived.Lib.Builder
namespace Go.Proofs.YtccdfndnjjjgfaaGreatDoor
open Go.RowKit

/-- Walks of before in a row that is known whole. -/
def PastAt (w : World) (v : Value) (ys : List ByteArray) : Prop :=
  (v = .slice none 0 0 ∧ ys = []) ∨ ∃ (g off cap : Nat) (cur : Array Value), v = .slice (some ⟨g, off, none⟩) ys.length cap ∧ ys.length ≤ cap ∧ w.heap[g]? = some (.cells cur 9 (0, 0)) ∧ off + cap ≤ cur.size ∧ ∀ (j : Nat) (z : ByteArray), ys[j]? = some z → cur[off + j]? = some (.string z)
theorem lt_at {w : World} {b : Nat} {o : Obj} (h : w.heap[b]? = some o) : b < w.heap.size := (Array.getElem?_eq_some_iff.1 h).1
theorem PastAt.below {w w' : World} {v : Value} {ys : List ByteArray} (h : PastAt w v ys) (hb : Below w.heap.size w w') : PastAt w' v ys := by
  rcases h with h | ⟨g, off, cap, cur, rfl, hl, hg, hc, hz⟩
  · exact .inl h
  · exact .inr ⟨g, off, cap, cur, rfl, hl, (hb.block _ (lt_at hg)).trans hg, hc, hz⟩
theorem PastAt.strs {w : World} {v : Value} {ys : List ByteArray} (h : PastAt w v ys) : StrsAt w v ys := by
  rcases h with h | ⟨g, off, cap, cur, rfl, hl, hg, hc, hz⟩
  · exact .inl h
  · refine .inr ⟨⟨g, off, none⟩, cap, rfl, hl, fun j z hj => ?_⟩
    have e : (⟨g, off, none⟩ : Addr).add j = ⟨g, off + j, none⟩ := by unfold Addr.add; split <;> simp_all
    rw [e]
    exact (cell_of_row _ _ _ _ _ _ hg).trans (hz j z hj)
theorem past_own {w : World} {base : Nat} {v : Value} {ys : List ByteArray} (h : w.ownsRow base 9 1 v ys.length (strVals ys)) : PastAt w v ys := by
  rcases h.2 with ⟨rfl, h0⟩ | ⟨g, cap, cur, rfl, _, hg, hl, _, hs, ht⟩
  · exact .inl ⟨rfl, List.length_eq_zero_iff.1 h0⟩
  · refine .inr ⟨g, 0, cap, cur, rfl, hl, hg, by omega, fun j z hj => ?_⟩
    have hj2 := (List.getElem?_eq_some_iff.1 hj).1
    have e : (cur.toList.take (ys.length * 1))[j]? = (strVals ys)[j]? := by rw [ht]
    rw [List.getElem?_take, if_pos (by omega), Array.getElem?_toList] at e
    rw [Nat.zero_add, e]
    unfold strVals
    rw [List.getElem?_map, hj]
    rfl

theorem past_take {w : World} {g off n cap : Nat} {zs : List ByteArray} (h : PastAt w (.slice (some ⟨g, off, none⟩) n cap) zs) {k : Nat} (hk : k ≤ n) (hn : zs.length = n) : PastAt w (.slice (some ⟨g, off, none⟩) k cap) (zs.take k) := by
  rcases h with ⟨h, _⟩ | ⟨g', off', cap', cur, he, hl, hg, hc, hz⟩
  · cases h
  · cases he
    have e : (zs.take k).length = k := by rw [List.length_take]; omega
    refine .inr ⟨g, off, cap, cur, by rw [e], by omega, hg, hc, fun j z hj => hz j z ?_⟩
    rw [List.getElem?_take] at hj
    split at hj
    · exact hj
    · cases hj
theorem past_drop {w : World} {g n cap : Nat} {zs : List ByteArray} (h : PastAt w (.slice (some ⟨g, 0, none⟩) (n + 1) cap) zs) (hn : zs.length = n + 1) : PastAt w (.slice (some ⟨g, 1, none⟩) n (cap - 1)) (zs.drop 1) := by
  rcases h with ⟨h, _⟩ | ⟨g', off', cap', cur, he, hl, hg, hc, hz⟩
  · cases h
  · simp only [Value.slice.injEq, Option.some.injEq, Addr.mk.injEq, and_true] at he
    obtain ⟨⟨rfl, rfl⟩, _, rfl⟩ := he
    have e : (zs.drop 1).length = n := by rw [List.length_drop]; omega
    refine .inr ⟨g, 1, cap - 1, cur, by rw [e], by omega, hg, by omega, fun j z hj => ?_⟩
    rw [List.getElem?_drop] at hj
    have := hz (1 + j) z hj
    rwa [Nat.zero_add] at this
theorem past_put {w : World} {v : Value} {ys : List ByteArray} (h : PastAt w v ys) (a : Addr) (u : Value) (hne : v.ownBlock ≠ some a.block) : PastAt (w.setCell a u) v ys := by
  rcases h with h | ⟨g, off, cap, cur, rfl, hl, hg, hc, hz⟩
  · exact .inl h
  · exact .inr ⟨g, off, cap, cur, rfl, hl, (heap_setCell_other w a g _ (fun e => hne (by rw [e]; rfl))).trans hg, hc, hz⟩
theorem strs_value {w : World} {v : Value} {zs : List ByteArray} (h : StrsAt w v zs) : ∃ a c, v = .slice a zs.length c := by
  rcases h with ⟨rfl, rfl⟩ | ⟨a, cap, rfl, _⟩
  · exact ⟨_, _, rfl⟩
  · exact ⟨_, _, rfl⟩

/-- A slice of blocks at or behind B alone. -/
def Fresh (B : Nat) (v : Value) : Prop := ∀ b, v.ownBlock = some b → B ≤ b
theorem Fresh.slice {B g off n c : Nat} (h : B ≤ g) : Fresh B (.slice (some ⟨g, off, none⟩) n c) := by
  intro b e
  have h9 : g = b := Option.some.inj e
  omega
theorem Fresh.none (B : Nat) : Fresh B (.slice none 0 0) := by
  intro b e
  cases e
theorem fresh_own {w : World} {base : Nat} {e : TypeId} {size n : Nat} {v : Value} {xs : List Value} (h : w.ownsRow base e size v n xs) {B : Nat} (hB : B ≤ base) : Fresh B v := fun b hb => Nat.le_trans hB (h.lt b hb).1
theorem own_le {w : World} {base g n cap : Nat} {e : TypeId} {xs : List Value} (h : w.ownsRow base e 1 (.slice (some ⟨g, 0, none⟩) n cap) n xs) : n ≤ cap := by
  rcases h.2 with ⟨h1, _⟩ | ⟨g', cap', cur, h1, _, _, hl, _⟩
  · cases h1
  · cases h1
    exact hl

theorem copy_named (s : ByteArray) (v : Value) (zs : List ByteArray) (w : World) (h : StrsAt w v zs) (L : Nat) (hL : zs.length = L) (hn : L ≤ 1048576) :
    Calls Tryz.prog 38 #[.agg #[.string s, v]] w fun e w' => ∃ g cap, e = .returned (.agg #[.string s, .slice (some ⟨g, 0, none⟩) L cap]) ∧ w'.ownsRow (w.heap.size + 2) 9 1 (.slice (some ⟨g, 0, none⟩) L cap) L (strVals zs) ∧ PastAt w' (.slice (some ⟨g, 0, none⟩) L cap) zs ∧ Below w.heap.size w w' := by
  subst hL
  refine (copy_any s v zs w h hn).mono ?_
  rintro e w' ⟨v', rfl, hown, hne, hb⟩
  obtain ⟨g, cap, rfl⟩ := own_slice hown hne
  exact ⟨g, cap, rfl, hown, past_own hown, hb⟩
/-- A desk and whether, in new memory. -/
def DeskOut (w : World) (x : ByteArray) (ys : List ByteArray) (b : Bool) (e : Ending) (w' : World) : Prop := ∃ v', e = .returned (.tuple #[.agg #[.string x, v'], .bool b]) ∧ PastAt w' v' ys ∧ Fresh w.heap.size v' ∧ Below w.heap.size w w'
/-- The boxes of DeskDo: the desk, the deed, the result. -/
structure Boxes (B : Nat) (s : ByteArray) (v : Value) (k n : Int) (W : World) : Prop where
  d : W.heap[B]? = some (.cells #[.string s, v] 27 (0, 0))
  a : W.heap[B + 1]? = some (.cells #[.int .i64 k, .int .i64 n] 53 (0, 0))
  r : W.heap[B + 1 + 1]? = some (.cells #[.string ⟨#[]⟩, .slice none 0 0] 27 (0, 0))
theorem Boxes.below {B : Nat} {s : ByteArray} {v : Value} {k n : Int} {W W' : World} (h : Boxes B s v k n W) (hb : Below W.heap.size W W') : Boxes B s v k n W' :=
  ⟨(hb.block _ (lt_at h.d)).trans h.d, (hb.block _ (lt_at h.a)).trans h.a, (hb.block _ (lt_at h.r)).trans h.r⟩
def boxWorld (w : World) (s : ByteArray) (v : Value) (k n : Int) : World := ((w.alloc (.cells #[.string s, v] 27)).alloc (.cells #[.int .i64 k, .int .i64 n] 53)).alloc (.cells #[.string ⟨#[]⟩, .slice none 0 0] 27)
theorem boxes_start (w : World) (s : ByteArray) (v : Value) (k n : Int) : Boxes w.heap.size s v k n (boxWorld w s v k n) ∧ Below w.heap.size w (boxWorld w s v k n) ∧ (boxWorld w s v k n).heap.size = w.heap.size + 3 := by
  have e1 := heap_alloc_new w (.cells #[.string s, v] 27)
  have e2 := heap_alloc_new (w.alloc (.cells #[.string s, v] 27)) (.cells #[.int .i64 k, .int .i64 n] 53)
  have e3 := heap_alloc_new ((w.alloc (.cells #[.string s, v] 27)).alloc (.cells #[.int .i64 k, .int .i64 n] 53)) (.cells #[.string ⟨#[]⟩, .slice none 0 0] 27)
  rw [World.size_alloc] at e2 e3
  rw [World.size_alloc] at e3
  refine ⟨⟨?_, ?_, e3⟩, (((Below.refl _ _).alloc (Nat.le_refl _) _).alloc (by simp) _).alloc (by simp; omega) _, by simp [boxWorld]⟩
  · exact (Lib.alloc_old _ _ _ (by simp; omega)).trans ((Lib.alloc_old _ _ _ (by simp)).trans e1)
  · exact (Lib.alloc_old _ _ _ (by simp)).trans e2
theorem deskOk_named (s : ByteArray) (v : Value) (zs : List ByteArray) (w : World) (h : StrsAt w v zs) (hs : s.size ≤ 1048576) (hn : zs.length ≤ 1048576) (hz : ∀ z ∈ zs, z.size ≤ 1048576) (b : Bool) (hb : deskOk s zs = b) :
    Calls Tryz.prog 24 #[.agg #[.string s, v]] w fun e w' => e = .returned (.bool b) ∧ Below w.heap.size w w' := hb ▸ specDeskOk s v zs w h hs hn hz

theorem Boxes.cells {B : Nat} {s : ByteArray} {v : Value} {k n : Int} {W : World} (h : Boxes B s v k n W) :
    (W.cell? ⟨B, 0, none⟩ = some (.string s) ∧ W.cell? ⟨B, 1, none⟩ = some v) ∧ (W.cell? ⟨B + 1, 0, none⟩ = some (.int .i64 k) ∧ W.cell? ⟨B + 1, 1, none⟩ = some (.int .i64 n)) ∧ (W.cell? ⟨B + 1 + 1, 0, none⟩ = some (.string ⟨#[]⟩) ∧ W.cell? ⟨B + 1 + 1, 1, none⟩ = some (.slice none 0 0)) ∧ W.frozen? ⟨B + 1 + 1, 0, none⟩ = false ∧ W.frozen? ⟨B + 1 + 1, 1, none⟩ = false :=
  ⟨⟨cell_of_row _ _ 0 _ _ _ h.d, cell_of_row _ _ 1 _ _ _ h.d⟩, ⟨cell_of_row _ _ 0 _ _ _ h.a, cell_of_row _ _ 1 _ _ _ h.a⟩, ⟨cell_of_row _ _ 0 _ _ _ h.r, cell_of_row _ _ 1 _ _ _ h.r⟩, frozen_of_row _ _ 0 _ _ h.r, frozen_of_row _ _ 1 _ _ h.r⟩
theorem Boxes.allocs {B : Nat} {s : ByteArray} {v : Value} {k n : Int} {W : World} (h : Boxes B s v k n W) :
    ((∀ o : Obj, (W.alloc o).cell? ⟨B, 0, none⟩ = some (.string s)) ∧ ∀ o : Obj, (W.alloc o).cell? ⟨B, 1, none⟩ = some v) ∧ ((∀ o : Obj, (W.alloc o).cell? ⟨B + 1, 0, none⟩ = some (.int .i64 k)) ∧ ∀ o : Obj, (W.alloc o).cell? ⟨B + 1, 1, none⟩ = some (.int .i64 n)) ∧ ((∀ o : Obj, (W.alloc o).cell? ⟨B + 1 + 1, 0, none⟩ = some (.string ⟨#[]⟩)) ∧ ∀ o : Obj, (W.alloc o).cell? ⟨B + 1 + 1, 1, none⟩ = some (.slice none 0 0)) ∧ (∀ o : Obj, (W.alloc o).frozen? ⟨B + 1 + 1, 0, none⟩ = false) ∧ ∀ o : Obj, (W.alloc o).frozen? ⟨B + 1 + 1, 1, none⟩ = false := by
  have h2 := fun o : Obj => (h.below ((Below.refl _ _).alloc (Nat.le_refl _) o)).cells
  exact ⟨⟨fun o => (h2 o).1.1, fun o => (h2 o).1.2⟩, ⟨fun o => (h2 o).2.1.1, fun o => (h2 o).2.1.2⟩, ⟨fun o => (h2 o).2.2.1.1, fun o => (h2 o).2.2.1.2⟩, fun o => (h2 o).2.2.2.1, fun o => (h2 o).2.2.2.2⟩
set_option maxRecDepth 100000 in
set_option maxHeartbeats 1600000 in
theorem do_none (s : ByteArray) (v : Value) (zs : List ByteArray) (k n : Int) (w : World) (h : StrsAt w v zs) (hs : s.size ≤ 1048576) (hn : zs.length ≤ 1048576) (hz : ∀ z ∈ zs, z.size ≤ 1048576) (hok : deskOk s zs = false) :
    Calls Tryz.prog 49 #[.agg #[.string s, v], .agg #[.int .i64 k, .int .i64 n]] w (DeskOut w ⟨#[]⟩ [] false) := by
  obtain ⟨hbx, hb, hsz⟩ := boxes_start w s v k n
  obtain ⟨W, hW⟩ : ∃ W, boxWorld w s v k n = W := ⟨_, rfl⟩
  rw [hW] at hbx hb hsz
  have hdk := deskOk_named s v zs W (h.below' hb) hs hn hz false hok
  have hv : ∃ a m c, v = .slice a m c := by
    rcases h with ⟨rfl, _⟩ | ⟨a, cap, rfl, _⟩
    · exact ⟨_, _, _, rfl⟩
    · exact ⟨_, _, _, rfl⟩
  have d0 := cell_of_row _ _ 0 _ _ _ hbx.d
  have d1 := cell_of_row _ _ 1 _ _ _ hbx.d
  have HDK := Lib.hid hdk
  have HBX := Lib.hid hbx
  unfold boxWorld at hW
  have HW := Lib.hid hW
  clear hdk hbx hW h hz hok
  obtain ⟨a, m, c, rfl⟩ := hv
  go_enter Tryz.func49, Tryz.ntmps49
  go_wp2_with fail
  rw [HW.out]
  go_wp2_with (first
    | (go_at_call 24; refine HDK.out.mono ?_; rintro e w1 ⟨rfl, hb1⟩; have hbx1 := HBX.out.below hb1; have r0 := cell_of_row _ _ 0 _ _ _ hbx1.r; have r1 := cell_of_row _ _ 1 _ _ _ hbx1.r; have f0 := frozen_of_row _ _ 0 _ _ hbx1.r; have f1 := frozen_of_row _ _ 1 _ _ hbx1.r; have q := pair_put hbx1.r (.string ⟨#[]⟩) (.slice none 0 0); have q0 := cell_of_row _ _ 0 _ _ _ q; have q1 := cell_of_row _ _ 1 _ _ _ q; clear hbx1 q))
  refine bodyPost_ret (v := .tuple #[.agg #[.string ⟨#[]⟩, .slice none 0 0], .bool false]) (by simp [results, Tryz.results49, go_sem, q0, q1]) rfl ?_
  exact ⟨_, rfl, .inl ⟨rfl, rfl⟩, Fresh.none _, ((hb.trans (hb1.mono hb.size)).setCell (by show w.heap.size ≤ w.heap.size + 1 + 1; omega) _).setCell (by show w.heap.size ≤ w.heap.size + 1 + 1; omega) _⟩

set_option maxRecDepth 100000 in
set_option maxHeartbeats 1600000 in
theorem do_back (s : ByteArray) (a : Option Addr) (c L : Nat) (zs : List ByteArray) (w : World) (h : StrsAt w (.slice a L c) zs) (HL : Hid (zs.length = L)) (hs : s.size ≤ 41) (h8 : L ≤ 8) (HZ : Hid (∀ z ∈ zs, z.size ≤ 41)) (hok : Hid (deskOk s zs = true)) (m : Nat) (hm : L = m + 1) (z : ByteArray) (hzl : Hid (zs[m]? = some z)) :
    Calls Tryz.prog 49 #[.agg #[.string s, .slice a L c], .agg #[.int .i64 5, .int .i64 0]] w (DeskOut w z (zs.take m) true) := by
  obtain ⟨hbx, hb, hsz⟩ := boxes_start w s (.slice a L c) 5 0
  obtain ⟨W, hW⟩ : ∃ W, boxWorld w s (.slice a L c) 5 0 = W := ⟨_, rfl⟩
  rw [hW] at hbx hb hsz
  have hdk := deskOk_named s (.slice a L c) zs W (h.below' hb) (by omega) (by rw [HL.out]; omega) (fun z hz' => by have := HZ.out z hz'; omega) true hok.out
  have hst := h.below' hb
  obtain ⟨⟨d0, d1⟩, ho⟩ := hbx.cells
  clear ho
  have HST := Lib.hid hst
  have HDK := Lib.hid hdk
  have HBX := Lib.hid hbx
  unfold boxWorld at hW
  have HW := Lib.hid hW
  clear hdk hbx hW h hok hst
  subst hm
  have hsv : (strVals zs)[m]? = some (.string z) := by
    unfold strVals
    rw [List.getElem?_map, hzl.out]
    rfl
  have HSV := Lib.hid hsv
  clear hsv
  go_enter Tryz.func49, Tryz.ntmps49
  go_wp2_with fail
  rw [HW.out]
  go_wp2_with (first
    | (go_at_call 24; refine HDK.out.mono ?_; rintro e w1 ⟨rfl, hb1⟩; have hbx1 := HBX.out.below hb1; have hs1 := hb1.size; have hst1 := HST.out.below' hb1; have BX1 := Lib.hid hbx1; have ST1 := Lib.hid hst1; obtain ⟨⟨e0, e1⟩, ho⟩ := hbx1.cells; clear ho; clear hbx1 hst1)
    | (go_at_call 38; refine (copy_named s _ zs w1 ST1.out (m + 1) HL.out (by omega)).mono ?_; rintro e w2 ⟨g2, cap2, rfl, hown2, hp2, hb2⟩; have hbx2 := BX1.out.below hb2; have hs2 := hb2.size; have hg2 := hown2.lt g2 rfl; have hc2 := own_le hown2; have hlR := lt_at hbx2.r; obtain ⟨hq, hq2, ⟨x0, x1⟩, xf0, xf1⟩ := hbx2.cells; clear hq hq2; obtain ⟨⟨k0, k1⟩, ⟨l0, l1⟩, ⟨r0, r1⟩, rf0, rf1⟩ := hbx2.allocs; have ho3 := heap_alloc_new w2 (.cells #[.string s, .slice (some ⟨g2, 0, none⟩) (m + 1) cap2] 27); have o0 := cell_of_row _ _ 0 _ _ _ ho3; have o1 := cell_of_row _ _ 1 _ _ _ ho3; have fo0 := frozen_of_row _ _ 0 _ _ ho3; have fo1 := frozen_of_row _ _ 1 _ _ ho3; have hneA : w2.heap.size ≠ w.heap.size + 1 + 1 := (by omega); have hneB := hneA.symm; have hneG : (Value.slice (some ⟨g2, 0, none⟩) (m + 1) cap2).ownBlock ≠ some w2.heap.size := (fun e => by (have h9 : g2 = w2.heap.size := Option.some.inj e; omega)); have hneR : g2 ≠ w.heap.size + 1 + 1 := (by omega); have HP2 := Lib.hid hp2; have HO3 := Lib.hid ho3; have HRX := Lib.hid hbx2.r; have HOW2 := Lib.hid hown2; have BX2 := Lib.hid hbx2; clear hbx2 ho3 hp2; have z0 := own_cell (hown2.alloc (.cells #[.string s, .slice (some ⟨g2, 0, none⟩) (m + 1) cap2] 27)) HSV.out; have hm0 : (0 : Int) ≤ (m : Int) := (by omega); have hmc : m ≤ cap2 := (by omega)))
  have hbw1 := hb.trans (hb1.mono hb.size)
  have hbw2 := hbw1.trans (hb2.mono hbw1.size)
  have q := (Lib.alloc_old _ (.cells #[.string z, .slice (some ⟨g2, 0, none⟩) m cap2] 27) _ (lt_at (pair_put HRX.out (.string z) (.slice (some ⟨g2, 0, none⟩) m cap2)))).trans (pair_put HRX.out (.string z) (.slice (some ⟨g2, 0, none⟩) m cap2))
  have q0 := cell_of_row _ _ 0 _ _ _ q
  have q1 := cell_of_row _ _ 1 _ _ _ q
  simp at q0 q1
  refine bodyPost_ret (v := .tuple #[.agg #[.string z, .slice (some ⟨g2, 0, none⟩) m cap2], .bool true]) (by simp [results, Tryz.results49, go_sem, q0, q1]) rfl ?_
  refine ⟨_, rfl, ?_, Fresh.slice (by omega), ?_⟩
  · have hp3 := past_take HP2.out (k := m) (by omega) HL.out
    have hne : (Value.slice (some ⟨g2, 0, none⟩) m cap2).ownBlock ≠ some (w.heap.size + 1 + 1) := fun e => hneR (Option.some.inj e)
    exact (past_put (past_put hp3 _ _ hne) _ _ hne).below ((Below.refl _ _).alloc (Nat.le_refl _) _)
  · have hle : w.heap.size ≤ w.heap.size + 1 + 1 := by omega
    exact ((hbw2.setCell hle _).setCell hle _).alloc (by simp; exact hbw2.size) _

/-- made -/
theorem made_named (s : ByteArray) (k n : Int) (w : World) (x : ByteArray) (b : Bool) (hs : s.size ≤ 41) (hz : -9223372036854775808 ≤ n ∧ n ≤ 9223372036854775807) (hm : Hid (made s k n = (x, b))) :
    Calls Tryz.prog 103 #[.string s, .agg #[.int .i64 k, .int .i64 n]] w fun e w' => e = .returned (.tuple #[.string x, .bool b]) ∧ Below w.heap.size w w' := by
  have h := made_any s k n w hs hz
  rw [hm.out] at h
  exact h
set_option maxRecDepth 100000 in
set_option maxHeartbeats 1600000 in
theorem do_same (s : ByteArray) (a : Option Addr) (c L : Nat) (zs : List ByteArray) (w : World) (h : StrsAt w (.slice a L c) zs) (HL : Hid (zs.length = L)) (hs : s.size ≤ 41) (h8 : L ≤ 8) (HZ : Hid (∀ z ∈ zs, z.size ≤ 41)) (hok : Hid (deskOk s zs = true)) (k n : Int) (hkn : -9223372036854775808 ≤ n ∧ n ≤ 9223372036854775807) (hc : (k == 5) = false ∨ ((k == 5) = true ∧ (n == 0) = false) ∨ ((k == 5) = true ∧ (n == 0) = true ∧ (L : Int) ≤ 0)) (x : ByteArray) (b : Bool) (hm : Hid (made s k n = (x, b))) (hx : b = false ∨ (b = true ∧ (x.toList == s.toList) = true)) :
    Calls Tryz.prog 49 #[.agg #[.string s, .slice a L c], .agg #[.int .i64 k, .int .i64 n]] w (DeskOut w s zs false) := by
  obtain ⟨hbx, hb, hsz⟩ := boxes_start w s (.slice a L c) k n
  obtain ⟨W, hW⟩ : ∃ W, boxWorld w s (.slice a L c) k n = W := ⟨_, rfl⟩
  rw [hW] at hbx hb hsz
  have hdk := deskOk_named s (.slice a L c) zs W (h.below' hb) (by omega) (by rw [HL.out]; omega) (fun z hz' => by have := HZ.out z hz'; omega) true hok.out
  have hst := h.below' hb
  obtain ⟨⟨d0, d1⟩, ho⟩ := hbx.cells
  clear ho
  have HST := Lib.hid hst
  have HDK := Lib.hid hdk
  have HBX := Lib.hid hbx
  unfold boxWorld at hW
  have HW := Lib.hid hW
  clear hdk hbx hW h hok hst
  rcases hx with rfl | ⟨rfl, hx⟩
  all_goals
   rcases hc with hc | ⟨hk5, hc⟩ | ⟨hk5, hn0, hc⟩
   all_goals
    go_enter Tryz.func49, Tryz.ntmps49
    go_wp2_with fail
    rw [HW.out]
    go_wp2_with (first
     | (go_at_call 24; refine HDK.out.mono ?_; rintro e w1 ⟨rfl, hb1⟩; have hbx1 := HBX.out.below hb1; have hs1 := hb1.size; have hst1 := HST.out.below' hb1; have BX1 := Lib.hid hbx1; have ST1 := Lib.hid hst1; obtain ⟨⟨e0, e1⟩, ho⟩ := hbx1.cells; clear ho; clear hbx1 hst1)
     | (go_at_call 38; refine (copy_named s _ zs w1 ST1.out L HL.out (by omega)).mono ?_; rintro e w2 ⟨g2, cap2, rfl, hown2, hp2, hb2⟩; have hbx2 := BX1.out.below hb2; have hs2 := hb2.size; have hg2 := hown2.lt g2 rfl; have hc2 := own_le hown2; have hlR := lt_at hbx2.r; obtain ⟨hq, hq2, ⟨x0, x1⟩, xf0, xf1⟩ := hbx2.cells; clear hq hq2; obtain ⟨⟨k0, k1⟩, ⟨l0, l1⟩, ⟨r0, r1⟩, rf0, rf1⟩ := hbx2.allocs; have ho3 := heap_alloc_new w2 (.cells #[.string s, .slice (some ⟨g2, 0, none⟩) L cap2] 27); have o0 := cell_of_row _ _ 0 _ _ _ ho3; have o1 := cell_of_row _ _ 1 _ _ _ ho3; have fo0 := frozen_of_row _ _ 0 _ _ ho3; have fo1 := frozen_of_row _ _ 1 _ _ ho3; have hneA : w2.heap.size ≠ w.heap.size + 1 + 1 := (by omega); have hneB := hneA.symm; have hneG : (Value.slice (some ⟨g2, 0, none⟩) L cap2).ownBlock ≠ some w2.heap.size := (fun e => by (have h9 : g2 = w2.heap.size := Option.some.inj e; omega)); have hneR : g2 ≠ w.heap.size + 1 + 1 := (by omega); have HP2 := Lib.hid hp2; have HO3 := Lib.hid ho3; have HRX := Lib.hid hbx2.r; have HOW2 := Lib.hid hown2; have BX2 := Lib.hid hbx2; clear hbx2 ho3 hp2)
     | (go_at_call 103; refine (made_named s k n _ x _ hs hkn hm).mono ?_; rintro e w3 ⟨rfl, hb3⟩; have hsz3 := hb3.size; simp only [World.size_alloc] at hsz3; have hbx3 := (BX2.out.below ((Below.refl _ _).alloc (Nat.le_refl _) (.cells #[.string s, .slice (some ⟨g2, 0, none⟩) L cap2] 27))).below hb3; have hoo3 := (hb3.block w2.heap.size (by simp)).trans HO3.out; have m0 := cell_of_row _ _ 0 _ _ _ hoo3; have m1 := cell_of_row _ _ 1 _ _ _ hoo3; have mf0 := frozen_of_row _ _ 0 _ _ hoo3; have mf1 := frozen_of_row _ _ 1 _ _ hoo3; obtain ⟨⟨n0, n1⟩, _, ⟨p0, p1⟩, pf0, pf1⟩ := hbx3.cells; have BX3 := Lib.hid hbx3; have HOO3 := Lib.hid hoo3; clear hbx3 hoo3))
    have hbw1 := hb.trans (hb1.mono hb.size)
    have hbw2 := hbw1.trans (hb2.mono hbw1.size)
    have hbw3 := (hbw2.alloc hbw2.size (.cells #[.string s, .slice (some ⟨g2, 0, none⟩) L cap2] 27)).trans (hb3.mono (by simp; omega))
    have q := pair_put BX3.out.r (.string s) (.slice (some ⟨g2, 0, none⟩) L cap2)
    have q0 := cell_of_row _ _ 0 _ _ _ q
    have q1 := cell_of_row _ _ 1 _ _ _ q
    clear q
    refine bodyPost_ret (v := .tuple #[.agg #[.string s, .slice (some ⟨g2, 0, none⟩) L cap2], .bool false]) (by simp [results, Tryz.results49, go_sem, q0, q1]) rfl ?_
    refine ⟨_, rfl, ?_, Fresh.slice (by omega), ?_⟩
    · have hne : (Value.slice (some ⟨g2, 0, none⟩) L cap2).ownBlock ≠ some (w.heap.size + 1 + 1) := fun e => hneR (Option.some.inj e)
      exact past_put (past_put ((HP2.out.below ((Below.refl _ _).alloc (Nat.le_refl _) _)).below hb3) _ _ hne) _ _ hne
    · have hle : w.heap.size ≤ w.heap.size + 1 + 1 := by omega
      exact (hbw3.setCell hle _).setCell hle _


end Go.Proofs.YtccdfndnjjjgfaaGreatDoor
