/-
  The draw of a desk.
-/
import Derived.Test.YtpkenccgjlhnlaaDoorDrawDeed
import Derived.Test.YtpkenccgjlhnlaaDoorDeskRun
import Derived.Test.YtpkenccgjlhnlaaDoorDeskNew
import Derived.Test.YtpkenccgjlhnlaaDoorDeskFin
namespace Go.Proofs.YtpkenccgjlhnlaaDoor
open Go.RowKit

theorem grown_refl (a : World) (r : Option Nat) : a.grownBy a r := ⟨rfl, rfl, rfl, Nat.le_refl _, fun _ _ _ => rfl⟩
theorem grown_alloc {a X : World} {r : Option Nat} (h : a.grownBy X r) (o : Obj) : a.grownBy (X.alloc o) r := grown_trans h (World.grownBy_alloc X o r)
theorem grown_drew {a X : World} {r : Option Nat} (h : a.grownBy X r) : a.grownBy X.drew r := grown_trans h ⟨rfl, rfl, rfl, Nat.le_refl _, fun _ _ _ => rfl⟩
theorem grown_ext {a X Y : World} {r : Option Nat} (h : a.grownBy X r) (k : Below X.heap.size X Y) : a.grownBy Y r := grown_trans h (grown_of_below k r)
theorem BoxB.grown {A B R : Nat} {W X : World} {N : Nat} {x : ByteArray} {v : Value} {ys : List ByteArray} (h : BoxB A B W N x v ys) (hg : W.grownBy X (some R)) (hR : R < A) : BoxB A B X N x v ys :=
  ⟨grow_row' hg h.row (by have := h.ge; omega), past_grown h.past hg (fun e => by have := h.fresh R e; omega), h.ne, h.ge, h.fresh, h.lt, h.vlt⟩
theorem deed_g {s : ByteArray} {w W : World} {R n p k : Nat} {v : Value} (h : Drawn w W R v n p k) (hp : p + k ≤ 90000) (hs : s.size ≤ 41) :
    Calls Tryd.prog 37 #[.pointer (some ⟨R, 0, none⟩), .string s] W fun e w' => ∃ K M : Int, e = .returned (.agg #[.int .i64 K, .int .i64 M]) ∧ 0 ≤ K ∧ K ≤ 11 ∧ -1 ≤ M ∧ M ≤ 100 ∧ Drawn w w' R v n p (k + 5) ∧ W.grownBy w' (some R) := by
  obtain ⟨p', hp', hr, hg⟩ := h
  refine (deed_d s W W R n p' 0 v (Drawn.start hr) (by omega) hs).mono ?_
  rintro e w' ⟨K, M, rfl, h1, h2, h3, h4, p2, hp2, hr2, hg2⟩
  exact ⟨K, M, rfl, h1, h2, h3, h4, ⟨p2, by omega, hr2, grown_trans hg hg2⟩, hg2⟩

/-- A desk that grows by deeds. -/
structure GrowSt (w W1 X : World) (R D B : Nat) (v0 : Value) (n p m : Nat) (s : ByteArray) (v : Value) (zs : List ByteArray) : Prop where
  box : BoxB W1.heap.size X.heap.size X D s v zs
  ok : deskOk s zs = true
  drawn : Drawn w X R v0 n p m
  res : X.heap[B]? = some (.cells #[.string ⟨#[]⟩, .slice none 0 0] 25 (0, 0))
  size : W1.heap.size ≤ X.heap.size
theorem GrowSt.grown {w W1 X X' : World} {R D B n p m m' : Nat} {v0 : Value} {s : ByteArray} {v : Value} {zs : List ByteArray} (h : GrowSt w W1 X R D B v0 n p m s v zs) (hg : X.grownBy X' (some R)) (hd : Drawn w X' R v0 n p m') (hR : R < W1.heap.size) (hB : B ≠ R) : GrowSt w W1 X' R D B v0 n p m' s v zs :=
  ⟨boxB_size (h.box.grown hg hR), h.ok, hd, grow_row' hg h.res hB, Nat.le_trans h.size hg.size⟩
theorem GrowSt.ext {w W1 X X' : World} {R D B n p m : Nat} {v0 : Value} {s : ByteArray} {v : Value} {zs : List ByteArray} (h : GrowSt w W1 X R D B v0 n p m s v zs) (e : Ext X X') : GrowSt w W1 X' R D B v0 n p m s v zs :=
  ⟨boxB_size (h.box.ext e), h.ok, h.drawn.below e, e.row h.res, Nat.le_trans h.size e.size⟩
theorem GrowSt.put {w W1 X : World} {R D B n p m k0 : Nat} {v0 : Value} {s x : ByteArray} {v u : Value} {zs ys : List ByteArray} (h : GrowSt w W1 X R D B v0 n p m s v zs) (h0 : Drawn w W1 R v0 n p k0) (hB : B < W1.heap.size) (hp : PastAt X u ys) (hf : Fresh W1.heap.size u) (hne : u.ownBlock ≠ some D) (hok : deskOk x ys = true) :
    GrowSt w W1 ((X.setCell ⟨D, 0, none⟩ (.string x)).setCell ⟨D, 1, none⟩ u) R D B v0 n p m x u ys :=
  ⟨box_set h.box.row hp hf hne h.box.ge, hok, (h.drawn.setCell h0 h.box.ge 0 _).setCell h0 h.box.ge 1 _, set_far2 h.res (by have := h.box.ge; omega) _ _, by simpa [World.setCell] using h.size⟩
theorem Drawn.set2 {w W W1 : World} {R n p k k0 N : Nat} {v : Value} (h : Drawn w W R v n p k) (h0 : Drawn w W1 R v n p k0) (hN : W1.heap.size ≤ N) (x y : Value) : Drawn w ((W.setCell ⟨N, 0, none⟩ x).setCell ⟨N, 1, none⟩ y) R v n p k := (h.setCell h0 hN 0 x).setCell h0 hN 1 y
theorem gs_new {w W1 X : World} {R D B n p m : Nat} {v0 : Value} {s : ByteArray} {v : Value} {zs : List ByteArray} {A A' N : Nat} {x : ByteArray} {u : Value} {ys : List ByteArray} {o : Obj} (_ : BoxB A A' (X.alloc o) N x u ys) (h : GrowSt w W1 X R D B v0 n p m s v zs) : GrowSt w W1 (X.alloc o) R D B v0 n p m s v zs := h.ext ((Ext.refl X).alloc o)
theorem gs_set {w W1 X : World} {R D B n p m k0 : Nat} {v0 : Value} {s : ByteArray} {v : Value} {zs : List ByteArray} {A A' N : Nat} {x : ByteArray} {u a b : Value} {ys : List ByteArray} (_ : BoxB A A' ((X.setCell ⟨N, 0, none⟩ a).setCell ⟨N, 1, none⟩ b) N x u ys) (h : GrowSt w W1 X R D B v0 n p m s v zs) (h0 : Drawn w W1 R v0 n p k0) (hN : W1.heap.size ≤ N) (hD : D ≠ N) (hv : v.ownBlock ≠ some N) (hB : B < W1.heap.size) : GrowSt w W1 ((X.setCell ⟨N, 0, none⟩ a).setCell ⟨N, 1, none⟩ b) R D B v0 n p m s v zs :=
  ⟨⟨set_far2 h.box.row hD _ _, past_put (past_put h.box.past _ _ hv) _ _ hv, h.box.ne, h.box.ge, h.box.fresh, by simpa [World.setCell] using h.box.lt, fun c hc => by simpa [World.setCell] using h.box.vlt c hc⟩, h.ok, h.drawn.set2 h0 hN _ _, set_far2 h.res (by omega) _ _, by simpa [World.setCell] using h.size⟩
theorem walk_g {w W : World} {R n p k : Nat} {v : Value} {N : Int} (h : Drawn w W R v n p k) (hp : p + k ≤ 90000) (h1 : 0 ≤ N) (h2 : N ≤ 1000000) :
    Calls Tryd.prog 65 #[.pointer (some ⟨R, 0, none⟩), .int .i64 N] W fun e w' => ∃ s : ByteArray, e = .returned (.string s) ∧ s.size ≤ 41 ∧ Drawn w w' R v n p (k + 60) ∧ W.grownBy w' (some R) := by
  obtain ⟨p', hp', hr, hg⟩ := h
  refine (walk_d W W R n p' 0 v N (Drawn.start hr) (by omega) h1 h2).mono ?_
  rintro e w' ⟨s, rfl, hs, p2, hp2, hr2, hg2⟩
  exact ⟨s, rfl, hs, ⟨p2, by omega, hr2, grown_trans hg hg2⟩, hg2⟩
theorem GrowSt.fin {w W1 X : World} {R D B n p m : Nat} {v0 : Value} {s : ByteArray} {v : Value} {zs : List ByteArray} (h : GrowSt w W1 X R D B v0 n p m s v zs) : FinSt w W1 X R D B v0 n p m s v zs := by
  obtain ⟨hx1, hx8, hx2⟩ := deskOk_parts h.ok
  have hs40 := ok_size hx1
  exact ⟨h.box.row, h.box.past, h.box.ne, h.box.ge, h.box.fresh, h.drawn, h.res, h.size, by omega, by omega, fun z hz => by have := ok_size (hx2 z hz); omega⟩
theorem deskNew_ok (s : ByteArray) : deskOk (deskNew s) [] = true := by
  unfold deskNew
  split
  · rename_i h
    exact deskOk_mk h (by simp) (by simp)
  · rfl
set_option maxRecDepth 100000 in
set_option maxHeartbeats 3200000 in
theorem desk_d (w W : World) (R n p k : Nat) (v0 : Value) (N : Int) (h : Drawn w W R v0 n p k) (hp : p + k ≤ 80000) (h1 : 0 ≤ N) (h2 : N ≤ 1000000) :
    Calls Tryd.prog 36 #[.pointer (some ⟨R, 0, none⟩), .int .i64 N] W fun e w' => ∃ (s : ByteArray) (v : Value) (zs : List ByteArray), e = .returned (.agg #[.string s, v]) ∧ PastAt w' v zs ∧ Fresh W.heap.size v ∧ s.size ≤ 41 ∧ zs.length ≤ 9 ∧ (∀ z ∈ zs, z.size ≤ 41) ∧ Drawn w w' R v0 n p (k + 110) := by
  have hd1 := h.alloc (.cells #[.string ⟨#[]⟩, .slice none 0 0] 25)
  obtain ⟨W1, hW1⟩ : ∃ W1, W.alloc (.cells #[.string ⟨#[]⟩, .slice none 0 0] 25) = W1 := ⟨_, rfl⟩
  rw [hW1] at hd1
  have RES1 := Lib.hid (show W1.heap[W.heap.size]? = _ from hW1 ▸ heap_alloc_new W _)
  have hlW := h.lt
  have hl1 := hd1.lt
  have hlB : W.heap.size < W1.heap.size := by rw [← hW1]; simp
  have HW1 := Lib.hid hW1
  clear hW1
  go_enter Tryd.func36, Tryd.ntmps36
  go_wp2_with fail
  rw [HW1.out]
  go_upto_region 2 with (first
    | (go_at_call 65; refine (walk_g hd1 (by omega) (by omega) (by omega)).mono ?_; rintro e w2 ⟨s0, rfl, hs0, hd2, hg2⟩)
    | (go_at_call 64; refine (specDeskNew s0 _ (by omega)).mono ?_; rintro e w3 ⟨rfl, hb3⟩; have hd3 := hd2.below hb3; have hg3 := grown_ext hg2 hb3))
  have hok0 := deskNew_ok s0
  obtain ⟨x0, hx0⟩ : ∃ x, deskNew s0 = x := ⟨_, rfl⟩
  rw [hx0] at hok0 ⊢
  clear hx0
  have hbn := box_new (x := x0) (A := W1.heap.size) (X := w3) (v := .slice none 0 0) (ys := []) (.inl ⟨rfl, rfl⟩) (Fresh.none _) hg3.size
  have hg4 : GrowSt w W1 (w3.alloc (.cells #[.string x0, .slice none 0 0] 25)) R w3.heap.size W.heap.size v0 n p (k + 60) x0 (.slice none 0 0) [] :=
    ⟨hbn, hok0, hd3.alloc _, row_alloc (grow_row' hg3 RES1.out (by omega)) _, by have := hg3.size; simp; omega⟩
  obtain ⟨w4, hw4⟩ : ∃ w4, w3.alloc (.cells #[.string x0, .slice none 0 0] 25) = w4 := ⟨_, rfl⟩
  obtain ⟨D, hD⟩ : ∃ D, w3.heap.size = D := ⟨_, rfl⟩
  rw [hw4, hD] at hg4
  rw [hw4, hD]
  have G4 := Lib.hid hg4
  have hDge : W1.heap.size ≤ D := hg4.box.ge
  clear hw4 hD hbn hg4 hd3 hg3 hb3 hd2 hg2
  go_wp2_with (first
    | (go_at_call 66; refine (pick_d G4.out.drawn (by omega) (by omega) (by omega)).mono ?_; rintro e w5 ⟨y, rfl, hy0, hy1, hd5, hg5⟩; have G5 := Lib.hid (G4.out.grown hg5 hd5 hl1 (by omega)); clear hd5 hg5))
  obtain ⟨a, rfl⟩ := Int.eq_ofNat_of_zero_le hy0
  go_loopw [7] (fun i wr => ∃ (j m : Nat) (s : ByteArray) (v : Value) (zs : List ByteArray), i = .int .i64 j ∧ m + 5 * j ≤ k + 95 ∧ Hid (GrowSt w W1 wr R D W.heap.size v0 n p m s v zs)) (fun i _ => (intOf i).toNat)
  case atStart => exact ⟨a, k + 61, _, _, _, rfl, by omega, G5.out⟩
  case round =>
    obtain ⟨j, m, s, v, zs, rfl, hjm, HG⟩ := hrel
    obtain ⟨aV, cV, hv⟩ := past_value HG.out.box.past
    obtain ⟨hx1, hx8, hx2⟩ := deskOk_parts HG.out.ok
    have hs40 := ok_size hx1
    have HZX : Hid (∀ z ∈ zs, z.size ≤ 41) := fun z hz => by have := ok_size (hx2 z hz); omega
    have HP := Lib.hid HG.out.box.past
    have hdr := HG.out.drawn
    have hlr := hdr.lt
    have hszr := HG.out.size
    have hDlt := HG.out.box.lt
    clear hx1 hx2
    by_cases hlt : 0 < j
    · subst hv
      obtain ⟨o0, o1⟩ := HG.out.box.cells
      have hvfr := HG.out.box.fresh
      have HVF := Lib.hid hvfr
      have hvlt := HG.out.box.vlt
      have HVL := Lib.hid hvlt
      clear hvfr hvlt
      have HRR := Lib.hid (fun (X : World) (hg : wr.grownBy X (some R)) => (HG.out.box.grown hg hl1).cells)
      go_wp2_with fail
      go_region_held3 (fun w' => w'.cell? ⟨D, 0, none⟩ = some (.string s) ∧ w'.cell? ⟨D, 1, none⟩ = some (.slice aV zs.length cV))
        (first
          | exact ⟨o0, o1⟩
          | exact HRR.out _ (grown_alloc (grown_refl _ _) _)
          | exact HRR.out _ (grown_drew (grown_alloc (grown_refl _ _) _))
          | exact HRR.out _ gA
          | exact HRR.out _ (grown_alloc gA _)
          | exact HRR.out _ (grown_ext gA eC)
          | exact HRR.out _ (grown_alloc (grown_ext gA eC) _)
          | exact other_cells (by first | omega | (simp <;> omega)) (HRR.out _ (grown_ext gA eC)).1 (HRR.out _ (grown_ext gA eC)).2)
        (first
          | (go_at_call 37; refine (deed_g (by first | exact hdr.drew | exact (hdr.alloc _).drew | exact hdr.drew.alloc _) (by omega) (by omega)).mono ?_; rintro e wA ⟨K, M, rfl, hK0, hK1, hM0, hM1, hdA, hgA⟩; have gA : wr.grownBy wA (some R) := grown_trans (by first | exact grown_drew (grown_refl _ _) | exact grown_drew (grown_alloc (grown_refl _ _) _) | exact grown_alloc (grown_drew (grown_refl _ _)) _) hgA; have sA := hgA.size; have GA := Lib.hid (HG.out.grown gA hdA hl1 (by omega)); have szA : wr.heap.size ≤ wA.heap.size := gA.size; (first | (have hN := g_a (cs := #[.string ⟨#[]⟩, .slice none 0 0]) (t := 25) hgA (by omega)) | (have hN := g_ad (cs := #[.string ⟨#[]⟩, .slice none 0 0]) (t := 25) hgA (by omega)) | skip); obtain ⟨x1, h1e⟩ : ∃ x1, (deskDo s zs K M).1 = x1 := ⟨_, rfl⟩; obtain ⟨y1, h2e⟩ : ∃ x1, (deskDo s zs K M).2.1 = x1 := ⟨_, rfl⟩; obtain ⟨t1, h3e⟩ : ∃ x1, (deskDo s zs K M).2.2 = x1 := ⟨_, rfl⟩; have hok1 := deskOk_do HG.out.ok K M; rw [h1e, h2e] at hok1; have HOK1 := Lib.hid hok1; have hdo : ∀ X, StrsAt X (.slice aV zs.length cV) zs → Calls Tryd.prog 10 #[.agg #[.string s, .slice aV zs.length cV], .agg #[.int .i64 K, .int .i64 M]] X (DeskOut X x1 y1 t1) := (fun X hX => by
              have h9 := specDeskDo s (.slice aV zs.length cV) zs K M X hX (by omega) (by omega) (fun z hz => by have := HZX.out z hz; omega) (by omega)
              rwa [h1e, h2e, h3e] at h9); have HDO := Lib.hid hdo; clear hdo hok1 h1e h2e h3e hdA hgA)
          | (go_at_call 10; refine (HDO.out _ (by first | exact GA.out.box.past.strs | exact ((Ext.refl wA).alloc _).strs GA.out.box.past.strs)).mono ?_; rintro e wC ⟨vC, rfl, hpC, hfC, hbC⟩; obtain ⟨aC, cC, hvC⟩ := past_value hpC; subst hvC; have gC : Fresh wA.heap.size (Value.slice aC y1.length cC) := fresh_ext (show Ext wA _ by (first | exact Ext.refl _ | exact (Ext.refl _).alloc _)) hfC; have eC : Ext wA wC := Ext.call (by first | exact Ext.refl _ | exact (Ext.refl _).alloc _) hbC; (first | (have hN := box_keep hbC; have nN := box_ne hfC) | (have hN := box_keep_drew hbC; have nN := box_ne_drew hfC) | (have nN := fresh_ne hfC hN; have hN := Ext.row hbC hN) | skip); have PC := Lib.hid hpC; have szC := eC.size; have FC : Hid (Fresh W1.heap.size (Value.slice aC y1.length cC)) := (fun b hb => Nat.le_trans (by omega) (gC b hb)); have FCN : (Value.slice aC y1.length cC).ownBlock ≠ some D := (fun h9 => by have := gC D h9; omega); have sC : W1.heap.size ≤ wC.heap.size := (by omega); have GC := Lib.hid (GA.out.ext eC); (first | (have zN := frozen_of_row _ _ 0 _ _ hN; have zN1 := frozen_of_row _ _ 1 _ _ hN; have yN := cell_of_row _ _ 0 _ _ _ hN; have yN1 := cell_of_row _ _ 1 _ _ _ hN; have HN2 := Lib.hid hN; clear hN) | skip); clear hpC hfC gC))
      all_goals
        first
          | (have hBN := box_set (x := x1) HN2.out PC.out FC.out nN (by first | omega | (simp <;> omega)))
          | (have hBN := box_new (x := x1) PC.out FC.out sC)
        (first | (have hGX := gs_new hBN GC.out) | (have hGX := gs_set hBN GC.out hd1 (by first | omega | (simp <;> omega)) (by first | omega | (simp <;> omega)) (fun h9 => by have := HVL.out _ h9; omega) (by omega)))
        obtain ⟨n0, n1⟩ := hBN.cells
        obtain ⟨p0, p1⟩ := hGX.box.cells
        have pf0 := frozen_of_row _ _ 0 _ _ hGX.box.row
        have pf1 := frozen_of_row _ _ 1 _ _ hGX.box.row
        have HBN := Lib.hid hBN
        have GX := Lib.hid hGX
        clear hBN hGX
        cases t1
        · go_wp2
          go_roundw
          case rel => exact ⟨j - 1, m + 5, s, _, zs, by congr 1; omega, by omega, GX.out⟩
          case measure => simp [intOf]; omega
        · go_wp2
          go_roundw
          case rel => exact ⟨j - 1, m + 5, x1, _, y1, by congr 1; omega, by omega, GX.out.put hd1 hlB HBN.out.past FC.out FCN HOK1.out⟩
          case measure => simp [intOf]; omega
    · subst hv
      have FS := Lib.hid HG.out.fin
      obtain ⟨hl8x⟩ : Nonempty (zs.length ≤ 8) := ⟨(deskOk_parts HG.out.ok).2.1⟩
      go_wp2_with (first
        | (go_at_call 52; refine (odd_g hdr (by omega) (by omega) (by omega)).mono ?_; rintro e we ⟨b, rfl, hde, hge⟩; have FE := Lib.hid (FS.out.grown hge hde hl1 (by omega)); obtain ⟨c0, c1, c2, c3, c4, c5, c6, c7⟩ := FE.out.facts; cases b)
        | (go_at_call 66; refine (pick_d FE.out.drawn (by omega) (by omega) (by omega)).mono ?_; rintro e wf ⟨y, rfl, hy0, hy1, hdf, hgf⟩; have FF := Lib.hid (FE.out.grown hgf hdf hl1 (by omega)); obtain ⟨f0, f1, f2, f3, f4, f5, f6, f7⟩ := FF.out.facts; have FX := Lib.hid (FF.out.putx hd1 hlB ⟨#[120]⟩ (by decide)); obtain ⟨x0, x1, x2, x3, x4, x5, x6, x7⟩ := FX.out.facts; have FA := Lib.hid (fun o => FF.out.alloc o); obtain rfl | rfl : y = 0 ∨ y = 1 := by omega)
        | (at_builtin; refine wpList_append_past rfl (.tmp 41) (.tmp 42) rfl (v := .slice aV zs.length cV) rfl (FA.out _).past (by omega) rfl (cell_of_row _ _ 0 _ _ _ (heap_alloc_new wf _)) ?_; intro v' w' hp' hb' hf'; obtain ⟨aP, cP, hvP⟩ := past_slice hp' (M := zs.length + 1) (by simp); subst hvP; have FP := Lib.hid ((FA.out _).app hd1 hlB hl8x (by decide) hp' hb' hf'); obtain ⟨g0, g1, g2, g3, g4, g5, g6, g7⟩ := FP.out.facts; obtain ⟨i0, i1, i2, i3, i4, i5, i6, i7⟩ := (FA.out _).but_facts hlB hb'))
      · obtain ⟨r0, r1, r2⟩ := FE.out.finish h rfl hlB (k := k + 110) (by omega)
        exact bodyPost_ret (v := .agg #[.string s, .slice aV zs.length cV]) (by simp [results, Tryd.results36, go_sem, r0, r1]) rfl r2
      · obtain ⟨r0, r1, r2⟩ := FX.out.finish h rfl hlB (k := k + 110) (by omega)
        exact bodyPost_ret (v := .agg #[.string ⟨#[120]⟩, .slice aV zs.length cV]) (by simp [results, Tryd.results36, go_sem, r0, r1]) rfl r2
      all_goals
        obtain ⟨r0, r1, r2⟩ := FP.out.finish h rfl hlB (k := k + 110) (by omega)
        exact bodyPost_ret (by simp [results, Tryd.results36, go_sem, r0, r1]) rfl r2

end Go.Proofs.YtpkenccgjlhnlaaDoor
