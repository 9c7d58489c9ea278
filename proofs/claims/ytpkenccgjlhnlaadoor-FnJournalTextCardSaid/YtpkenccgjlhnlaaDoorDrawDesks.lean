/-
  The draws of laws on desks.
-/
import Derived.Test.YtpkenccgjlhnlaaDoorDrawDesk
import Derived.Test.YtpkenccgjlhnlaaDoorDeeds
import Derived.Test.YtpkenccgjlhnlaaDoorDraws
namespace Go.Proofs.YtpkenccgjlhnlaaDoor
open Go.RowKit

theorem code_alloc {w : World} {v : Value} {n : Nat} (h : CodeAt w v n) (o : Obj) : CodeAt (w.alloc o) v n := by
  rcases h with h | ⟨a, cap, hv, hl, hc⟩
  · exact .inl h
  · refine .inr ⟨a, cap, hv, hl, fun j hj => ?_⟩
    obtain ⟨b, h1, h2, h3⟩ := hc j hj
    exact ⟨b, h1, h2, (((Below.refl w.heap.size w).alloc (Nat.le_refl _) _).cell (World.block_lt_of_cell? w _ h3)).trans h3⟩
theorem code_value {w : World} {v : Value} {n : Nat} (h : CodeAt w v n) : ∃ a cap, v = .slice a n cap := by
  rcases h with ⟨rfl, rfl⟩ | ⟨a, cap, rfl, _⟩
  · exact ⟨_, _, rfl⟩
  · exact ⟨_, _, rfl⟩
/-- A drawn desk. -/
structure Desk41 (w : World) (s : ByteArray) (u : Value) (zs : List ByteArray) : Prop where
  past : PastAt w u zs
  hs : s.size ≤ 41
  hl : zs.length ≤ 9
  hz : ∀ z ∈ zs, z.size ≤ 41

theorem Desk41.ext {w X : World} {s : ByteArray} {u : Value} {zs : List ByteArray} (h : Desk41 w s u zs) (e : Ext w X) : Desk41 X s u zs := ⟨e.past h.past, h.hs, h.hl, h.hz⟩


theorem own_noneD (W : World) (t : TypeId) (base : Nat) (hb : base ≤ W.heap.size) : (W.alloc (.cells #[] t)).ownsRow base t 2 (.slice (some ⟨W.heap.size, 0, none⟩) 0 0) 0 [] :=
  ⟨rfl, .inr ⟨W.heap.size, 0, #[], rfl, hb, heap_alloc_new W _, Nat.le_refl _, by decide, rfl, rfl⟩⟩
/-! ### the reader stays while other memory is written -/
theorem cell_not {X : World} {B : Nat} {cs : Array Value} {t : TypeId} {a : Addr} {b : Int} (h : X.heap[B]? = some (.cells cs t (0, 0))) (hn : ∀ (j : Nat) (b : Int), cs[j]? ≠ some (.int .u8 b)) (hc : X.cell? a = some (.int .u8 b)) : a.block ≠ B := by
  intro e
  subst e
  unfold World.cell? at hc
  rw [h] at hc
  simp only at hc
  split at hc
  · cases hc
  · exact hn _ _ hc
theorem ReaderAt.put {X : World} {R B n p : Nat} {v : Value} {cs : Array Value} {t : TypeId} (h : ReaderAt X R v n p) (hB : X.heap[B]? = some (.cells cs t (0, 0))) (hn : ∀ (j : Nat) (b : Int), cs[j]? ≠ some (.int .u8 b)) (hR : R ≠ B) (x y : Value) : ReaderAt ((X.setCell ⟨B, 0, none⟩ x).setCell ⟨B, 1, none⟩ y) R v n p := by
  have hk : ∀ b, b ≠ B → ((X.setCell ⟨B, 0, none⟩ x).setCell ⟨B, 1, none⟩ y).heap[b]? = X.heap[b]? := fun b hb => (heap_setCell_other _ ⟨B, 1, none⟩ b y hb).trans (heap_setCell_other _ ⟨B, 0, none⟩ b x hb)
  refine ⟨(hk R hR).trans h.cells, ?_, h.few, h.off⟩
  rcases h.code with hc | ⟨a, cap, hv, hl, hc⟩
  · exact .inl hc
  · refine .inr ⟨a, cap, hv, hl, fun i hi => ?_⟩
    obtain ⟨b, h1, h2, h3⟩ := hc i hi
    refine ⟨b, h1, h2, ?_⟩
    rw [← h3]
    exact World.cell?_of_block (hk _ (cell_not hB hn h3))
theorem read_drew {X : World} {R n p : Nat} {v : Value} (h : ReaderAt X R v n p) : ReaderAt X.drew R v n p := ⟨h.cells, h.code, h.few, h.off⟩
theorem not_u8_desk (s : ByteArray) (a : Option Addr) (n c : Nat) : ∀ (j : Nat) (b : Int), (#[.string s, .slice a n c] : Array Value)[j]? ≠ some (.int .u8 b)
  | 0, _ => by simp
  | 1, _ => by simp
  | j + 2, _ => by simp
theorem below2 {w X : World} {A N : Nat} (h : Below A w X) (hN : A ≤ N) (x y : Value) : Below A w ((X.setCell ⟨N, 0, none⟩ x).setCell ⟨N, 1, none⟩ y) := (h.setCell hN x).setCell hN y

set_option maxRecDepth 100000 in
set_option maxHeartbeats 1600000 in
theorem deeds_d (s : ByteArray) (w W : World) (R n p k : Nat) (v : Value) (h : Drawn w W R v n p k) (hp : p + k ≤ 80000) (hs : s.size ≤ 41) :
    Calls Tryd.prog 53 #[.pointer (some ⟨R, 0, none⟩), .string s] W fun e w' => ∃ (g cap : Nat) (ds : List (Int × Int)), e = .returned (.slice (some ⟨g, 0, none⟩) ds.length cap) ∧ w'.ownsRow W.heap.size 27 2 (.slice (some ⟨g, 0, none⟩) ds.length cap) ds.length (pairCells ds) ∧ ds.length ≤ 5 ∧ (∀ d ∈ ds, (0 ≤ d.1 ∧ d.1 ≤ 11) ∧ -1 ≤ d.2 ∧ d.2 ≤ 100) ∧ Drawn w w' R v n p (k + 31) := by
  obtain ⟨i0, hi0, hz0, hz1, hz2⟩ := info_parts deedInfo
  have hown0 := own_noneD W 27 W.heap.size (Nat.le_refl _)
  have HO := Lib.hid hown0
  have HD0 := Lib.hid (h.alloc (.cells #[] 27))
  have hlR := h.lt
  have H0 := Lib.hid h
  clear hown0 h
  go_enter Tryd.func53, Tryd.ntmps53
  go_wp2_with (first
    | (go_at_call 66; refine (pick_d HD0.out (by omega) (by omega) (by omega)).mono ?_; rintro e w5 ⟨y, rfl, hy0, hy1, hd5, hg5⟩; have OWN5 := Lib.hid (HO.out.kept hg5 (.inr (fun h9 => by have h8 : W.heap.size = R := Option.some.inj h9; omega))); have HD5 := Lib.hid hd5; have hz5 : W.heap.size ≤ w5.heap.size := Nat.le_trans (by simp) hg5.size; clear hd5 hg5))
  obtain ⟨a, rfl⟩ := Int.eq_ofNat_of_zero_le hy0
  go_loopw [5, 6] (fun o i wr => ∃ (g cap j m : Nat) (ds : List (Int × Int)), o = .slice (some ⟨g, 0, none⟩) ds.length cap ∧ i = .int .i64 j ∧ ds.length + j ≤ 5 ∧ m + 5 * j ≤ k + 26 ∧ Hid (wr.ownsRow W.heap.size 27 2 (.slice (some ⟨g, 0, none⟩) ds.length cap) ds.length (pairCells ds)) ∧ Hid (Drawn w wr R v n p m) ∧ Hid (∀ d ∈ ds, (0 ≤ d.1 ∧ d.1 ≤ 11) ∧ -1 ≤ d.2 ∧ d.2 ≤ 100) ∧ W.heap.size ≤ wr.heap.size) (fun _ i _ => (intOf i).toNat)
  case atStart => exact ⟨_, _, a, k + 1, [], rfl, rfl, by simp; omega, by omega, OWN5.out, HD5.out, by show ∀ d ∈ ([] : List (Int × Int)), _; simp, hz5⟩
  case round =>
    obtain ⟨g, cap, j, m, ds, rfl, rfl, hdj, hmj, HOWN, HD, HK, hszr⟩ := hrel
    by_cases hlt : 0 < j
    · have hgb := (HOWN.out.lt g rfl).1
      go_wp2_with (first
        | (go_at_call 37; refine (deed_g HD.out (by omega) hs).mono ?_; rintro e w3 ⟨K, M, rfl, hK0, hK1, hM0, hM1, hd3, hg3⟩; have OWN3 := Lib.hid (HOWN.out.kept hg3 (.inr (fun h9 => by have h8 : g = R := Option.some.inj h9; omega))); have HD3 := Lib.hid hd3; have hs3 : W.heap.size ≤ w3.heap.size := Nat.le_trans hszr hg3.size; clear hd3 hg3)
        | (at_builtin; refine wpList_append_lies _ rfl _ _ 41 rfl W.heap.size 27 i0 _ 2 16 Tryd.underlying41 hi0 hz0 hz1 hz2 rfl (by omega) _ ds.length (pairCells ds) rfl (OWN3.out.alloc _) ⟨w3.heap.size, 0, none⟩ 1 1 [.int .i64 K, .int .i64 M] rfl rfl (World.news_of_block (cs := #[.int .i64 K, .int .i64 M]) (t := 27) (fr := (0, 0)) (heap_alloc_new w3 _)) (by simp [Value.oneCell']) (by omega) (by unfold maxLen; omega) (by omega) (by simp; omega) (w3.heap.size + 1) (by simp) ?_; intro g4 cap4 w4 hown4 hgrow4 hat4 hlt4))
      go_roundw
      case rel =>
        have e1 : (ds ++ [(K, M)]).length = ds.length + 1 := by simp
        have e2 : pairCells (ds ++ [(K, M)]) = pairCells ds ++ [.int .i64 K, .int .i64 M] := by simp [pairCells]
        have hb4 : Below W.heap.size w3 w4 := ((Below.refl W.heap.size w3).alloc hs3 _).grown hgrow4 (by simp; omega) (fun i hi => by have h8 : g = i := Option.some.inj hi; omega)
        refine ⟨g4, cap4, j - 1, m + 5, ds ++ [(K, M)], by rw [e1], by congr 1; omega, by omega, by omega, ?_, HD3.out.belowB H0.out hb4, ?_, ?_⟩
        · show World.ownsRow _ _ _ _ _ _ _
          rw [e1, e2]
          exact hown4
        · intro d hd
          rcases List.mem_append.1 hd with h1 | h1
          · exact HK.out d h1
          · rw [List.mem_singleton.1 h1]
            exact ⟨⟨hK0, hK1⟩, hM0, hM1⟩
        · exact Nat.le_trans hs3 hb4.size
      case measure => simp [intOf]; omega
    · obtain rfl : j = 0 := by omega
      go_wp2_with fail
      go_ret
      exact ⟨g, cap, ds, rfl, HOWN.out, by omega, HK.out, HD.out.mono (by omega)⟩

theorem four_bc {X : World} {B C : Nat} {tB tC : TypeId} {b0 b1 c0 c1 : Value} (rB : X.heap[B]? = some (.cells #[b0, b1] tB (0, 0))) (rC : X.heap[C]? = some (.cells #[c0, c1] tC (0, 0))) (hne : B ≠ C) (x y k m : Value) :
    ((((X.setCell ⟨B, 0, none⟩ x).setCell ⟨B, 1, none⟩ y).setCell ⟨C, 0, none⟩ k).setCell ⟨C, 1, none⟩ m).heap[B]? = some (.cells #[x, y] tB (0, 0)) ∧ ((((X.setCell ⟨B, 0, none⟩ x).setCell ⟨B, 1, none⟩ y).setCell ⟨C, 0, none⟩ k).setCell ⟨C, 1, none⟩ m).heap[C]? = some (.cells #[k, m] tC (0, 0)) :=
  ⟨set_far2 (two_put rB x y) hne k m, two_put (set_far2 rC (Ne.symm hne) x y) k m⟩
theorem two_c {X : World} {B C : Nat} {tB tC : TypeId} {x y c0 c1 : Value} (rB : X.heap[B]? = some (.cells #[x, y] tB (0, 0))) (rC : X.heap[C]? = some (.cells #[c0, c1] tC (0, 0))) (hne : B ≠ C) (k m : Value) :
    ((X.setCell ⟨C, 0, none⟩ k).setCell ⟨C, 1, none⟩ m).heap[B]? = some (.cells #[x, y] tB (0, 0)) ∧ ((X.setCell ⟨C, 0, none⟩ k).setCell ⟨C, 1, none⟩ m).heap[C]? = some (.cells #[k, m] tC (0, 0)) :=
  ⟨set_far2 rB hne k m, two_put rC k m⟩
theorem cells4 {Z : World} {B C : Nat} {tB tC : TypeId} {x y k m : Value} (q : Z.heap[B]? = some (.cells #[x, y] tB (0, 0)) ∧ Z.heap[C]? = some (.cells #[k, m] tC (0, 0))) : Z.cell? ⟨B, 0, none⟩ = some x ∧ Z.cell? ⟨B, 1, none⟩ = some y ∧ Z.cell? ⟨C, 0, none⟩ = some k ∧ Z.cell? ⟨C, 1, none⟩ = some m :=
  ⟨cell_of_row _ _ 0 _ _ _ q.1, cell_of_row _ _ 1 _ _ _ q.1, cell_of_row _ _ 0 _ _ _ q.2, cell_of_row _ _ 1 _ _ _ q.2⟩
theorem past_put2 {w : World} {v : Value} {ys : List ByteArray} (h : PastAt w v ys) {N : Nat} (hne : v.ownBlock ≠ some N) (x y : Value) : PastAt ((w.setCell ⟨N, 0, none⟩ x).setCell ⟨N, 1, none⟩ y) v ys := past_put (past_put h _ _ hne) _ _ hne

def boxesDD (w : World) : World := (w.alloc (.cells #[.string ⟨#[]⟩, .slice none 0 0] 25)).alloc (.cells #[.int .i64 0, .int .i64 0] 27)
theorem boxesDD_in (w : World) : Ext w (boxesDD w) ∧ (boxesDD w).heap.size = w.heap.size + 2 ∧ (boxesDD w).heap[w.heap.size]? = some (.cells #[.string ⟨#[]⟩, .slice none 0 0] 25 (0, 0)) ∧ (boxesDD w).heap[w.heap.size + 1]? = some (.cells #[.int .i64 0, .int .i64 0] 27 (0, 0)) := by
  unfold boxesDD
  exact ⟨((Ext.refl w).alloc _).alloc _, by simp, heap_alloc2_old _ _ _, heap_alloc2_new _ _ _⟩
set_option maxRecDepth 100000 in
set_option maxHeartbeats 1600000 in
theorem drawDeskDo (v : Value) (n : Nat) (w : World) (h : CodeAt w v n) :
    Calls Tryd.prog 8 #[v] w fun e w' => ∃ (s : ByteArray) (u : Value) (zs : List ByteArray) (K M : Int), e = .returned (.tuple #[.agg #[.string s, u], .agg #[.int .i64 K, .int .i64 M]]) ∧ Desk41 w' s u zs ∧ ((0 ≤ K ∧ K ≤ 11) ∧ -1 ≤ M ∧ M ≤ 100) ∧ Below w.heap.size w w' := by
  obtain ⟨hbW, hsW', hzB, hzC⟩ := boxesDD_in w
  have hsW : w.heap.size + 1 < (boxesDD w).heap.size := by omega
  clear hsW'
  have hc := code_alloc (code_alloc h (.cells #[.string ⟨#[]⟩, .slice none 0 0] 25)) (.cells #[.int .i64 0, .int .i64 0] 27)
  obtain ⟨W, hW⟩ : ∃ W, boxesDD w = W := ⟨_, rfl⟩
  rw [hW] at hbW hsW hzB hzC
  unfold boxesDD at hW
  rw [hW] at hc
  have HW := Lib.hid hW
  have HZB := Lib.hid hzB
  have HZC := Lib.hid hzC
  clear hW hzB hzC h
  go_enter Tryd.func8, Tryd.ntmps8
  go_wp2_with fail
  rw [HW.out]
  go_upto_region 3 with (first
    | (go_at_call 35; refine (open_any v n _ hc).mono ?_; rintro e w1 ⟨rfl, ⟨v', n', hr⟩, hb1⟩)
    | (go_at_call 36; refine (desk_d w1 w1 _ n' 0 0 v' _ (Drawn.start hr) (by omega) (by omega) (by omega)).mono ?_; rintro e w3 ⟨s, u, zs, rfl, hp3, hf3, hs3, hl3, hz3, hd3⟩; have hb3 := hd3.below_base hb1 (Nat.le_refl _); obtain ⟨aU, cU, hvU⟩ := past_slice hp3 (M := zs.length) rfl; subst hvU; have HZ3 := Lib.hid hz3; have HP3 := Lib.hid hp3; have HF3 := Lib.hid hf3; have HD3 := Lib.hid hd3; clear hz3 hp3 hf3 hd3))
  have hsb := hb1.size
  have hltR := (Drawn.start hr).lt
  have hs13 : w1.heap.size ≤ w3.heap.size := by
    obtain ⟨_, _, _, hg⟩ := HD3.out
    exact hg.size
  obtain ⟨p3, hp3, hr3, hg3⟩ := HD3.out.alloc (.cells #[.string s, .slice aU zs.length cU] 25)
  have hRow3 := heap_alloc_new w3 (.cells #[.string s, .slice aU zs.length cU] 25)
  have hx3 : Ext w3 (w3.alloc (.cells #[.string s, .slice aU zs.length cU] 25)) := (Ext.refl w3).alloc _
  obtain ⟨w4, hw4⟩ : ∃ w4, w3.alloc (.cells #[.string s, .slice aU zs.length cU] 25) = w4 := ⟨_, rfl⟩
  obtain ⟨D, hD⟩ : ∃ D, w3.heap.size = D := ⟨_, rfl⟩
  rw [hw4] at hr3 hg3 hRow3 hx3 ⊢
  rw [hD] at hRow3 hs13 ⊢
  clear hw4
  have rB : w4.heap[w.heap.size]? = _ := (hx3.row ((hb3.block w.heap.size (by omega)).trans HZB.out))
  have rC : w4.heap[w.heap.size + 1]? = _ := (hx3.row ((hb3.block (w.heap.size + 1) (by omega)).trans HZC.out))
  have hb4 : Below w.heap.size w w4 := (hbW.trans (hb3.mono (by omega))).trans (Below.mono hx3 (by have := hb3.size; omega))
  have o0 := cell_of_row _ _ 0 _ _ _ hRow3
  have o1 := cell_of_row _ _ 1 _ _ _ hRow3
  have RD := Lib.hid hRow3
  have RB := Lib.hid rB
  have RC := Lib.hid rC
  have R3 := Lib.hid hr3
  have HP4 := Lib.hid (hx3.past HP3.out)
  have HNB : Hid ((Value.slice aU zs.length cU).ownBlock ≠ some w.heap.size) := fun e => by have := HF3.out _ e; omega
  have HNC : Hid ((Value.slice aU zs.length cU).ownBlock ≠ some (w.heap.size + 1)) := fun e => by have := HF3.out _ e; omega
  have HNR : Hid ((Value.slice aU zs.length cU).ownBlock ≠ some W.heap.size) := fun e => by
    have h1 := HF3.out _ e
    have h2 := (Drawn.start hr).lt
    omega
  have R3p : Hid (ReaderAt ((w4.setCell ⟨w.heap.size, 0, none⟩ (.string s)).setCell ⟨w.heap.size, 1, none⟩ (.slice aU zs.length cU)) W.heap.size v' n' p3) := hr3.put rB (not_u8_desk _ _ _ _) (by omega) _ _
  clear hr3 rB rC hRow3 hg3
  have fB0 := frozen_of_row _ _ 0 _ _ RB.out
  have fB1 := frozen_of_row _ _ 1 _ _ RB.out
  have fC0 := frozen_of_row _ _ 0 _ _ RC.out
  have fC1 := frozen_of_row _ _ 1 _ _ RC.out
  have gB0 := cell_of_row _ _ 0 _ _ _ RB.out
  have gB1 := cell_of_row _ _ 1 _ _ _ RB.out
  have gC0 := cell_of_row _ _ 0 _ _ _ RC.out
  have gC1 := cell_of_row _ _ 1 _ _ _ RC.out
  go_region_held3 (fun w' => w'.cell? ⟨D, 0, none⟩ = some (.string s) ∧ w'.cell? ⟨D, 1, none⟩ = some (.slice aU zs.length cU))
    (first
      | exact ⟨o0, o1⟩
      | exact ⟨x0, x1⟩
      | exact other_cells (by omega) x0 x1
      | exact other_cells (by omega) o0 o1
      | exact other_cells (by omega) (other_cells (by omega) x0 x1).1 (other_cells (by omega) x0 x1).2
      | exact other_cells (by omega) (other_cells (by omega) o0 o1).1 (other_cells (by omega) o0 o1).2)
    (first
      | (go_at_call 37; refine (deed_d s _ _ W.heap.size n' p3 0 v' (Drawn.start (by first | exact R3.out | exact read_drew R3.out | exact R3p.out | exact read_drew R3p.out)) (by omega) hs3).mono ?_; rintro e wx ⟨K, M, rfl, hK0, hK1, hM0, hM1, ⟨px, hpx, hrx, hgx⟩⟩; have rDx : wx.heap[D]? = _ := grow_row' hgx (by first | exact RD.out | exact set_far2 RD.out (by omega) _ _) (by omega); have rBx : wx.heap[w.heap.size]? = _ := grow_row' hgx (by first | exact RB.out | exact two_put RB.out _ _) (by omega); have rCx : wx.heap[w.heap.size + 1]? = _ := grow_row' hgx (by first | exact RC.out | exact set_far2 RC.out (by omega) _ _) (by omega); have HPx := Lib.hid (past_grown (by first | exact HP4.out | exact past_put (past_put HP4.out _ _ HNB.out) _ _ HNB.out) hgx HNR.out); have hbx : Below w.heap.size w wx := (by first | exact (hb4.drew).grown hgx hb4.size (fun k e => by cases e; omega) | exact ((below2 hb4 (Nat.le_refl _) _ _).drew).grown hgx (below2 hb4 (Nat.le_refl _) _ _).size (fun k e => by cases e; omega) | exact hb4.grown hgx hb4.size (fun k e => by cases e; omega) | exact (below2 hb4 (Nat.le_refl _) _ _).grown hgx (below2 hb4 (Nat.le_refl _) _ _).size (fun k e => by cases e; omega)); have x0 := cell_of_row _ _ 0 _ _ _ rDx; have x1 := cell_of_row _ _ 1 _ _ _ rDx; have yB0 := frozen_of_row _ _ 0 _ _ rBx; have yB1 := frozen_of_row _ _ 1 _ _ rBx; have yC0 := frozen_of_row _ _ 0 _ _ rCx; have yC1 := frozen_of_row _ _ 1 _ _ rCx; have zB0 := cell_of_row _ _ 0 _ _ _ rBx; have zB1 := cell_of_row _ _ 1 _ _ _ rBx; have zC0 := cell_of_row _ _ 0 _ _ _ rCx; have zC1 := cell_of_row _ _ 1 _ _ _ rCx; have RBx := Lib.hid rBx; have RCx := Lib.hid rCx; clear rBx rCx rDx hrx hgx))
  all_goals
    go_wp2
    first
      | (have q := four_bc RBx.out RCx.out (by omega) (.string s) (.slice aU zs.length cU) (.int .i64 K) (.int .i64 M); obtain ⟨e0, e1, e2, e3⟩ := cells4 q; refine bodyPost_ret (v := .tuple #[.agg #[.string s, .slice aU zs.length cU], .agg #[.int .i64 K, .int .i64 M]]) (by simp [results, Tryd.results8, go_sem, e0, e1, e2, e3]) rfl ⟨s, _, zs, K, M, rfl, ⟨past_put2 (past_put2 HPx.out HNB.out _ _) HNC.out _ _, hs3, hl3, HZ3.out⟩, ⟨⟨hK0, hK1⟩, hM0, hM1⟩, below2 (below2 hbx (Nat.le_refl _) _ _) (by omega) _ _⟩)
      | (have q := four_bc RCx.out RBx.out (by omega) (.int .i64 K) (.int .i64 M) (.string s) (.slice aU zs.length cU); have q := And.symm q; obtain ⟨e0, e1, e2, e3⟩ := cells4 q; refine bodyPost_ret (v := .tuple #[.agg #[.string s, .slice aU zs.length cU], .agg #[.int .i64 K, .int .i64 M]]) (by simp [results, Tryd.results8, go_sem, e0, e1, e2, e3]) rfl ⟨s, _, zs, K, M, rfl, ⟨past_put2 (past_put2 HPx.out HNC.out _ _) HNB.out _ _, hs3, hl3, HZ3.out⟩, ⟨⟨hK0, hK1⟩, hM0, hM1⟩, below2 (below2 hbx (by omega) _ _) (Nat.le_refl _) _ _⟩)
      | (have q := two_c RBx.out RCx.out (by omega) (.int .i64 K) (.int .i64 M); obtain ⟨e0, e1, e2, e3⟩ := cells4 q; refine bodyPost_ret (v := .tuple #[.agg #[.string s, .slice aU zs.length cU], .agg #[.int .i64 K, .int .i64 M]]) (by simp [results, Tryd.results8, go_sem, e0, e1, e2, e3]) rfl ⟨s, _, zs, K, M, rfl, ⟨past_put2 HPx.out HNC.out _ _, hs3, hl3, HZ3.out⟩, ⟨⟨hK0, hK1⟩, hM0, hM1⟩, below2 hbx (by omega) _ _⟩)

end Go.Proofs.YtpkenccgjlhnlaaDoor
