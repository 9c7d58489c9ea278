/-
  FnDeskRun: for every code: the drawn desk behind the drawn deeds is a desk, and deeds in two parts, one after the other, lead to the same. No condition beyond what the given statement itself bears.
-/
import Derived.Test.YtpkenccgjlhnlaaDoorExt
import Derived.Test.YtpkenccgjlhnlaaDoorDeeds
import Derived.Test.YtpkenccgjlhnlaaDoorDrawDesks
import Derived.Test.YtpkenccgjlhnlaaDoorRunPure
import Derived.Test.YtpkenccgjlhnlaaDoorDeskDone
import Derived.Test.YtpkenccgjlhnlaaDoorMarks
import Derived.Test.YtpkenccgjlhnlaaDoorStrs
import Derived.BigQuiet
import Derived.Deep.QuietTactic
import Derived.Test.YtpkenccgjlhnlaaDoorBase
import Derived.Test.YtpkenccgjlhnlaaDoorPure
import Derived.Test.YtpkenccgjlhnlaaDoorTabs
import Derived.Test.YtpkenccgjlhnlaaDoorRows
import Derived.WalkKit
import Derived.ProofKit
import Derived.OpenShut
import Derived.Carry
import Derived.WalkSmall
import Derived.MakeChecks
import Derived.Deep.DeepHandedRow
import Derived.Lib.LaidTab
import Derived.Test.YtpkenccgjlhnlaaDoorDraw
import Derived.ChangeSlices
import Derived.Deep.DeepCutAuto
import Derived.Test.YtpkenccgjlhnlaaDoorDeskRun
import Derived.Test.YtpkenccgjlhnlaaDoorCards
import Derived.Test.YtpkenccgjlhnlaaDoorTie

namespace Go.Proofs.YtpkenccgjlhnlaaDoor
open Go.RowKit

/-- Deeds in a row that is known whole. -/
def RowAt (w : World) (v : Value) (ds : List (Int × Int)) : Prop :=
  (v = .slice none 0 0 ∧ ds = []) ∨ ∃ (g cap : Nat) (cur : Array Value), v = .slice (some ⟨g, 0, none⟩) ds.length cap ∧ ds.length ≤ cap ∧ w.heap[g]? = some (.cells cur 27 (0, 0)) ∧ cap * 2 ≤ cur.size ∧ ∀ (j : Nat) (d : Int × Int), ds[j]? = some d → cur[j * 2]? = some (.int .i64 d.1) ∧ cur[j * 2 + 1]? = some (.int .i64 d.2)
theorem RowAt.deeds {w : World} {v : Value} {ds : List (Int × Int)} (h : RowAt w v ds) : DeedsAt w v ds := by
  rcases h with h | ⟨g, cap, cur, rfl, hl, hg, _, hc⟩
  · exact .inl h
  · refine .inr ⟨⟨g, 0, none⟩, cap, rfl, hl, fun j d hd => ?_⟩
    rw [add_plain, Nat.zero_add]
    exact ⟨(cell_of_row _ _ _ _ _ _ hg).trans (hc j d hd).1, (cell_of_row _ _ _ _ _ _ hg).trans (hc j d hd).2⟩
theorem RowAt.ext {w X : World} {v : Value} {ds : List (Int × Int)} (h : RowAt w v ds) (e : Ext w X) : RowAt X v ds := by
  rcases h with h | ⟨g, cap, cur, rfl, hl, hg, hz, hc⟩
  · exact .inl h
  · exact .inr ⟨g, cap, cur, rfl, hl, e.row hg, hz, hc⟩
theorem RowAt.lt {w : World} {v : Value} {ds : List (Int × Int)} (h : RowAt w v ds) {b : Nat} (hb : v.ownBlock = some b) : b < w.heap.size := by
  rcases h with ⟨rfl, _⟩ | ⟨g, _, _, rfl, _, hg, _⟩
  · cases hb
  · obtain rfl : g = b := Option.some.inj hb
    exact lt_at hg
theorem RowAt.belowB {w w' : World} {v : Value} {ds : List (Int × Int)} {B : Nat} (h : RowAt w v ds) (hv : ∀ b, v.ownBlock = some b → b < B) (hb : Below B w w') : RowAt w' v ds := by
  rcases h with h | ⟨g, cap, cur, rfl, hl, hg, hz, hc⟩
  · exact .inl h
  · exact .inr ⟨g, cap, cur, rfl, hl, (hb.block _ (hv g rfl)).trans hg, hz, hc⟩
theorem row_but {w w' : World} {g n cap : Nat} {u : Value} {ds : List (Int × Int)} (h : RowAt w (.slice (some ⟨g, 0, none⟩) n cap) ds) (k : But u w w') (hne : u.ownBlock ≠ some g) : RowAt w' (.slice (some ⟨g, 0, none⟩) n cap) ds := by
  rcases h with ⟨h, _⟩ | ⟨g', cap', cur, he, hl, hg, hz, hc⟩
  · cases h
  · simp only [Value.slice.injEq, Option.some.injEq, Addr.mk.injEq, and_true] at he
    obtain ⟨rfl, rfl, rfl⟩ := he
    exact .inr ⟨g, cap, cur, rfl, hl, (k.block g (lt_at hg) hne).trans hg, hz, hc⟩
theorem row_own {w : World} {base n : Nat} {v : Value} {ds : List (Int × Int)} (h : w.ownsRow base 27 2 v n (pairCells ds)) (hn : ds.length = n) : RowAt w v ds := by
  rcases h.2 with ⟨rfl, h0⟩ | ⟨g, cap, cur, rfl, _, hg, hl, _, hs, ht⟩
  · exact .inl ⟨rfl, List.length_eq_zero_iff.1 (by omega)⟩
  · refine .inr ⟨g, cap, cur, by rw [hn], by omega, hg, by omega, fun j d hd => ?_⟩
    have hj := (List.getElem?_eq_some_iff.1 hd).1
    have hp := pairCells_get ds j d hd
    have e : ∀ i, i < n * 2 → cur[i]? = (pairCells ds)[i]? := fun i hi => by
      have := congrArg (·[i]?) ht
      rw [List.getElem?_take, if_pos hi, Array.getElem?_toList] at this
      exact this
    exact ⟨(e _ (by omega)).trans hp.1, (e _ (by omega)).trans hp.2⟩
theorem row_set {w : World} {g n cap j : Nat} {ds : List (Int × Int)} (h : RowAt w (.slice (some ⟨g, 0, none⟩) n cap) ds) (hj : j < n) (a b : Int) : RowAt ((w.setCell ⟨g, j * 2, none⟩ (.int .i64 a)).setCell ⟨g, j * 2 + 1, none⟩ (.int .i64 b)) (.slice (some ⟨g, 0, none⟩) n cap) (ds.set j (a, b)) := by
  rcases h with ⟨h, _⟩ | ⟨g', cap', cur, he, hl, hg, hz, hc⟩
  · cases h
  · simp only [Value.slice.injEq, Option.some.injEq, Addr.mk.injEq, and_true] at he
    obtain ⟨rfl, rfl, rfl⟩ := he
    refine .inr ⟨g, cap, (cur.set! (j * 2) (.int .i64 a)).set! (j * 2 + 1) (.int .i64 b), by rw [List.length_set], by rw [List.length_set]; exact hl, ?_, by simpa using hz, fun i y hi => ?_⟩
    · simp [World.setCell, Array.getElem?_modify, hg]
    · rw [List.getElem?_set] at hi
      simp only [Array.set!_eq_setIfInBounds, Array.getElem?_setIfInBounds, Array.size_setIfInBounds]
      by_cases hij : j = i
      · subst hij
        rw [if_pos rfl] at hi
        have hi2 : (a, b) = y := by
          rw [if_pos hj] at hi
          exact Option.some.inj hi
        subst hi2
        rw [if_neg (by omega), if_pos rfl, if_pos (by omega), if_pos rfl, if_pos (by omega)]
        exact ⟨rfl, rfl⟩
      · rw [if_neg hij] at hi
        rw [if_neg (by omega), if_neg (by omega), if_neg (by omega), if_neg (by omega)]
        exact hc i y hi
theorem row_cells {w : World} {g n cap j : Nat} {ds : List (Int × Int)} (h : RowAt w (.slice (some ⟨g, 0, none⟩) n cap) ds) {d : Int × Int} (hd : ds[j]? = some d) : w.cell? ⟨g, j * 2, none⟩ = some (.int .i64 d.1) ∧ w.cell? ⟨g, j * 2 + 1, none⟩ = some (.int .i64 d.2) ∧ w.frozen? ⟨g, j * 2, none⟩ = false ∧ w.frozen? ⟨g, j * 2 + 1, none⟩ = false := by
  rcases h with ⟨h, _⟩ | ⟨g', cap', cur, he, hl, hg, hz, hc⟩
  · cases h
  · simp only [Value.slice.injEq, Option.some.injEq, Addr.mk.injEq, and_true] at he
    obtain ⟨rfl, _, _⟩ := he
    exact ⟨(cell_of_row _ _ _ _ _ _ hg).trans (hc j d hd).1, (cell_of_row _ _ _ _ _ _ hg).trans (hc j d hd).2, frozen_of_row _ _ _ _ _ hg, frozen_of_row _ _ _ _ _ hg⟩
/-- The marks of deeds. -/
def marksD (k : Int) (n : Nat) : List (Int × Int) := (List.range n).map fun (i : Nat) => (k + 2 * (i : Int), k + 2 * (i : Int) + 1)
theorem marksD_length (k : Int) (n : Nat) : (marksD k n).length = n := by simp [marksD]
theorem marksD_at {k : Int} {n i : Nat} (h : i < n) : (marksD k n)[i]? = some (k + 2 * (i : Int), k + 2 * (i : Int) + 1) := by simp [marksD, h]
theorem marksD_succ (k : Int) (n : Nat) : marksD k (n + 1) = marksD k n ++ [(k + 2 * (n : Int), k + 2 * (n : Int) + 1)] := by unfold marksD; rw [List.range_succ, List.map_append]; rfl
theorem setD_take {ds : List (Int × Int)} {k : Int} {j : Nat} (h : ds.take j = marksD k j) (hj : j < ds.length) : (ds.set j (k + 2 * (j : Int), k + 2 * (j : Int) + 1)).take (j + 1) = marksD k (j + 1) := by
  rw [marksD_succ, List.take_add_one, List.take_set_of_le (Nat.le_refl _), h, List.getElem?_set, if_pos rfl, if_pos hj]
  rfl





end Go.Proofs.YtpkenccgjlhnlaaDoor

namespace Go.Proofs.YtpkenccgjlhnlaaDoor
open Go.RowKit

/-- Forty-one deeds that are nothing. -/
def zeroDeeds : Array Value := Array.replicate 82 (.int .i64 0)
theorem make41 : ∀ w : World, (Instr.makeSlice 41 (.int .i64 41) (.int .i64 41)).run Tryd.prog w = .ok (.slice (some ⟨w.heap.size, 0, none⟩) 41 41) (w.alloc (.cells zeroDeeds 27)) := fun _ => by kernel_rfl
theorem zero_row {w : World} {g : Nat} (h : w.heap[g]? = some (.cells zeroDeeds 27 (0, 0))) : RowAt w (.slice (some ⟨g, 0, none⟩) 41 41) (List.replicate 41 (0, 0)) := by
  refine .inr ⟨g, 41, zeroDeeds, by simp, by simp, h, by simp [zeroDeeds], fun j d hd => ?_⟩
  obtain ⟨hj, rfl⟩ := List.getElem?_eq_some_iff.1 hd
  rw [List.length_replicate] at hj
  unfold zeroDeeds
  rw [List.getElem_replicate, Array.getElem?_replicate, Array.getElem?_replicate, if_pos (by omega), if_pos (by omega)]
  exact ⟨rfl, rfl⟩
theorem row_put2 {w : World} {v : Value} {ds : List (Int × Int)} (h : RowAt w v ds) {N : Nat} (hne : v.ownBlock ≠ some N) (x y : Value) : RowAt ((w.setCell ⟨N, 0, none⟩ x).setCell ⟨N, 1, none⟩ y) v ds := by
  rcases h with h | ⟨g, cap, cur, rfl, hl, hg, hz, hc⟩
  · exact .inl h
  · have hgn : g ≠ N := fun e => hne (by rw [e]; rfl)
    exact .inr ⟨g, cap, cur, rfl, hl, set_far2 hg hgn x y, hz, hc⟩
theorem new_set2 (W : World) (N : Nat) (x y : Value) (o : Obj) : (((W.setCell ⟨N, 0, none⟩ x).setCell ⟨N, 1, none⟩ y).alloc o).heap[W.heap.size]? = some o := by
  have := heap_alloc_new' ((W.setCell ⟨N, 0, none⟩ x).setCell ⟨N, 1, none⟩ y) o
  rwa [show ((W.setCell ⟨N, 0, none⟩ x).setCell ⟨N, 1, none⟩ y).heap.size = W.heap.size by simp [World.setCell]] at this
/-- Drawn deeds. -/
structure Deeds41 (w : World) (x : Value) (ds : List (Int × Int)) : Prop where
  row : RowAt w x ds
  hl : ds.length ≤ 41
  hd : ∀ d ∈ ds, (0 ≤ d.1 ∧ d.1 ≤ 11) ∧ -1 ≤ d.2 ∧ d.2 ≤ 100
set_option maxRecDepth 100000 in
set_option maxHeartbeats 1600000 in
theorem drawDeskRun (v : Value) (n : Nat) (w : World) (h : CodeAt w v n) :
    Calls Tryd.prog 21 #[v] w fun e w' => ∃ (s : ByteArray) (u : Value) (zs : List ByteArray) (g cap : Nat) (ds : List (Int × Int)), e = .returned (.tuple #[.agg #[.string s, u], .slice (some ⟨g, 0, none⟩) ds.length cap]) ∧ Desk41 w' s u zs ∧ Deeds41 w' (.slice (some ⟨g, 0, none⟩) ds.length cap) ds ∧ Below w.heap.size w w' := by
  have hzB := heap_alloc_new w (.cells #[.string ⟨#[]⟩, .slice none 0 0] 25)
  have hc := code_alloc h (.cells #[.string ⟨#[]⟩, .slice none 0 0] 25)
  obtain ⟨W, hW⟩ : ∃ W, w.alloc (.cells #[.string ⟨#[]⟩, .slice none 0 0] 25) = W := ⟨_, rfl⟩
  have hbW : Below w.heap.size w W := hW ▸ (Below.refl _ _).alloc (Nat.le_refl _) _
  have hsW : w.heap.size < W.heap.size := by rw [← hW]; simp
  rw [hW] at hzB hc
  have HW := Lib.hid hW
  have HZB := Lib.hid hzB
  clear hW hzB h
  go_enter Tryd.func21, Tryd.ntmps21
  go_wp2_with fail
  rw [HW.out]
  go_upto_region 3 with (first
    | (go_at_call 35; refine (open_any v n _ hc).mono ?_; rintro e w1 ⟨rfl, ⟨v', n', hr⟩, hb1⟩)
    | (go_at_call 36; refine (desk_d w1 w1 _ n' 0 0 v' _ (Drawn.start hr) (by omega) (by omega) (by omega)).mono ?_; rintro e w3 ⟨s, u, zs, rfl, hp3, hf3, hs3, hl3, hz3, hd3⟩; have hb3 := hd3.below_base hb1 (Nat.le_refl _); obtain ⟨aU, cU, hvU⟩ := past_slice hp3 (M := zs.length) rfl; subst hvU; have HZ3 := Lib.hid hz3; have HP3 := Lib.hid hp3; have HF3 := Lib.hid hf3; have HD3 := Lib.hid hd3; clear hz3 hp3 hf3 hd3))
  have hsb := hb1.size
  have hltR := (Drawn.start hr).lt
  have hs13 : w1.heap.size ≤ w3.heap.size := by
    obtain ⟨_, _, _, hg⟩ := HD3.out
    exact hg.size
  have hd3a := HD3.out.alloc (.cells #[.string s, .slice aU zs.length cU] 25)
  have hRow3 := heap_alloc_new w3 (.cells #[.string s, .slice aU zs.length cU] 25)
  have hx3 : Ext w3 (w3.alloc (.cells #[.string s, .slice aU zs.length cU] 25)) := (Ext.refl w3).alloc _
  obtain ⟨w4, hw4⟩ : ∃ w4, w3.alloc (.cells #[.string s, .slice aU zs.length cU] 25) = w4 := ⟨_, rfl⟩
  obtain ⟨D, hD⟩ : ∃ D, w3.heap.size = D := ⟨_, rfl⟩
  have hlD : w3.heap.size < w4.heap.size := by rw [← hw4]; simp
  rw [hw4] at hd3a hRow3 hx3 ⊢
  rw [hD] at hRow3 hs13 hlD ⊢
  clear hw4
  have HD4 := Lib.hid hd3a
  have RB4 := Lib.hid (hx3.row ((hb3.block w.heap.size (by omega)).trans HZB.out))
  have hb4 : Below w.heap.size w w4 := (hbW.trans (hb3.mono (by omega))).trans (Below.mono hx3 (by have := hb3.size; omega))
  have RD4 := Lib.hid hRow3
  have HP4 := Lib.hid (hx3.past HP3.out)
  have HNB : Hid ((Value.slice aU zs.length cU).ownBlock ≠ some w.heap.size) := fun e => by have := HF3.out _ e; omega
  have HNR : Hid ((Value.slice aU zs.length cU).ownBlock ≠ some W.heap.size) := fun e => by
    have h1 := HF3.out _ e
    omega
  clear hd3a hRow3
  go_upto_region 4 with (first
    | (go_at_call 52; refine (odd_g HD4.out (by omega) (by omega) (by omega)).mono ?_; rintro e w5 ⟨b, rfl, ⟨p5, hp5, hr5, _⟩, hg5⟩; have RD5 := Lib.hid (grow_row' hg5 RD4.out (by omega)); have RB5 := Lib.hid (grow_row' hg5 RB4.out (by omega)); have HP5 := Lib.hid (past_grown HP4.out hg5 HNR.out); have hb5 := hb4.grown hg5 hb4.size (fun k e => by cases e; omega); have HR5 := Lib.hid hr5; have hs5 := hg5.size; clear hr5 hg5; have o0 := cell_of_row _ _ 0 _ _ _ RD5.out; have o1 := cell_of_row _ _ 1 _ _ _ RD5.out; have fB0 := frozen_of_row _ _ 0 _ _ RB5.out; have fB1 := frozen_of_row _ _ 1 _ _ RB5.out; have gB0 := cell_of_row _ _ 0 _ _ _ RB5.out; have gB1 := cell_of_row _ _ 1 _ _ _ RB5.out; cases b))
  · have R5p : Hid (ReaderAt ((w5.setCell ⟨w.heap.size, 0, none⟩ (.string s)).setCell ⟨w.heap.size, 1, none⟩ (.slice aU zs.length cU)) W.heap.size v' n' p5) := HR5.out.put RB5.out (not_u8_desk _ _ _ _) (by omega) _ _
    go_region_held3 (fun w' => w'.cell? ⟨D, 0, none⟩ = some (.string s) ∧ w'.cell? ⟨D, 1, none⟩ = some (.slice aU zs.length cU))
      (first
        | exact ⟨o0, o1⟩
        | exact ⟨x0, x1⟩
        | exact other_cells (by omega) x0 x1
        | exact other_cells (by omega) o0 o1)
      (first
        | (go_at_call 53; refine (deeds_d s _ _ W.heap.size n' p5 0 v' (Drawn.start (by first | exact HR5.out | exact read_drew HR5.out | exact R5p.out | exact read_drew R5p.out)) (by omega) hs3).mono ?_; rintro e wx ⟨gX, cX, ds, rfl, hown, hdl, hdd, ⟨px, hpx, hrx, hgx⟩⟩; have rDx : wx.heap[D]? = _ := grow_row' hgx (by first | exact RD5.out | exact set_far2 RD5.out (by omega) _ _) (by omega); have rBx : wx.heap[w.heap.size]? = _ := grow_row' hgx (by first | exact RB5.out | exact two_put RB5.out _ _) (by omega); have HPx := Lib.hid (past_grown (by first | exact HP5.out | exact past_put (past_put HP5.out _ _ HNB.out) _ _ HNB.out) hgx HNR.out); have hbx : Below w.heap.size w wx := (by first | exact (hb5.drew).grown hgx hb5.size (fun k e => by cases e; omega) | exact ((below2 hb5 (Nat.le_refl _) _ _).drew).grown hgx (below2 hb5 (Nat.le_refl _) _ _).size (fun k e => by cases e; omega)); have x0 := cell_of_row _ _ 0 _ _ _ rDx; have x1 := cell_of_row _ _ 1 _ _ _ rDx; have yB0 := frozen_of_row _ _ 0 _ _ rBx; have yB1 := frozen_of_row _ _ 1 _ _ rBx; have zB0 := cell_of_row _ _ 0 _ _ _ rBx; have zB1 := cell_of_row _ _ 1 _ _ _ rBx; have RBx := Lib.hid rBx; have HKX := Lib.hid hdd; have HRX := Lib.hid (row_own hown rfl); have hgX : w.heap.size < gX := Nat.lt_of_lt_of_le (by first | omega | (simp; omega)) (hown.lt gX rfl).1; clear rBx rDx hrx hgx hdd hown))
    all_goals
      go_wp2
      have HNX : Hid ((Value.slice (some ⟨gX, 0, none⟩) ds.length cX).ownBlock ≠ some w.heap.size) := fun e => by have h8 : gX = w.heap.size := Option.some.inj e; omega
      first
        | (obtain ⟨e0, e1⟩ := two_cells (two_put RBx.out (.string s) (.slice aU zs.length cU)); refine bodyPost_ret (v := .tuple #[.agg #[.string s, .slice aU zs.length cU], .slice (some ⟨gX, 0, none⟩) ds.length cX]) (by simp [results, Tryd.results21, go_sem, e0, e1]) rfl ⟨s, _, zs, _, _, ds, rfl, ⟨past_put2 HPx.out HNB.out _ _, hs3, hl3, HZ3.out⟩, ⟨row_put2 HRX.out HNX.out _ _, by omega, HKX.out⟩, below2 hbx (Nat.le_refl _) _ _⟩)
        | (obtain ⟨e0, e1⟩ := two_cells RBx.out; refine bodyPost_ret (v := .tuple #[.agg #[.string s, .slice aU zs.length cU], .slice (some ⟨gX, 0, none⟩) ds.length cX]) (by simp [results, Tryd.results21, go_sem, e0, e1]) rfl ⟨s, _, zs, _, _, ds, rfl, ⟨HPx.out, hs3, hl3, HZ3.out⟩, ⟨HRX.out, by omega, HKX.out⟩, hbx⟩)
  · have hmk := make41
    have rA := row_alloc RB5.out (.cells zeroDeeds 27)
    have aB0 := frozen_of_row _ _ 0 _ _ rA
    have aB1 := frozen_of_row _ _ 1 _ _ rA
    have bB0 := cell_of_row _ _ 0 _ _ _ rA
    have bB1 := cell_of_row _ _ 1 _ _ _ rA
    clear rA
    go_region_held3 (fun w' => w'.cell? ⟨D, 0, none⟩ = some (.string s) ∧ w'.cell? ⟨D, 1, none⟩ = some (.slice aU zs.length cU))
      (first
        | exact ⟨o0, o1⟩
        | exact two_cells (row_alloc RD5.out _)
        | exact other_cells (by omega) o0 o1
        | exact other_cells (by omega) (two_cells (row_alloc RD5.out _)).1 (two_cells (row_alloc RD5.out _)).2
        | exact two_cells (row_alloc (set_far2 RD5.out (by omega) _ _) _))
      (fail)
    all_goals
      go_wp2
      have HN5 : Hid ((Value.slice (some ⟨w5.heap.size, 0, none⟩) 41 41).ownBlock ≠ some w.heap.size) := fun e => by have h8 : w5.heap.size = w.heap.size := Option.some.inj e; have := lt_at RB5.out; omega
      first
        | (obtain ⟨e0, e1⟩ := two_cells (two_put (row_alloc RB5.out (.cells zeroDeeds 27)) (.string s) (.slice aU zs.length cU)); refine bodyPost_ret (v := .tuple #[.agg #[.string s, .slice aU zs.length cU], .slice (some ⟨w5.heap.size, 0, none⟩) 41 41]) (by simp [results, Tryd.results21, go_sem, e0, e1]) rfl ⟨s, _, zs, _, _, List.replicate 41 (0, 0), rfl, ⟨past_put2 (((Ext.refl w5).alloc _).past HP5.out) HNB.out _ _, hs3, hl3, HZ3.out⟩, ⟨row_put2 (zero_row (heap_alloc_new w5 _)) HN5.out _ _, by simp, fun d hd => by rw [(List.mem_replicate.1 hd).2]; exact ⟨⟨by decide, by decide⟩, by decide, by decide⟩⟩, (below2 (hb5.alloc hb5.size _) (Nat.le_refl _) _ _).drew⟩)
        | (obtain ⟨e0, e1⟩ := two_cells (row_alloc (two_put RB5.out (.string s) (.slice aU zs.length cU)) (.cells zeroDeeds 27)); refine bodyPost_ret (v := .tuple #[.agg #[.string s, .slice aU zs.length cU], .slice (some ⟨w5.heap.size, 0, none⟩) 41 41]) (by simp [results, Tryd.results21, go_sem, e0, e1]) rfl ⟨s, _, zs, _, _, List.replicate 41 (0, 0), rfl, ⟨((Ext.refl _).alloc _).past (past_put2 HP5.out HNB.out _ _), hs3, hl3, HZ3.out⟩, ⟨zero_row (new_set2 w5 _ _ _ _), by simp, fun d hd => by rw [(List.mem_replicate.1 hd).2]; exact ⟨⟨by decide, by decide⟩, by decide, by decide⟩⟩, ((below2 hb5 (Nat.le_refl _) _ _).alloc (below2 hb5 (Nat.le_refl _) _ _).size _).drew⟩)

end Go.Proofs.YtpkenccgjlhnlaaDoor

namespace Go.Proofs.YtpkenccgjlhnlaaDoor
open Go.RowKit

theorem run_all_ok {s : ByteArray} {zs : List ByteArray} (h : deskOk s zs = true) (ds : List (Int × Int)) : deskOk (runTo s zs ds).1.1 (runTo s zs ds).1.2 = true := by
  unfold runTo
  have : ∀ (ds : List (Int × Int)) (st : (ByteArray × List ByteArray) × Nat), deskOk st.1.1 st.1.2 = true → deskOk (ds.foldl runStep st).1.1 (ds.foldl runStep st).1.2 = true := by
    intro ds
    induction ds with
    | nil => intro st h; exact h
    | cons d ds ih => intro st h; exact ih _ (runStep_ok h d).1
  exact this ds _ h
theorem run_count (ds : List (Int × Int)) : ∀ (st : ByteArray × List ByteArray) (m : Nat), ds.foldl runStep (st, m) = ((ds.foldl runStep (st, 0)).1, m + (ds.foldl runStep (st, 0)).2) := by
  induction ds with
  | nil => intro st m; rfl
  | cons d ds ih =>
    intro st m
    rw [List.foldl_cons, List.foldl_cons]
    by_cases h : (deskDo st.1 st.2 d.1 d.2).2.2 = true
    · have e : ∀ m, runStep (st, m) d = (((deskDo st.1 st.2 d.1 d.2).1, (deskDo st.1 st.2 d.1 d.2).2.1), m + 1) := fun m => by unfold runStep; rw [if_pos h]
      rw [e, e, ih, ih _ (0 + 1)]
      exact Prod.ext rfl (by show _ = _; simp; omega)
    · have e : ∀ m, runStep (st, m) d = (st, m) := fun m => by unfold runStep; rw [if_neg h]
      rw [e, e, ih]
theorem runTo_append (s : ByteArray) (zs : List ByteArray) (a b : List (Int × Int)) : runTo s zs (a ++ b) = ((runTo (runTo s zs a).1.1 (runTo s zs a).1.2 b).1, (runTo s zs a).2 + (runTo (runTo s zs a).1.1 (runTo s zs a).1.2 b).2) := by
  have h := run_count b (runTo s zs a).1 (runTo s zs a).2
  unfold runTo at *
  rw [List.foldl_append]
  exact h
/-- In two parts it is the same. -/
theorem run_parts {s : ByteArray} {zs : List ByteArray} {ds : List (Int × Int)} (hok : deskOk s zs = true) (hl : ds.length ≤ 40) (k : Nat) {x1 : ByteArray} {y1 : List ByteArray} {p : Nat} (h1 : deskRun s zs (ds.take k) = ((x1, y1), p)) {x2 : ByteArray} {y2 : List ByteArray} {q : Nat} (h2 : deskRun x1 y1 (ds.drop k) = ((x2, y2), q)) : deskRun s zs ds = ((x2, y2), p + q) := by
  have e1 : deskRun s zs (ds.take k) = runTo s zs (ds.take k) := by
    unfold deskRun
    rw [if_pos ⟨hok, by rw [List.length_take]; omega⟩]
  have hk := run_all_ok hok (ds.take k)
  rw [← e1, h1] at hk
  have e2 : deskRun x1 y1 (ds.drop k) = runTo x1 y1 (ds.drop k) := by
    unfold deskRun
    rw [if_pos ⟨hk, by rw [List.length_drop]; omega⟩]
  have e : deskRun s zs ds = runTo s zs ds := by
    unfold deskRun
    rw [if_pos ⟨hok, hl⟩]
  have h := runTo_append s zs (ds.take k) (ds.drop k)
  rw [List.take_append_drop, ← e1, h1] at h
  rw [e, h, ← e2, h2]

theorem row_take {w : World} {g n cap : Nat} {ds : List (Int × Int)} (h : RowAt w (.slice (some ⟨g, 0, none⟩) n cap) ds) (hn : ds.length = n) {k : Nat} (hk : k ≤ n) : DeedsAt w (.slice (some ⟨g, 0, none⟩) k cap) (ds.take k) := by
  rcases h with ⟨h, _⟩ | ⟨g', cap', cur, he, hl, hg, hz, hc⟩
  · cases h
  · cases he
    have e : (ds.take k).length = k := by rw [List.length_take]; omega
    refine .inr ⟨⟨g, 0, none⟩, cap, by rw [e], by omega, fun j d hd => ?_⟩
    rw [List.getElem?_take] at hd
    split at hd
    · have := hc j d hd
      rw [add_plain, Nat.zero_add]
      exact ⟨(cell_of_row _ _ _ _ _ _ hg).trans this.1, (cell_of_row _ _ _ _ _ _ hg).trans this.2⟩
    · cases hd
theorem row_drop {w : World} {g n cap m c : Nat} {ds : List (Int × Int)} (h : RowAt w (.slice (some ⟨g, 0, none⟩) n cap) ds) (hn : ds.length = n) {k : Nat} (hk : k ≤ n) (hm : n - k = m) (hc' : m ≤ c) : DeedsAt w (.slice (some ⟨g, k * 2, none⟩) m c) (ds.drop k) := by
  rcases h with ⟨h, _⟩ | ⟨g', cap', cur, he, hl, hg, hz, hc⟩
  · cases h
  · cases he
    have e : (ds.drop k).length = m := by rw [List.length_drop]; omega
    refine .inr ⟨⟨g, k * 2, none⟩, c, by rw [e], by omega, fun j d hd => ?_⟩
    rw [List.getElem?_drop] at hd
    have := hc (k + j) d hd
    have e1 : k * 2 + j * 2 = (k + j) * 2 := by omega
    have e2 : k * 2 + j * 2 + 1 = (k + j) * 2 + 1 := by omega
    rw [add_plain]
    exact ⟨by rw [e1]; exact (cell_of_row _ _ _ _ _ _ hg).trans this.1, by show w.cell? ⟨g, k * 2 + j * 2 + 1, none⟩ = _; rw [e2]; exact (cell_of_row _ _ _ _ _ _ hg).trans this.2⟩
end Go.Proofs.YtpkenccgjlhnlaaDoor

namespace Go.Proofs.YtpkenccgjlhnlaaDoor
open Go.RowKit

theorem strs_cell {w : World} {v : Value} {zs : List ByteArray} {a : Option Addr} {c : Nat} (h : StrsAt w v zs) (hv : v = .slice a zs.length c) {j : Nat} (hj : j < zs.length) : ∃ b z, a = some b ∧ zs[j]? = some z ∧ w.cell? (b.add j) = some (.string z) := by
  rcases h with ⟨rfl, rfl⟩ | ⟨b, cap, rfl, hl, hc⟩
  · simp at hj
  · cases hv
    exact ⟨b, zs[j], rfl, List.getElem?_eq_getElem hj, hc j _ (List.getElem?_eq_getElem hj)⟩
theorem take_same {ys zs : List ByteArray} {j : Nat} {y : ByteArray} (h : ys.take j = zs.take j) (hy : ys[j]? = some y) (hz : zs[j]? = some y) : ys.take (j + 1) = zs.take (j + 1) := by
  rw [List.take_add_one, List.take_add_one, h, hy, hz]
set_option maxHeartbeats 800000 in
theorem sameTexts_any (v u : Value) (ys zs : List ByteArray) (w : World) (hv : StrsAt w v ys) (hu : StrsAt w u zs) (hm : zs.length ≤ 1048577) :
    Calls Tryd.prog 27 #[v, u] w fun e w' => e = .returned (.bool (decide (ys = zs))) ∧ Below w.heap.size w w' := by
  obtain ⟨a, c, rfl⟩ := strs_value hv
  obtain ⟨b, d, rfl⟩ := strs_value hu
  have HV := Lib.hid hv
  have HU := Lib.hid hu
  clear hv hu
  by_cases hlen : ys.length = zs.length
  · obtain ⟨n, hN⟩ : ∃ n, zs.length = n := ⟨_, rfl⟩
    have HY := Lib.hid (hlen.trans hN)
    have HZ := Lib.hid hN
    rw [hN] at hlen
    rw [hlen, hN]
    rw [hN] at hm
    clear hlen hN
    go_enter Tryd.func27, Tryd.ntmps27
    go_wp2
    go_loopw [5] (fun i wr => ∃ j : Nat, j ≤ n ∧ i = .int .i64 j ∧ Hid (ys.take j = zs.take j) ∧ Below w.heap.size w wr) (fun i _ => n - (intOf i).toNat)
    case atStart => exact ⟨0, Nat.zero_le _, rfl, rfl, Below.refl _ _⟩
    case round =>
      obtain ⟨j, hj, rfl, HT, hb⟩ := hrel
      by_cases hlt : j < n
      · have hk3 : (0 : Int) ≤ (j : Int) := by omega
        have hk4 : (j : Int) < (n : Int) := by omega
        obtain ⟨a1, y, rfl, hy, c1⟩ := strs_cell (HV.out.below' hb) (by rw [HY.out]) (by rw [HY.out]; exact hlt)
        obtain ⟨b1, z, rfl, hz, c2⟩ := strs_cell (HU.out.below' hb) (by rw [HZ.out]) (by rw [HZ.out]; exact hlt)
        have HYJ := Lib.hid hy
        have HZJ := Lib.hid hz
        clear hy hz
        cases hyz : decide (y = z)
        · have he := (eq_bytes y z).trans hyz
          have HYZ := Lib.hid (of_decide_eq_false hyz)
          clear hyz
          go_wp2_with fail
          go_quiet (fail)
          go_wp2
          go_ret
          refine ⟨?_, below_drewN hb _⟩
          have hne : ys ≠ zs := fun e => HYZ.out (by have h1 := HYJ.out; rw [e, HZJ.out] at h1; exact (Option.some.inj h1).symm)
          simp [hne]
        · have he := (eq_bytes y z).trans hyz
          have HYZ := Lib.hid (of_decide_eq_true hyz)
          clear hyz
          go_wp2_with fail
          go_quiet (fail)
          go_wp2
          go_roundw
          case rel => exact ⟨j + 1, by omega, by go_num, take_same HT.out HYJ.out (HYZ.out ▸ HZJ.out), below_drewN hb _⟩
          case measure => simp [intOf]; omega
      · obtain rfl : j = n := by omega
        go_wp2_with fail
        go_ret
        refine ⟨?_, hb⟩
        have h1 := HT.out
        rw [List.take_of_length_le (by rw [HY.out]; exact Nat.le_refl _), List.take_of_length_le (by rw [HZ.out]; exact Nat.le_refl _)] at h1
        simp [h1]
  · have hne : ys ≠ zs := fun e => hlen (by rw [e])
    have hlen2 : (ys.length : Int) ≠ zs.length := by omega
    go_enter Tryd.func27, Tryd.ntmps27
    go_wp2
    go_ret
    exact ⟨by simp [hne], Below.refl _ _⟩
set_option maxHeartbeats 800000 in
theorem sameDesk_any (s x : ByteArray) (v u : Value) (ys zs : List ByteArray) (w : World) (hv : StrsAt w v ys) (hu : StrsAt w u zs) (hm : zs.length ≤ 1048577) :
    Calls Tryd.prog 11 #[.agg #[.string s, v], .agg #[.string x, u]] w fun e w' => e = .returned (.bool (decide (s = x) && decide (ys = zs))) ∧ Below w.heap.size w w' := by
  obtain ⟨a, c, rfl⟩ := strs_value hv
  obtain ⟨b, d, rfl⟩ := strs_value hu
  obtain ⟨n, hN⟩ : ∃ n, zs.length = n := ⟨_, rfl⟩
  obtain ⟨m, hM⟩ : ∃ m, ys.length = m := ⟨_, rfl⟩
  have hb2 : ∀ o o', Below w.heap.size w ((w.alloc o).alloc o') := fun o o' => ((Below.refl _ _).alloc (Nat.le_refl _) o).alloc (by simp) o'
  have HC : Hid (∀ o o', Calls Tryd.prog 27 #[.slice a m c, .slice b n d] ((w.alloc o).alloc o') fun e w' => e = .returned (.bool (decide (ys = zs))) ∧ Below w.heap.size w w') := fun o o' =>
    (sameTexts_any _ _ ys zs _ ((hM ▸ hv : StrsAt w (.slice a m c) ys).below' (hb2 o o')) ((hN ▸ hu : StrsAt w (.slice b n d) zs).below' (hb2 o o')) hm).mono (by rintro e w' ⟨rfl, hb⟩; exact ⟨rfl, (hb2 o o').trans (hb.mono (by simp; omega))⟩)
  rw [hM, hN]
  obtain ⟨t, ht⟩ : ∃ t, decide (ys = zs) = t := ⟨_, rfl⟩
  rw [ht] at HC ⊢
  clear hv hu hm hN hM ht
  go_enter Tryd.func11, Tryd.ntmps11
  cases hsx : decide (s = x)
  · have he := (eq_bytes s x).trans hsx
    go_wp2
    go_ret
    exact ⟨by simp, hb2 _ _⟩
  · have he := (eq_bytes s x).trans hsx
    go_wp2_with (first | (go_at_call 27; refine (HC.out _ _).mono ?_; rintro e w1 ⟨rfl, hb1⟩))
    go_ret
    exact ⟨by simp, hb1⟩
set_option maxHeartbeats 800000 in
theorem noDesk_any (s : ByteArray) (v : Value) (ys : List ByteArray) (w : World) (hv : StrsAt w v ys) :
    Calls Tryd.prog 25 #[.agg #[.string s, v]] w fun e w' => e = .returned (.bool (decide (s = ⟨#[]⟩) && decide (ys = []))) ∧ Below w.heap.size w w' := by
  obtain ⟨a, c, rfl⟩ := strs_value hv
  obtain ⟨m, hM⟩ : ∃ m, ys.length = m := ⟨_, rfl⟩
  have hb2 : ∀ o, Below w.heap.size w (w.alloc o) := fun o => (Below.refl _ _).alloc (Nat.le_refl _) o
  have HC : Hid (∀ o, Calls Tryd.prog 11 #[.agg #[.string s, .slice a m c], .agg #[.string ⟨#[]⟩, .slice none 0 0]] (w.alloc o) fun e w' => e = .returned (.bool (decide (s = ⟨#[]⟩) && decide (ys = []))) ∧ Below w.heap.size w w') := fun o =>
    (sameDesk_any s ⟨#[]⟩ _ _ ys [] _ ((hM ▸ hv : StrsAt w (.slice a m c) ys).below' (hb2 o)) (.inl ⟨rfl, rfl⟩) (by simp)).mono (by rintro e w' ⟨rfl, hb⟩; exact ⟨rfl, (hb2 o).trans (hb.mono (by simp))⟩)
  rw [hM]
  obtain ⟨t, ht⟩ : ∃ t, (decide (s = ⟨#[]⟩) && decide (ys = [])) = t := ⟨_, rfl⟩
  rw [ht] at HC ⊢
  clear hv hM ht
  go_enter Tryd.func25, Tryd.ntmps25
  go_wp2_with (first | (go_at_call 11; refine (HC.out _).mono ?_; rintro e w1 ⟨rfl, hb1⟩))
  go_ret
  exact ⟨rfl, hb1⟩
end Go.Proofs.YtpkenccgjlhnlaaDoor

namespace Go.Proofs.YtpkenccgjlhnlaaDoor
open Go.RowKit

set_option maxHeartbeats 800000 in
theorem word_yes (w : World) : Calls Tryd.prog 43 #[.string ⟨#[70, 76, 82]⟩] w fun e w' => e = .returned (.bool true) ∧ w = w' := by
  go_enter Tryd.func43, Tryd.ntmps43
  go_wp2
  refine wp_loop_rounds 4 ?_
  rw [rounds_succ]
  go_wp2
  rw [rounds_succ]
  go_wp2
  rw [rounds_succ]
  go_wp2
  rw [rounds_succ]
  go_wp2
  go_ret
  exact ⟨rfl, rfl⟩

set_option maxHeartbeats 800000 in
theorem word_no (w : World) : Calls Tryd.prog 43 #[.string ⟨#[88]⟩] w fun e w' => e = .returned (.bool false) ∧ w = w' := by
  go_enter Tryd.func43, Tryd.ntmps43
  go_wp2
  refine wp_loop_rounds 1 ?_
  rw [rounds_succ]
  go_wp2
  go_ret
  exact ⟨rfl, rfl⟩

set_option maxHeartbeats 800000 in
theorem alive_yes (w : World) : Calls Tryd.prog 13 #[] w fun e w' => e = .returned (.bool true) ∧ w = w' := by
  go_enter Tryd.func13, Tryd.ntmps13
  go_wp2_with (go_at_call 43; first
    | (have hq := st1; refine (word_no _).mono ?_; rintro e w' ⟨rfl, rfl⟩)
    | (refine (word_yes _).mono ?_; rintro e w' ⟨rfl, rfl⟩; have st1 := True.intro))
  go_ret
  exact ⟨rfl, rfl⟩

end Go.Proofs.YtpkenccgjlhnlaaDoor

namespace Go.Proofs.YtpkenccgjlhnlaaDoor
open Go.ChangeShapes Go.WideShapes Go.ChangeAt Go.RowKit Go.WideMaps Go.WideElems
open Go.ChangeMaps (open_string shut_string)

section
variable {H : Type} {enc : TypeId × Value → H} {P : Program}

theorem trodAll_stays (hl : laidOutB P = true) {W W' : World} {sp' : Nat → Bool} : ∀ {ts : List TypeId} {vs : List Value} {ds : List (DataW H)} {ps : List MemPlace},
    (∀ t ∈ ts, P.readableRec t = true ∧ t < P.types.size) → DataW.TrodAll enc P W 0 (fun _ => true) true ts vs ds ps → (∀ p ∈ ps, W.sameAt W' p) → (∀ p ∈ ps, sp' p.block = true) → DataW.TrodAll enc P W' 0 sp' true ts vs ds ps
  | [], _, _, _, _, h, _, _ => by
    obtain ⟨rfl, rfl, rfl⟩ := trodAll_nil h
    exact trodAll_mk0
  | t :: ts, _, _, _, hr, h, hsame, hs => by
    obtain ⟨v, vs', d, ds', p, q, rfl, rfl, rfl, h1, h2⟩ := trodAll_cons h
    exact trodAll_cons_mk (WideElems.Trod_stays hl (hr t (by simp)).1 (hr t (by simp)).2 h1 (fun x hx => hsame x (by simp [hx])) (fun x hx => hs x (by simp [hx])))
      (trodAll_stays hl (fun u hu => hr u (by simp [hu])) h2 (fun x hx => hsame x (by simp [hx])) (fun x hx => hs x (by simp [hx])))

theorem trodVars_stays (hl : laidOutB P = true) {W W' : World} {sp' : Nat → Bool} (hb : Below W.heap.size W W') : ∀ {ns : List String} {ds : List (DataW H)} {ps : List MemPlace},
    (∀ n ∈ ns, ∀ g t, P.globalNamed n = some g → (P.globals[g]?).map (·.type) = some t → P.readableRec t = true ∧ t < P.types.size) → DataW.TrodVars enc P W (fun _ => true) ns ds ps → (∀ p ∈ ps, W.sameAt W' p) → (∀ p ∈ ps, sp' p.block = true) →
    DataW.TrodVars enc P W' sp' ns ds ps
  | [], ds, _, _, h, _, _ => by
    cases ds with
    | nil => exact h
    | cons _ _ => exact h.elim
  | n :: ns, [], _, _, h, _, _ => h.elim
  | n :: ns, d :: ds, _, hr, h, hsame, hs => by
    obtain ⟨g, t, cs, fuel, p, q, h1, h2, h3, h4, h5, rfl⟩ := h
    have hg : g < W.heap.size := by
      have h3' := h3
      unfold World.var? at h3'
      rw [h1, Option.bind_some] at h3'
      rcases Nat.lt_or_ge g W.heap.size with hlt | hge
      · exact hlt
      · rw [Array.getElem?_eq_none hge] at h3'
        cases h3'
    obtain ⟨hr1, hr2⟩ := hr n (by simp) g t h1 h2
    have h4' := DataW.trod_stays (sp' := sp') (kids_book hl hr1) (book_sized hr1) (fun h => by cases h) ⟨hr2, book_self t⟩ h4 (fun x hx => hsame x (by simp [hx])) (fun x hx => hs x (by simp [hx]))
    exact ⟨g, t, cs, fuel, p, q, h1, h2, var?_below hb h1 hg h3, h4', trodVars_stays hl hb (fun m hm => hr m (by simp [hm])) h5 (fun x hx => hsame x (by simp [hx])) (fun x hx => hs x (by simp [hx])), rfl⟩

section
variable {H : Type} {enc : TypeId × Value → H} {P : Program} {W : World} {sp : Nat → Bool}
theorem trodVars_len0 {gs : List (DataW H)} {q : List MemPlace} (h : DataW.TrodVars enc P W sp [] gs q) : gs = [] := (trodVars_none h).1
theorem trodVars_len1 {n0 : String} {gs : List (DataW H)} {q : List MemPlace} (h : DataW.TrodVars enc P W sp [n0] gs q) : ∃ g0, gs = [g0] := by
  cases gs with
  | nil => exact h.elim
  | cons g0 gs =>
    obtain ⟨_, _, _, _, _, _, _, _, _, _, h', _⟩ := h
    exact ⟨g0, by rw [trodVars_len0 h']⟩
theorem trodVars_len2 {n0 n1 : String} {gs : List (DataW H)} {q : List MemPlace} (h : DataW.TrodVars enc P W sp [n0, n1] gs q) : ∃ g0 g1, gs = [g0, g1] := by
  cases gs with
  | nil => exact h.elim
  | cons g0 gs =>
    obtain ⟨_, _, _, _, _, _, _, _, _, _, h', _⟩ := h
    obtain ⟨g1, rfl⟩ := trodVars_len1 h'
    exact ⟨g0, g1, rfl⟩
theorem trodVars_len3 {n0 n1 n2 : String} {gs : List (DataW H)} {q : List MemPlace} (h : DataW.TrodVars enc P W sp [n0, n1, n2] gs q) : ∃ g0 g1 g2, gs = [g0, g1, g2] := by
  cases gs with
  | nil => exact h.elim
  | cons g0 gs =>
    obtain ⟨_, _, _, _, _, _, _, _, _, _, h', _⟩ := h
    obtain ⟨g1, g2, rfl⟩ := trodVars_len2 h'
    exact ⟨g0, g1, g2, rfl⟩
theorem trodVars_len4 {n0 n1 n2 n3 : String} {gs : List (DataW H)} {q : List MemPlace} (h : DataW.TrodVars enc P W sp [n0, n1, n2, n3] gs q) : ∃ g0 g1 g2 g3, gs = [g0, g1, g2, g3] := by
  cases gs with
  | nil => exact h.elim
  | cons g0 gs =>
    obtain ⟨_, _, _, _, _, _, _, _, _, _, h', _⟩ := h
    obtain ⟨g1, g2, g3, rfl⟩ := trodVars_len3 h'
    exact ⟨g0, g1, g2, g3, rfl⟩
end

/-- What a law's specification says: the call returns true, and all reads as before. -/
structure Plain (s : ChangeSpec) (ds gs : List (DataW H)) : Prop where
  res : (s.fn H (ds ++ gs)).results = [.lit (.bool true)]
  args : (s.fn H (ds ++ gs)).args = ds
  vars : (s.fn H (ds ++ gs)).vars = gs

def rowsOk (P : Program) (ts : List TypeId) : Bool := ts.all fun t => P.readableRec t && decide (t < P.types.size)
def varsOk (P : Program) (ns : List String) : Bool := ns.all fun n => ((P.globalNamed n).bind (P.globals[·]?)).all fun gl => P.readableRec gl.type && decide (gl.type < P.types.size)

theorem law_post {f : Func} {s : ChangeSpec} {W W' : World} {args : Array Value} {ds gs : List (DataW H)} {before : List MemPlace} (hl : laidOutB P = true) (ht : rowsOk P f.params.toList = true) (hv : varsOk P s.vars = true)
    {tb : TypeId} (hb1 : f.resultTypes = #[tb]) (hb2 : P.underlying tb = some .bool)
    (hW : DataW.Whole enc P f.params.toList s.vars false W args.toList ds gs before) (hs : Plain s ds gs) (hb : Below W.heap.size W W') :
    s.post enc P f false true false false W args (.bool true) W' := by
  have hlt : ∀ p ∈ before, p.block < W.heap.size := fun p hp => hW.lt p hp
  have hold : ∀ p ∈ before, (fun b => decide (b < W.heap.size)) p.block = true := fun p hp => by simpa using hlt p hp
  have hW' := hW
  obtain ⟨pa, pv, hA, hV, rfl, hz, hn⟩ := hW
  have hsame : ∀ p ∈ pa ++ pv, W.sameAt W' p := fun p hp => hb.same (hlt p hp)
  have htr : ∀ t ∈ f.params.toList, P.readableRec t = true ∧ t < P.types.size := fun t h => by
    have := List.all_eq_true.1 ht t h
    simpa using this
  have hvr : ∀ n ∈ s.vars, ∀ g t, P.globalNamed n = some g → (P.globals[g]?).map (·.type) = some t → P.readableRec t = true ∧ t < P.types.size := fun n h g t h1 h2 => by
    have := List.all_eq_true.1 hv n h
    rw [h1] at this
    cases hg : P.globals[g]? with
    | none => rw [hg] at h2; cases h2
    | some gl =>
      rw [hg] at h2
      obtain rfl : gl.type = t := Option.some.inj h2
      simpa [hg] using this
  have hargs : ∀ sp : Nat → Bool, (∀ p ∈ pa ++ pv, sp p.block = true) → DataW.TrodAll enc P W' 0 sp true f.params.toList args.toList (s.fn H (ds ++ gs)).args pa := fun sp hsp => by
    rw [hs.args]
    exact trodAll_stays hl htr hA (fun x hx => hsame x (by simp [hx])) (fun x hx => hsp x (by simp [hx]))
  have hvars : ∀ sp : Nat → Bool, (∀ p ∈ pa ++ pv, sp p.block = true) → DataW.TrodVars enc P W' sp s.vars (s.fn H (ds ++ gs)).vars pv := fun sp hsp => by
    rw [hs.vars]
    exact trodVars_stays hl hb hvr hV (fun x hx => hsame x (by simp [hx])) (fun x hx => hsp x (by simp [hx]))
  have hres : ∀ (b : Nat) (sp : Nat → Bool) (hd : Bool), DataW.TrodAll enc P W' b sp hd f.resultTypes.toList ((Value.bool true).resultList f.resultTypes.size) (s.fn H (ds ++ gs)).results [] := fun b sp hd => by
    rw [hs.res, hb1]
    exact trodAll_cons_mk (shut_bool hb2 _) trodAll_mk0
  refine ⟨ds, gs, pa ++ pv, [], pa, pv, hW', hres _ _ _, hargs _ hold, hvars _ hold, World.keptBut_mono (fun p hp => ⟨hp, ?_⟩) (hb.frame (· ∈ pa ++ pv)), fun h => by cases h⟩
  rw [List.mem_append] at hp
  exact Or.inr hp

/-- Out of the list of variables with what they hold: one of them. -/
theorem laid_one {W : World} {n : String} {d : DataW Unit} : ∀ {laid : List (String × DataW Unit)} {ps : List MemPlace}, DataW.LaidVars P W laid ps → (n, d) ∈ laid →
    ∃ g t cs fuel p, P.globalNamed n = some g ∧ (P.globals[g]?).map (·.type) = some t ∧ W.var? P n = some cs ∧ DataW.trod (fun _ => ()) P W 0 (fun _ => true) false fuel t cs.toList = some (d, p)
  | [], _, _, hm => by cases hm
  | (n', d') :: r, _, h, hm => by
    obtain ⟨g, t, cs, fuel, p, q, h1, h2, h3, h4, h5, _⟩ := h
    rcases List.mem_cons.1 hm with e | hm
    · cases e
      exact ⟨g, t, cs, fuel, p, h1, h2, h3, h4⟩
    · exact laid_one h5 hm

/-- An array of strings, cell for cell. -/
theorem cells_of_strs {w : World} {base : Nat} {sp : Nat → Bool} {held : Bool} {fuel : Nat} {t e : TypeId} {n : Nat} {cs : List Value} {zs : List (List UInt8)} {p : List MemPlace}
    (ht : P.underlying t = some (.array n e)) (he : P.underlying e = some .string) (hce : P.cellsOf e = 1)
    (h : DataW.trod enc P w base sp held fuel t cs = some (.agg (zs.map fun z => .lit (.string z)), p)) : ∀ i, i < n → cs[i]? = some (.string (Tw.str (zs.getD i []))) := by
  obtain ⟨xs, m, _, hx, _, hxl, hel⟩ := DataW.trod_array ht h
  simp only [Prod.mk.injEq, DataW.agg.injEq] at hx
  intro i hi
  have h1 := hel i hi
  rw [hce, Nat.mul_one] at h1
  have hx1 : xs[i]? = some (xs[i]'(by omega)) := List.getElem?_eq_getElem (by omega)
  rw [hx1] at h1
  obtain ⟨s, hc, hy, _⟩ := DataW.trod_string he h1
  have h2 : (xs.map (·.1))[i]? = some (DataW.lit (.string s.data.toList) : DataW H) := by simp [hx1, hy]
  rw [← hx.1] at h2
  simp only [List.getElem?_map, Option.map_eq_some_iff, DataW.lit.injEq, Lit.string.injEq] at h2
  obtain ⟨z, hz, rfl⟩ := h2
  have h3 := congrArg (·[0]?) hc
  simp only [List.getElem?_take, List.getElem?_drop] at h3
  simp at h3
  rw [h3, List.getD, hz, Option.getD_some, Tw.str_of]

end

theorem gWays : Tryd.prog.globalNamed "loop.example/turtlewalks/impl.wayLetters" = some 0 := by kernel_rfl
theorem gWaysType : (Tryd.prog.globals[0]?).map (·.type) = some 100 := by kernel_rfl
theorem cellsString : Tryd.prog.cellsOf 9 = 1 := by kernel_rfl
theorem waysAt {W : World} {laid : List (String × DataW Unit)} (hp : (laid.all fun x => x.2.handleName?.isNone) = true) (h : laidMetH Tryd.prog laid W)
    (hm : ("loop.example/turtlewalks/impl.wayLetters", Rows.laid_loop_example_turtlewalks_impl_wayLetters) ∈ laid) : WaysAt W := by
  rw [MakeChecks.laidMetH_plain _ _ _ hp] at h
  obtain ⟨_, h, _⟩ := h
  obtain ⟨g, t, cs, fuel, p, h1, h2, h3, h4⟩ := laid_one h hm
  obtain rfl := Option.some.inj (gWays.symm.trans h1)
  obtain rfl := Option.some.inj (gWaysType.symm.trans h2)
  intro i hi
  rw [World.var?_cell h1 h3 i]
  have := cells_of_strs (zs := wayList) Tryd.underlying100 Tryd.underlying9 cellsString h4 i hi
  simpa using this

theorem gDirs : Tryd.prog.globalNamed "loop.example/turtlewalks/impl.directions" = some 2 := by kernel_rfl
theorem gDirsType : (Tryd.prog.globals[2]?).map (·.type) = some 113 := by kernel_rfl
theorem cellsPair : Tryd.prog.cellsOf 63 = 2 := by kernel_rfl
theorem cellsInt : Tryd.prog.cellsOf 3 = 1 := by kernel_rfl
theorem cells_of_dirs {w : World} {base : Nat} {sp : Nat → Bool} {held : Bool} {fuel : Nat} {cs : List Value} {zs : List (List Int)} {p : List MemPlace}
    (h : DataW.trod (fun _ => ()) Tryd.prog w base sp held fuel 113 cs = some (.agg (zs.map fun z => .agg (z.map fun y => .lit (.int .i64 y))), p)) :
    ∀ i j, i < 4 → j < 2 → cs[i * 2 + j]? = some (.int .i64 ((zs.getD i []).getD j 0)) := by
  obtain ⟨xs, m, _, hx, _, hxl, hel⟩ := DataW.trod_array Tryd.underlying113 h
  simp only [Prod.mk.injEq, DataW.agg.injEq] at hx
  intro i j hi hj
  have h1 := hel i hi
  rw [cellsPair] at h1
  have hx1 : xs[i]? = some (xs[i]'(by omega)) := List.getElem?_eq_getElem (by omega)
  rw [hx1] at h1
  have h2 : (xs.map (·.1))[i]? = some (xs[i]'(by omega)).1 := by simp [hx1]
  rw [← hx.1] at h2
  simp only [List.getElem?_map, Option.map_eq_some_iff] at h2
  obtain ⟨z, hz, hz1⟩ := h2
  have h1' : DataW.trod (fun _ => ()) Tryd.prog w base sp held m 63 ((cs.drop (i * 2)).take 2) = some (.agg (z.map fun y => .lit (.int .i64 y)), (xs[i]'(by omega)).2) := by rw [h1, hz1]
  obtain ⟨ys, m2, _, hy, _, hyl, hel2⟩ := DataW.trod_array Tryd.underlying63 h1'
  simp only [Prod.mk.injEq, DataW.agg.injEq] at hy
  have h3 := hel2 j hj
  rw [cellsInt, Nat.mul_one] at h3
  have hy1 : ys[j]? = some (ys[j]'(by omega)) := List.getElem?_eq_getElem (by omega)
  rw [hy1] at h3
  obtain ⟨q, hc, hq, _⟩ := DataW.trod_int Tryd.underlying3 h3
  have h4 : (ys.map (·.1))[j]? = some (DataW.lit (.int .i64 q) : DataW Unit) := by simp [hy1, hq]
  rw [← hy.1] at h4
  simp only [List.getElem?_map, Option.map_eq_some_iff, DataW.lit.injEq, Lit.int.injEq, true_and] at h4
  obtain ⟨z', hz', rfl⟩ := h4
  have h5 := congrArg (·[0]?) hc
  simp only [List.getElem?_take, List.getElem?_drop] at h5
  simp [hj] at h5
  have e1 : zs.getD i [] = z := by simp [List.getD, hz]
  rw [h5, e1, List.getD, hz', Option.getD_some]
theorem dirsAt {W : World} {laid : List (String × DataW Unit)} (hp : (laid.all fun x => x.2.handleName?.isNone) = true) (h : laidMetH Tryd.prog laid W)
    (hm : ("loop.example/turtlewalks/impl.directions", Rows.laid_loop_example_turtlewalks_impl_directions) ∈ laid) : DirsAt W := by
  rw [MakeChecks.laidMetH_plain _ _ _ hp] at h
  obtain ⟨_, h, _⟩ := h
  obtain ⟨g, t, cs, fuel, p, h1, h2, h3, h4⟩ := laid_one h hm
  obtain rfl := Option.some.inj (gDirs.symm.trans h1)
  obtain rfl := Option.some.inj (gDirsType.symm.trans h2)
  have hc : ∀ i j, i < 4 → j < 2 → W.cell? ⟨2, i * 2 + j, none⟩ = some (.int .i64 (([[1, 0], [0, 1], [-1, 0], [0, -1]].getD i []).getD j 0)) := fun i j hi hj => by
    rw [World.var?_cell h1 h3 (i * 2 + j)]
    have := cells_of_dirs (zs := [[1, 0], [0, 1], [-1, 0], [0, -1]]) h4 i j hi hj
    rw [← Array.getElem?_toList]
    exact this
  exact ⟨hc 0 0 (by omega) (by omega), hc 0 1 (by omega) (by omega), hc 1 0 (by omega) (by omega), hc 1 1 (by omega) (by omega), hc 2 0 (by omega) (by omega), hc 2 1 (by omega) (by omega), hc 3 0 (by omega) (by omega), hc 3 1 (by omega) (by omega)⟩

end Go.Proofs.YtpkenccgjlhnlaaDoor

namespace Go.Proofs.YtpkenccgjlhnlaaDoor
open Go.ChangeShapes Go.WideShapes Go.ChangeAt Go.RowKit Go.WideMaps Go.WideElems

set_option maxRecDepth 100000 in
theorem open_code {H : Type} {enc : TypeId × Value → H} {W : World} {base : Nat} {spare : Nat → Bool} {held : Bool} {r : Reach} {b0 : Nat} {v : Value} {d : DataW H} {p : List MemPlace} (hv : Value.okWide Tryd.prog W r b0 22 v) (h : DataW.Trod enc Tryd.prog W base spare held 22 v d p) :
    ∃ n, CodeAt W v n := by
  obtain ⟨a0, l0, c0, rfl⟩ := okWide_slice Tryd.underlying22 hv
  obtain ⟨fuel, hf⟩ := h
  rcases Go.ChangeShapes.open_ints Tryd.underlying22 Tryd.underlying5 (by kernel_rfl) hf with ⟨hv1, _⟩ | ⟨a, len, cap, zs, hv1, _, hl, _, hlen, _, hc, hzs⟩
  · simp [Value.cells] at hv1
    obtain ⟨rfl, rfl, rfl⟩ := hv1
    exact ⟨0, .inl ⟨rfl, rfl⟩⟩
  · simp [Value.cells] at hv1
    obtain ⟨rfl, rfl, rfl⟩ := hv1
    refine ⟨l0, .inr ⟨a, c0, rfl, hl, fun j hj => ?_⟩⟩
    have hj2 : j < zs.length := by rw [hlen]; split <;> omega
    have hw := hzs _ (List.getElem_mem hj2)
    have hcj := hc j hj2
    rw [List.getD, List.getElem?_eq_getElem hj2, Option.getD_some] at hcj
    refine ⟨_, ?_, ?_, hcj⟩ <;> (have := hw; simp [Lit.wf, IntKind.min, IntKind.max, IntKind.signed, IntKind.bits] at this; omega)

end Go.Proofs.YtpkenccgjlhnlaaDoor

namespace Go.Proofs.YtpkenccgjlhnlaaDoor.fnDeskRun
open Go.ChangeShapes Go.WideShapes Go.ChangeAt Go.RowKit Go.WideMaps Go.WideElems
open Go.ChangeMaps (open_string shut_string)

theorem same_is (s x : ByteArray) (v u : Value) (ys zs : List ByteArray) (w : World) (hv : StrsAt w v ys) (hu : StrsAt w u zs) (hm : zs.length ≤ 1048577) (b : Bool) (hb : (decide (s = x) && decide (ys = zs)) = b) :
    Calls Tryd.prog 11 #[.agg #[.string s, v], .agg #[.string x, u]] w fun e w' => e = .returned (.bool b) ∧ Below w.heap.size w w' := hb ▸ sameDesk_any s x v u ys zs w hv hu hm
theorem okS_is (s : ByteArray) (v : Value) (zs : List ByteArray) (w : World) (h : PastAt w v zs) (hs : s.size ≤ 1048576) (hl : zs.length ≤ 1048576) (hz : ∀ z ∈ zs, z.size ≤ 1048576) (b : Bool) (hb : deskOk s zs = b) :
    Calls Tryd.prog 24 #[.agg #[.string s, v]] w fun e w' => e = .returned (.bool b) ∧ Below w.heap.size w w' := hb ▸ specDeskOk s v zs w h.strs hs hl hz
theorem ok_is (s : ByteArray) (v : Value) (zs : List ByteArray) (w : World) (h : PastAt w v zs) (hs : s.size ≤ 1048576) (hl : zs.length ≤ 1048576) (hz : ∀ z ∈ zs, z.size ≤ 1048576) (b : Bool) (hb : deskOk s zs = b) :
    Calls Tryd.prog 12 #[.agg #[.string s, v]] w fun e w' => e = .returned (.bool b) ∧ Below w.heap.size w w' := hb ▸ implDeskOk s v zs w h.strs hs hl hz
theorem tt (x : ByteArray) (ys : List ByteArray) : (decide (x = x) && decide (ys = ys)) = true := by rw [decide_eq_true rfl, decide_eq_true rfl]; rfl
/-- Running is of the size of a desk. -/
structure Small (x : ByteArray) (ys : List ByteArray) (k : Nat) : Prop where
  hs : x.size ≤ 41
  hl : ys.length ≤ 8
  hz : ∀ z ∈ ys, z.size ≤ 41
  hk : k ≤ 40
theorem run_small (s : ByteArray) (zs : List ByteArray) (ds : List (Int × Int)) {x : ByteArray} {ys : List ByteArray} {k : Nat} (h : deskRun s zs ds = ((x, ys), k)) : Small x ys k ∧ (deskOk s zs = true ∧ ds.length ≤ 40 → deskOk x ys = true) := by
  by_cases hok : deskOk s zs = true ∧ ds.length ≤ 40
  · have e : deskRun s zs ds = runTo s zs ds := by unfold deskRun; rw [if_pos hok]
    rw [e] at h
    obtain ⟨h1, h2⟩ := run_few hok.1 ds
    rw [h] at h1 h2
    dsimp only at h1 h2
    obtain ⟨h3, h4, h5⟩ := deskOk_parts h1
    have := ok_size h3
    exact ⟨⟨by omega, h4, fun z hz => by have := ok_size (h5 z hz); omega, by have : k ≤ ds.length := h2; omega⟩, fun _ => h1⟩
  · have e : deskRun s zs ds = ((⟨#[]⟩, []), 0) := by unfold deskRun; rw [if_neg hok]
    rw [e] at h
    simp only [Prod.mk.injEq] at h
    obtain ⟨⟨rfl, rfl⟩, rfl⟩ := h
    exact ⟨⟨by decide, by simp, by simp, by omega⟩, fun h => absurd h hok⟩
/-- The program's DeskRun at named results. -/
theorem run_is (s : ByteArray) (v : Value) (zs : List ByteArray) (u : Value) (ds : List (Int × Int)) (w : World) (h : PastAt w v zs) (hd : DeedsAt w u ds) (hs : s.size ≤ 1048576) (hL : zs.length ≤ 1048576) (hz : ∀ z ∈ zs, z.size ≤ 1048576) (hn : ds.length ≤ 1048576) (hkn : ∀ d ∈ ds, -9223372036854775808 ≤ d.2 ∧ d.2 ≤ 9223372036854775807) (hw : WaysAt w) (hdd : DirsAt w) {x : ByteArray} {ys : List ByteArray} {k : Nat} (he : deskRun s zs ds = ((x, ys), k)) (m : Nat) (hm : ys.length = m) :
    Calls Tryd.prog 22 #[.agg #[.string s, v], u] w fun e w' => ∃ a c, e = .returned (.tuple #[.agg #[.string x, .slice a m c], .int .i64 (k : Int)]) ∧ PastAt w' (.slice a m c) ys ∧ Fresh w.heap.size (.slice a m c) ∧ Below w.heap.size w w' := by
  refine (implDeskRun s v zs u ds w h hd hs hL hz hn hkn hw hdd).mono ?_
  rintro e w' ⟨v', rfl, hp, hf, hb⟩
  rw [he] at hp ⊢
  obtain ⟨a, c, rfl⟩ := past_slice hp hm
  exact ⟨a, c, rfl, hp, hf, hb⟩
theorem runS_is (s : ByteArray) (v : Value) (zs : List ByteArray) (u : Value) (ds : List (Int × Int)) (w : World) (h : StrsAt w v zs) (hd : DeedsAt w u ds) (hs : s.size ≤ 1048576) (hL : zs.length ≤ 1048576) (hz : ∀ z ∈ zs, z.size ≤ 1048576) (hn : ds.length ≤ 1048576) (hkn : ∀ d ∈ ds, -9223372036854775808 ≤ d.2 ∧ d.2 ≤ 9223372036854775807) {x : ByteArray} {ys : List ByteArray} {k : Nat} (he : deskRun s zs ds = ((x, ys), k)) (m : Nat) (hm : ys.length = m) :
    Calls Tryd.prog 23 #[.agg #[.string s, v], u] w fun e w' => ∃ a c, e = .returned (.tuple #[.agg #[.string x, .slice a m c], .int .i64 (k : Int)]) ∧ PastAt w' (.slice a m c) ys ∧ Fresh w.heap.size (.slice a m c) ∧ Below w.heap.size w w' := by
  refine (specDeskRun s v zs u ds w h hd hs hL hz hn hkn).mono ?_
  rintro e w' ⟨v', rfl, hp, hf, hb⟩
  rw [he] at hp ⊢
  obtain ⟨a, c, rfl⟩ := past_slice hp hm
  exact ⟨a, c, rfl, hp, hf, hb⟩
theorem row_cap {w : World} {g n cap : Nat} {ds : List (Int × Int)} (h : RowAt w (.slice (some ⟨g, 0, none⟩) n cap) ds) (hn : ds.length = n) : n ≤ cap := by
  rcases h with ⟨h, _⟩ | ⟨g', cap', cur, he, hl, _⟩
  · cases h
  · cases he
    omega
theorem noDesk_is (s : ByteArray) (v : Value) (ys : List ByteArray) (w : World) (hv : StrsAt w v ys) (b : Bool) (hb : (decide (s = ⟨#[]⟩) && decide (ys = [])) = b) :
    Calls Tryd.prog 25 #[.agg #[.string s, v]] w fun e w' => e = .returned (.bool b) ∧ Below w.heap.size w w' := hb ▸ noDesk_any s v ys w hv

set_option maxRecDepth 100000 in
set_option maxHeartbeats 1600000 in
theorem walk (v : Value) (n : Nat) (w : World) (hw : WaysAt w) (hd : DirsAt w) (h : CodeAt w v n) :
    Calls Tryd.prog 5 #[v] w fun e w' => e = .returned (.bool true) ∧ Below w.heap.size w w' := by
  have hdraw := drawDeskRun v n w h
  obtain ⟨a, cap, rfl⟩ := code_value h
  have HD := Lib.hid hdraw
  clear hdraw h
  by_cases hn : n ≤ 1048576
  · have HWW := Lib.hid hw
    have HDD := Lib.hid hd
    clear hw hd
    go_enter Tryd.func5, Tryd.ntmps5
    go_upto_region 4 with (go_at_call 21; refine HD.out.mono ?_; rintro e w1 ⟨s, u, zs, g, cp, ds, rfl, hk, hkd, hb1⟩; obtain ⟨aU, cU, hvU⟩ := past_slice hk.past (M := zs.length) rfl; subst hvU; have HK := Lib.hid hk; have HKD := Lib.hid hkd; have hs41 := hk.hs; have hl9 := hk.hl; have hN41 := hkd.hl; clear hk hkd)
    obtain ⟨L, hL⟩ : ∃ L, zs.length = L := ⟨_, rfl⟩
    obtain ⟨N, hN⟩ : ∃ N, ds.length = N := ⟨_, rfl⟩
    rw [hL] at HK hl9 ⊢
    rw [hN] at HKD hN41 ⊢
    have HL := Lib.hid hL
    have HN := Lib.hid hN
    have HZ : Hid (∀ z ∈ zs, z.size ≤ 1048576) := fun z hz => by have := HK.out.hz z hz; omega
    have HKN : Hid (∀ d ∈ ds, -9223372036854775808 ≤ d.2 ∧ d.2 ≤ 9223372036854775807) := fun d hd => by have := HKD.out.hd d hd; omega
    obtain ⟨x0, hx0⟩ : ∃ x, (deskRun s zs ds).1.1 = x := ⟨_, rfl⟩
    obtain ⟨y0, hy0⟩ : ∃ x, (deskRun s zs ds).1.2 = x := ⟨_, rfl⟩
    obtain ⟨k0, hk0⟩ : ∃ x, (deskRun s zs ds).2 = x := ⟨_, rfl⟩
    have HR : Hid (deskRun s zs ds = ((x0, y0), k0)) := by show deskRun s zs ds = _; rw [← hx0, ← hy0, ← hk0]
    have hsm := (run_small s zs ds HR.out).1
    have hsm1 := hsm.hs
    have hsm2 := hsm.hl
    have hsm3 := hsm.hk
    have HSM := Lib.hid hsm.hz
    obtain ⟨m, hM⟩ : ∃ m, y0.length = m := ⟨_, rfl⟩
    rw [hM] at hsm2
    have HM := Lib.hid hM
    have hds : ∀ (u : Value) (W : World), StrsAt W u zs → DeedsAt W (.slice (some ⟨g, 0, none⟩) N cp) ds → Calls Tryd.prog 23 #[.agg #[.string s, u], .slice (some ⟨g, 0, none⟩) N cp] W fun e w' => ∃ a c, e = .returned (.tuple #[.agg #[.string x0, .slice a m c], .int .i64 (k0 : Int)]) ∧ PastAt w' (.slice a m c) y0 ∧ Fresh W.heap.size (.slice a m c) ∧ Below W.heap.size W w' := fun u W hu hd =>
      runS_is s u zs _ ds W hu hd (by omega) (by rw [HL.out]; omega) HZ.out (by rw [HN.out]; omega) HKN.out HR.out m HM.out
    have hdi : ∀ (u : Value) (W : World), PastAt W u zs → DeedsAt W (.slice (some ⟨g, 0, none⟩) N cp) ds → WaysAt W → DirsAt W → Calls Tryd.prog 22 #[.agg #[.string s, u], .slice (some ⟨g, 0, none⟩) N cp] W fun e w' => ∃ a c, e = .returned (.tuple #[.agg #[.string x0, .slice a m c], .int .i64 (k0 : Int)]) ∧ PastAt w' (.slice a m c) y0 ∧ Fresh W.heap.size (.slice a m c) ∧ Below W.heap.size W w' := fun u W hu hd hww hdd =>
      run_is s u zs _ ds W hu hd (by omega) (by rw [HL.out]; omega) HZ.out (by rw [HN.out]; omega) HKN.out hww hdd HR.out m HM.out
    have HDS := Lib.hid hds
    have HDI := Lib.hid hdi
    clear hL hN hx0 hy0 hk0 hds hdi hM hsm
    obtain ⟨W2, hW2⟩ : ∃ W2, w1.alloc (.cells #[.string s, .slice aU L cU] 25) = W2 := ⟨_, rfl⟩
    have r0 : W2.heap[w1.heap.size]? = some (.cells #[.string s, .slice aU L cU] 25 (0, 0)) := hW2 ▸ heap_alloc_new w1 _
    have e2 : Ext w1 W2 := hW2 ▸ (Ext.refl w1).alloc _
    have hs2 : w1.heap.size < W2.heap.size := by rw [← hW2]; simp
    rw [hW2]
    obtain ⟨D1, hD1⟩ : ∃ D1, w1.heap.size = D1 := ⟨_, rfl⟩
    rw [hD1] at hs2 r0 ⊢
    have HP2 := Lib.hid (e2.past HK.out.past)
    have HX2 := Lib.hid (HKD.out.row.ext e2)
    have hB2 : Below w.heap.size w W2 := hb1.trans (Below.mono e2 hb1.size)
    have HW2 := Lib.hid (HWW.out.below' hB2)
    have HD2 := Lib.hid (HDD.out.below' hB2)
    have HS : Hid (∀ X, Ext W2 X → X.cell? ⟨D1, 0, none⟩ = some (.string s) ∧ X.cell? ⟨D1, 1, none⟩ = some (.slice aU L cU)) := fun X hX => two_cells (hX.row r0)
    have hB2s := hB2.size
    obtain ⟨d0, d1⟩ := HS.out W2 (Ext.refl _)
    clear hW2 hD1 r0 e2 hb1
    go_upto_region 8 with (first
      | (go_at_call 22; refine (HDI.out _ _ HP2.out HX2.out.deeds HW2.out HD2.out).mono ?_; rintro e w3 ⟨a3, c3, rfl, hp3, hf3, hb3⟩; have E3 : Hid (Ext W2 (w3.alloc (.cells #[.string x0, .slice a3 m c3] 25))) := (show Ext W2 w3 from hb3).alloc _; have BX3 := Lib.hid (box_new (x := x0) hp3 (fresh_ext (Ext.refl _) hf3) (show W2.heap.size ≤ w3.heap.size from hb3.size)); obtain ⟨f0, f1⟩ := HS.out _ E3.out; obtain ⟨f4, f5⟩ := BX3.out.cells; clear hp3 hf3 hb3)
      | (go_at_call 23; refine (HDS.out _ _ (E3.out.past HP2.out).strs (HX2.out.ext E3.out).deeds).mono ?_; rintro e w5 ⟨a5, c5, rfl, hp5, hf5, hb5⟩; have E5' : Ext W2 w5 := Ext.call E3.out hb5; have E5 : Hid (Ext W2 (w5.alloc (.cells #[.string x0, .slice a5 m c5] 25))) := E5'.alloc _; have BX5 := Lib.hid ((BX3.out.ext hb5).ext ((Ext.refl w5).alloc (.cells #[.string x0, .slice a5 m c5] 25))); have BY5 := Lib.hid (box_new (A := W2.heap.size) (x := x0) hp5 (fresh_ext E3.out hf5) (Ext.size E5')); obtain ⟨g0, g1⟩ := HS.out _ E5.out; obtain ⟨g4, g5⟩ := BX5.out.cells; obtain ⟨g6, g7⟩ := BY5.out.cells; have SM5 := Lib.hid (same_is x0 x0 _ _ y0 y0 _ BX5.out.past.strs BY5.out.past.strs (by rw [HM.out]; omega) true (tt x0 y0)); clear hp5 hf5 hb5)
      | (go_at_call 11; refine SM5.out.mono ?_; rintro e w7 ⟨rfl, hb7⟩; have E7 := Lib.hid (Ext.call E5.out hb7); have BX7 := Lib.hid (BX5.out.ext hb7); obtain ⟨i0, i1⟩ := HS.out _ E7.out; obtain ⟨i4, i5⟩ := BX7.out.cells; clear hb7))
    have OKS : Hid (∀ (b : Bool) (X : World), deskOk s zs = b → Ext W2 X → Calls Tryd.prog 24 #[.agg #[.string s, .slice aU L cU]] X fun e w' => e = .returned (.bool b) ∧ Below X.heap.size X w') := fun b X hb hX => okS_is s _ zs X (hX.past HP2.out) (by omega) (by rw [HL.out]; omega) HZ.out b hb
    clear d0 d1 f0 f1 f4 f5 g0 g1 g4 g5 g6 g7
    have hyes : (deskOk s zs = false ∨ (deskOk s zs = true ∧ 40 < N)) ∨ (deskOk s zs = true ∧ N ≤ 40) := by
      cases deskOk s zs
      · exact .inl (.inl rfl)
      · by_cases h40 : N ≤ 40
        · exact .inr ⟨rfl, h40⟩
        · exact .inl (.inr ⟨rfl, by omega⟩)
    rcases hyes with hno | ⟨hok, h40⟩
    · have hz0 : deskRun s zs ds = ((⟨#[]⟩, []), 0) := by
        unfold deskRun
        rw [if_neg]
        rintro ⟨h1, h2⟩
        rw [HN.out] at h2
        rcases hno with h3 | h3
        · rw [h3] at h1; cases h1
        · omega
      obtain ⟨e1, e2, e3⟩ : x0 = ⟨#[]⟩ ∧ y0 = [] ∧ k0 = 0 := by
        have h9 := HR.out
        rw [hz0] at h9
        simp only [Prod.mk.injEq] at h9
        exact ⟨h9.1.1.symm, h9.1.2.symm, h9.2.symm⟩
      subst e1 e2 e3
      have ND : Hid (∀ X, Ext w7 X → Calls Tryd.prog 25 #[.agg #[.string ⟨#[]⟩, .slice a3 m c3]] X fun e w' => e = .returned (.bool true) ∧ Below X.heap.size X w') := fun X hX => noDesk_is _ _ _ X (hX.past BX7.out.past).strs true (by simp)
      have HS7 : Hid (∀ X, Ext w7 X → X.cell? ⟨w3.heap.size, 0, none⟩ = some (.string ⟨#[]⟩) ∧ X.cell? ⟨w3.heap.size, 1, none⟩ = some (.slice a3 m c3)) := fun X hX => (BX7.out.ext hX).cells
      clear hz0
      rcases hno with h3 | ⟨h3, h4⟩
      all_goals
        have OK8 := Lib.hid (OKS.out _ w7 h3 E7.out)
        clear h3
        go_wp2_with (first
          | (go_at_call 24; refine OK8.out.mono ?_; rintro e w8 ⟨rfl, hb8⟩; have E8 : Hid (Ext w7 w8) := hb8; obtain ⟨j0, j1⟩ := HS7.out _ E8.out; clear hb8)
          | (go_at_call 25; refine (ND.out _ E8.out).mono ?_; rintro e w9 ⟨rfl, hb9⟩; have E9 : Hid (Ext w7 w9) := Ext.call E8.out hb9; clear hb9)
          | (go_at_call 13; refine (alive_yes _).mono ?_; rintro e w' ⟨rfl, rfl⟩))
        go_ret
        exact ⟨rfl, Ext.below hB2 (E7.out.trans E9.out) hB2s⟩
    · have OK8 := Lib.hid (OKS.out _ w7 hok E7.out)
      have HOK := Lib.hid hok
      have h40' : (N : Int) ≤ 40 := by omega
      obtain ⟨hf, hh⟩ : ∃ hf, N / 2 = hf := ⟨_, rfl⟩
      have eqh : (N : Int) / 2 = (hf : Int) := by omega
      have hfN : hf ≤ N := by omega
      have hNc : N ≤ cp := row_cap HX2.out HN.out
      have hfc : hf ≤ cp := by omega
      obtain ⟨x1, hx1⟩ : ∃ x, (deskRun s zs (ds.take hf)).1.1 = x := ⟨_, rfl⟩
      obtain ⟨y1, hy1⟩ : ∃ x, (deskRun s zs (ds.take hf)).1.2 = x := ⟨_, rfl⟩
      obtain ⟨p, hp⟩ : ∃ x, (deskRun s zs (ds.take hf)).2 = x := ⟨_, rfl⟩
      have HR1 : Hid (deskRun s zs (ds.take hf) = ((x1, y1), p)) := by show deskRun s zs (ds.take hf) = _; rw [← hx1, ← hy1, ← hp]
      obtain ⟨x2, hx2⟩ : ∃ x, (deskRun x1 y1 (ds.drop hf)).1.1 = x := ⟨_, rfl⟩
      obtain ⟨y2, hy2⟩ : ∃ x, (deskRun x1 y1 (ds.drop hf)).1.2 = x := ⟨_, rfl⟩
      obtain ⟨q, hq⟩ : ∃ x, (deskRun x1 y1 (ds.drop hf)).2 = x := ⟨_, rfl⟩
      have HR2 : Hid (deskRun x1 y1 (ds.drop hf) = ((x2, y2), q)) := by show deskRun x1 y1 (ds.drop hf) = _; rw [← hx2, ← hy2, ← hq]
      have hpt := run_parts hok (by rw [HN.out]; exact h40) hf HR1.out HR2.out
      rw [HR.out] at hpt
      simp only [Prod.mk.injEq] at hpt
      obtain ⟨⟨rfl, rfl⟩, hpq⟩ := hpt
      have hs1 := (run_small s zs _ HR1.out).1
      have hs1a := hs1.hs
      have hs1b := hs1.hl
      have hs1c := hs1.hk
      have hs2c := (run_small x1 y1 _ HR2.out).1.hk
      have HSM1 := Lib.hid hs1.hz
      have hpq2 : (((p : Int) + (q : Int)) == (k0 : Int)) = true := by rw [hpq]; simp
      obtain ⟨m1, hM1⟩ : ∃ m, y1.length = m := ⟨_, rfl⟩
      rw [hM1] at hs1b
      have HM1 := Lib.hid hM1
      have HDI1 : Hid (∀ X, Ext W2 X → Calls Tryd.prog 22 #[.agg #[.string s, .slice aU L cU], .slice (some ⟨g, 0, none⟩) hf cp] X fun e w' => ∃ a c, e = .returned (.tuple #[.agg #[.string x1, .slice a m1 c], .int .i64 (p : Int)]) ∧ PastAt w' (.slice a m1 c) y1 ∧ Fresh X.heap.size (.slice a m1 c) ∧ Below X.heap.size X w') := fun X hX =>
        run_is s _ zs _ (ds.take hf) X (hX.past HP2.out) (row_take (HX2.out.ext hX) HN.out hfN) (by omega) (by rw [HL.out]; omega) HZ.out (by rw [List.length_take]; omega) (fun d hd => HKN.out d (List.mem_of_mem_take hd)) (HW2.out.below' hX) (HD2.out.below' hX) HR1.out m1 HM1.out
      have HDI2 : Hid (∀ (V u : Value) X, Ext W2 X → PastAt X u y1 → DeedsAt X V (ds.drop hf) → Calls Tryd.prog 22 #[.agg #[.string x1, u], V] X fun e w' => ∃ a c, e = .returned (.tuple #[.agg #[.string x0, .slice a m c], .int .i64 (q : Int)]) ∧ PastAt w' (.slice a m c) y0 ∧ Fresh X.heap.size (.slice a m c) ∧ Below X.heap.size X w') := fun V u X hX hu hV =>
        run_is x1 u y1 V (ds.drop hf) X hu hV (by omega) (by rw [HM1.out]; omega) (fun z hz => by have := HSM1.out z hz; omega) (by rw [List.length_drop, HN.out]; omega) (fun d hd => HKN.out d (List.mem_of_mem_drop hd)) (HW2.out.below' hX) (HD2.out.below' hX) HR2.out m HM.out
      have OK13 : Hid (∀ X, Ext w7 X → Calls Tryd.prog 12 #[.agg #[.string x0, .slice a3 m c3]] X fun e w' => e = .returned (.bool true) ∧ Below X.heap.size X w') := fun X hX => ok_is x0 _ y0 X (hX.past BX7.out.past) (by omega) (by rw [HM.out]; omega) (fun z hz => by have := HSM.out z hz; omega) true ((run_small s zs ds HR.out).2 ⟨HOK.out, by rw [HN.out]; exact h40⟩)
      clear hx1 hy1 hp hx2 hy2 hq hs1 hM1 hok hh hpq
      have DV : Hid (∀ X, Ext W2 X → DeedsAt X (.slice (if cp = hf then some ⟨g, 0, none⟩ else some ⟨g, hf * 2, none⟩) (N - hf) (cp - hf)) (ds.drop hf)) := fun X hX => by
        split
        · have e : ds.drop hf = [] := List.drop_of_length_le (by rw [HN.out]; omega)
          have e0 : N - hf = 0 := by omega
          rw [e, e0]
          exact .inr ⟨_, _, rfl, by simp, fun j d hd => by simp at hd⟩
        · exact row_drop (HX2.out.ext hX) HN.out hfN rfl (by omega)
      obtain ⟨V, hV⟩ : ∃ V : Option Addr, (if cp = hf then some (⟨g, 0, none⟩ : Addr) else some ⟨g, hf * 2, none⟩) = V := ⟨_, rfl⟩
      rw [hV] at DV
      have k1 : (0 : Int) ≤ (hf : Int) := by omega
      have k2 : (hf : Int) ≤ (N : Int) := by omega
      have k3 : (hf : Int) ≤ (cp : Int) := by omega
      have k4 : (N : Int) ≤ (cp : Int) := by omega
      go_upto_region 11 with (go_at_call 24; refine OK8.out.mono ?_; rintro e w8 ⟨rfl, hb8⟩; have F8 : Hid (Ext w7 w8) := hb8; clear hb8)
      have E8 := Lib.hid (E7.out.trans F8.out)
      have HS8 : Hid (∀ X, Ext w8 X → X.cell? ⟨D1, 0, none⟩ = some (.string s) ∧ X.cell? ⟨D1, 1, none⟩ = some (.slice aU L cU)) := fun X hX => HS.out X (E8.out.trans hX)
      go_cut [10, 11] (fun P Q wx => ∃ N9 a9 c9, P = .pointer (some ⟨N9, 0, none⟩) ∧ Q = .int .i64 (p : Int) ∧ Hid (BoxB w8.heap.size wx.heap.size wx N9 x1 (.slice a9 m1 c9) y1) ∧ Ext w8 wx)
      case first =>
        go_region_held3 (fun w' => w'.cell? ⟨D1, 0, none⟩ = some (.string s) ∧ w'.cell? ⟨D1, 1, none⟩ = some (.slice aU L cU))
          (exact HS8.out _ (by (first | assumption | exact Ext.refl _ | exact (Ext.refl _).drew | (refine Ext.alloc ?_ _; first | assumption | exact Ext.refl _ | exact (Ext.refl _).drew) | (refine Ext.drew ?_; first | assumption | exact Ext.refl _ | exact (Ext.refl _).drew) | (refine Ext.drew ?_; refine Ext.alloc ?_ _; first | assumption | exact Ext.refl _ | exact (Ext.refl _).drew) | (refine Ext.setCell (Ext.setCell ?_ ?_ _) ?_ _ <;> first | assumption | omega | (simp <;> omega)))))
          (first | (go_at_call 22; refine (HDI1.out _ (E8.out.trans (by (first | assumption | exact Ext.refl _ | exact (Ext.refl _).drew | (refine Ext.alloc ?_ _; first | assumption | exact Ext.refl _ | exact (Ext.refl _).drew) | (refine Ext.drew ?_; first | assumption | exact Ext.refl _ | exact (Ext.refl _).drew) | (refine Ext.drew ?_; refine Ext.alloc ?_ _; first | assumption | exact Ext.refl _ | exact (Ext.refl _).drew) | (refine Ext.setCell (Ext.setCell ?_ ?_ _) ?_ _ <;> first | assumption | omega | (simp <;> omega)))))).mono ?_; rintro e wC ⟨aC, cC, rfl, hpC, hfC, hbC⟩; have gC := fresh_ext (show Ext w8 _ by (first | assumption | exact Ext.refl _ | exact (Ext.refl _).drew | (refine Ext.alloc ?_ _; first | assumption | exact Ext.refl _ | exact (Ext.refl _).drew) | (refine Ext.drew ?_; first | assumption | exact Ext.refl _ | exact (Ext.refl _).drew) | (refine Ext.drew ?_; refine Ext.alloc ?_ _; first | assumption | exact Ext.refl _ | exact (Ext.refl _).drew) | (refine Ext.setCell (Ext.setCell ?_ ?_ _) ?_ _ <;> first | assumption | omega | (simp <;> omega)))) hfC; have eC : Ext w8 wC := Ext.call (by (first | assumption | exact Ext.refl _ | exact (Ext.refl _).drew | (refine Ext.alloc ?_ _; first | assumption | exact Ext.refl _ | exact (Ext.refl _).drew) | (refine Ext.drew ?_; first | assumption | exact Ext.refl _ | exact (Ext.refl _).drew) | (refine Ext.drew ?_; refine Ext.alloc ?_ _; first | assumption | exact Ext.refl _ | exact (Ext.refl _).drew) | (refine Ext.setCell (Ext.setCell ?_ ?_ _) ?_ _ <;> first | assumption | omega | (simp <;> omega)))) hbC; (first | (have hN := box_keep hbC; have nN := box_ne hfC) | (have hN := box_keep_drew hbC; have nN := box_ne_drew hfC) | (have nN := fresh_ne hfC hN; have hN := Ext.row hbC hN) | skip); have PC := Lib.hid hpC; have FC := Lib.hid gC; have sC := Ext.size eC; (first | (have zN := frozen_of_row _ _ 0 _ _ hN; have zN1 := frozen_of_row _ _ 1 _ _ hN; have yN := cell_of_row _ _ 0 _ _ _ hN; have yN1 := cell_of_row _ _ 1 _ _ _ hN; have HNN := Lib.hid hN; clear hN) | skip); clear hpC hfC hbC gC))
        all_goals
          go_wp2_with fail
          go_meet
          first
            | exact ⟨_, _, _, rfl, rfl, box_new PC.out FC.out sC, by (first | assumption | exact Ext.refl _ | exact (Ext.refl _).drew | (refine Ext.alloc ?_ _; first | assumption | exact Ext.refl _ | exact (Ext.refl _).drew) | (refine Ext.drew ?_; first | assumption | exact Ext.refl _ | exact (Ext.refl _).drew) | (refine Ext.drew ?_; refine Ext.alloc ?_ _; first | assumption | exact Ext.refl _ | exact (Ext.refl _).drew) | (refine Ext.setCell (Ext.setCell ?_ ?_ _) ?_ _ <;> first | assumption | omega | (simp <;> omega)))⟩
            | exact ⟨_, _, _, rfl, rfl, box_set HNN.out PC.out FC.out nN (by first | omega | (simp <;> omega)), by (first | assumption | exact Ext.refl _ | exact (Ext.refl _).drew | (refine Ext.alloc ?_ _; first | assumption | exact Ext.refl _ | exact (Ext.refl _).drew) | (refine Ext.drew ?_; first | assumption | exact Ext.refl _ | exact (Ext.refl _).drew) | (refine Ext.drew ?_; refine Ext.alloc ?_ _; first | assumption | exact Ext.refl _ | exact (Ext.refl _).drew) | (refine Ext.setCell (Ext.setCell ?_ ?_ _) ?_ _ <;> first | assumption | omega | (simp <;> omega)))⟩
      case rest =>
        obtain ⟨w9, rfl⟩ : ∃ w9 : World, w9 = wc := ⟨_, rfl⟩
        obtain ⟨N9, a9, c9, rfl, rfl, HA9, e9⟩ := hcut
        have F9 := Lib.hid (F8.out.trans e9)
        have E9 := Lib.hid (E8.out.trans e9)
        have HS9 : Hid (∀ X, Ext w9 X → X.cell? ⟨N9, 0, none⟩ = some (.string x1) ∧ X.cell? ⟨N9, 1, none⟩ = some (.slice a9 m1 c9)) := fun X hX => (HA9.out.ext hX).cells
        clear e9
        go_upto_region 12 with (fail)
        go_cut [12, 13] (fun P Q wx => ∃ N11 a11 c11, P = .pointer (some ⟨N11, 0, none⟩) ∧ Q = .int .i64 (q : Int) ∧ Hid (BoxB w9.heap.size wx.heap.size wx N11 x0 (.slice a11 m c11) y0) ∧ Ext w9 wx)
        case first =>
          go_region_held3 (fun w' => w'.cell? ⟨N9, 0, none⟩ = some (.string x1) ∧ w'.cell? ⟨N9, 1, none⟩ = some (.slice a9 m1 c9))
            (exact HS9.out _ (by (first | assumption | exact Ext.refl _ | exact (Ext.refl _).drew | (refine Ext.alloc ?_ _; first | assumption | exact Ext.refl _ | exact (Ext.refl _).drew) | (refine Ext.drew ?_; first | assumption | exact Ext.refl _ | exact (Ext.refl _).drew) | (refine Ext.drew ?_; refine Ext.alloc ?_ _; first | assumption | exact Ext.refl _ | exact (Ext.refl _).drew) | (refine Ext.setCell (Ext.setCell ?_ ?_ _) ?_ _ <;> first | assumption | omega | (simp <;> omega)))))
            (first | (go_at_call 22; refine (HDI2.out _ _ _ (E9.out.trans (by (first | assumption | exact Ext.refl _ | exact (Ext.refl _).drew | (refine Ext.alloc ?_ _; first | assumption | exact Ext.refl _ | exact (Ext.refl _).drew) | (refine Ext.drew ?_; first | assumption | exact Ext.refl _ | exact (Ext.refl _).drew) | (refine Ext.drew ?_; refine Ext.alloc ?_ _; first | assumption | exact Ext.refl _ | exact (Ext.refl _).drew) | (refine Ext.setCell (Ext.setCell ?_ ?_ _) ?_ _ <;> first | assumption | omega | (simp <;> omega))))) (Ext.past (by (first | assumption | exact Ext.refl _ | exact (Ext.refl _).drew | (refine Ext.alloc ?_ _; first | assumption | exact Ext.refl _ | exact (Ext.refl _).drew) | (refine Ext.drew ?_; first | assumption | exact Ext.refl _ | exact (Ext.refl _).drew) | (refine Ext.drew ?_; refine Ext.alloc ?_ _; first | assumption | exact Ext.refl _ | exact (Ext.refl _).drew) | (refine Ext.setCell (Ext.setCell ?_ ?_ _) ?_ _ <;> first | assumption | omega | (simp <;> omega)))) HA9.out.past) (DV.out _ (E9.out.trans (by (first | assumption | exact Ext.refl _ | exact (Ext.refl _).drew | (refine Ext.alloc ?_ _; first | assumption | exact Ext.refl _ | exact (Ext.refl _).drew) | (refine Ext.drew ?_; first | assumption | exact Ext.refl _ | exact (Ext.refl _).drew) | (refine Ext.drew ?_; refine Ext.alloc ?_ _; first | assumption | exact Ext.refl _ | exact (Ext.refl _).drew) | (refine Ext.setCell (Ext.setCell ?_ ?_ _) ?_ _ <;> first | assumption | omega | (simp <;> omega))))))).mono ?_; rintro e wC ⟨aC, cC, rfl, hpC, hfC, hbC⟩; have gC := fresh_ext (show Ext w9 _ by (first | assumption | exact Ext.refl _ | exact (Ext.refl _).drew | (refine Ext.alloc ?_ _; first | assumption | exact Ext.refl _ | exact (Ext.refl _).drew) | (refine Ext.drew ?_; first | assumption | exact Ext.refl _ | exact (Ext.refl _).drew) | (refine Ext.drew ?_; refine Ext.alloc ?_ _; first | assumption | exact Ext.refl _ | exact (Ext.refl _).drew) | (refine Ext.setCell (Ext.setCell ?_ ?_ _) ?_ _ <;> first | assumption | omega | (simp <;> omega)))) hfC; have eC : Ext w9 wC := Ext.call (by (first | assumption | exact Ext.refl _ | exact (Ext.refl _).drew | (refine Ext.alloc ?_ _; first | assumption | exact Ext.refl _ | exact (Ext.refl _).drew) | (refine Ext.drew ?_; first | assumption | exact Ext.refl _ | exact (Ext.refl _).drew) | (refine Ext.drew ?_; refine Ext.alloc ?_ _; first | assumption | exact Ext.refl _ | exact (Ext.refl _).drew) | (refine Ext.setCell (Ext.setCell ?_ ?_ _) ?_ _ <;> first | assumption | omega | (simp <;> omega)))) hbC; (first | (have hN := box_keep hbC; have nN := box_ne hfC) | (have hN := box_keep_drew hbC; have nN := box_ne_drew hfC) | (have nN := fresh_ne hfC hN; have hN := Ext.row hbC hN) | skip); have PC := Lib.hid hpC; have FC := Lib.hid gC; have sC := Ext.size eC; (first | (have zN := frozen_of_row _ _ 0 _ _ hN; have zN1 := frozen_of_row _ _ 1 _ _ hN; have yN := cell_of_row _ _ 0 _ _ _ hN; have yN1 := cell_of_row _ _ 1 _ _ _ hN; have HNN := Lib.hid hN; clear hN) | skip); clear hpC hfC hbC gC))
          all_goals
            go_wp2_with fail
            go_meet
            first
              | exact ⟨_, _, _, rfl, rfl, box_new PC.out FC.out sC, by (first | assumption | exact Ext.refl _ | exact (Ext.refl _).drew | (refine Ext.alloc ?_ _; first | assumption | exact Ext.refl _ | exact (Ext.refl _).drew) | (refine Ext.drew ?_; first | assumption | exact Ext.refl _ | exact (Ext.refl _).drew) | (refine Ext.drew ?_; refine Ext.alloc ?_ _; first | assumption | exact Ext.refl _ | exact (Ext.refl _).drew) | (refine Ext.setCell (Ext.setCell ?_ ?_ _) ?_ _ <;> first | assumption | omega | (simp <;> omega)))⟩
              | exact ⟨_, _, _, rfl, rfl, box_set HNN.out PC.out FC.out nN (by first | omega | (simp <;> omega)), by (first | assumption | exact Ext.refl _ | exact (Ext.refl _).drew | (refine Ext.alloc ?_ _; first | assumption | exact Ext.refl _ | exact (Ext.refl _).drew) | (refine Ext.drew ?_; first | assumption | exact Ext.refl _ | exact (Ext.refl _).drew) | (refine Ext.drew ?_; refine Ext.alloc ?_ _; first | assumption | exact Ext.refl _ | exact (Ext.refl _).drew) | (refine Ext.setCell (Ext.setCell ?_ ?_ _) ?_ _ <;> first | assumption | omega | (simp <;> omega)))⟩
        case rest =>
          obtain ⟨w11, rfl⟩ : ∃ w11 : World, w11 = wc := ⟨_, rfl⟩
          obtain ⟨N11, a11, c11, rfl, rfl, HC11, e11⟩ := hcut
          have F11 := Lib.hid (F9.out.trans e11)
          obtain ⟨b40, b41⟩ := (BX7.out.ext F11.out).cells
          clear e11
          go_wp2_with (first
            | (go_at_call 12; refine (OK13.out _ F11.out).mono ?_; rintro e w12 ⟨rfl, hb12⟩; have F12 := Lib.hid (Ext.call F11.out hb12); obtain ⟨b50, b51⟩ := (BX7.out.ext F12.out).cells; obtain ⟨c50, c51⟩ := (HC11.out.ext hb12).cells; have SM12 := Lib.hid (same_is x0 x0 _ _ y0 y0 _ (HC11.out.ext hb12).past.strs (BX7.out.ext F12.out).past.strs (by rw [HM.out]; omega) true (tt x0 y0)); clear hb12)
            | (go_at_call 11; refine SM12.out.mono ?_; rintro e w13 ⟨rfl, hb13⟩; have F13 := Lib.hid (Ext.call F12.out hb13); clear hb13)
            | (go_at_call 13; refine (alive_yes _).mono ?_; rintro e w' ⟨rfl, rfl⟩))
          go_ret
          exact ⟨rfl, Ext.below hB2 (E7.out.trans F13.out) hB2s⟩
  · have hn' : 1048576 < n := by omega
    go_enter Tryd.func5, Tryd.ntmps5
    go_wp2_with fail
    go_ret
    exact ⟨rfl, Below.refl _ _⟩

set_option maxRecDepth 100000 in
theorem own : ownKnob Tryd.prog.godebug = none := by kernel_rfl
set_option maxRecDepth 100000 in
theorem laidOut : laidOutB Tryd.prog = true := by kernel_rfl
set_option maxRecDepth 100000 in
theorem rowed : rowsOk Tryd.prog Tryd.f5.params.toList = true := by kernel_rfl
set_option maxRecDepth 100000 in
theorem varred : varsOk Tryd.prog Rows.fnDeskRunSpec.vars = true := by kernel_rfl
set_option maxRecDepth 100000 in
theorem resType : Tryd.f5.resultTypes = #[4] := by kernel_rfl

set_option maxRecDepth 100000 in
theorem contract (H : Type) (enc : TypeId × Value → H) (W : World) (base : Nat) (args : Array Value) (ds gs : List (DataW H)) (before : List MemPlace)
    (hval : ∀ (j : Nat) t v, Tryd.f5.params[j]? = some t → args[j]? = some v → Value.okWide Tryd.prog W .any base t v)
    (hW : DataW.Whole enc Tryd.prog Tryd.f5.params.toList Rows.fnDeskRunSpec.vars false W args.toList ds gs before) (hL : laidMetH Tryd.prog Rows.fnDeskRunRow.laid W) :
    Calls Tryd.prog 5 args W fun e W' => ∃ v, e = .returned v ∧ Rows.fnDeskRunSpec.post enc Tryd.prog Tryd.f5 false true false false W args v W' := by
  have hW' := hW
  obtain ⟨p, q, hA0, hV, rfl, hfz, hnd⟩ := hW
  have hA : DataW.TrodAll enc Tryd.prog W 0 (fun _ => true) true Tryd.f5.params.toList args.toList ds p := hA0
  rw [Tryd.params5] at hA hval
  obtain ⟨v0, vs0, d0, ds0, p0, q0, hargs, rfl, rfl, h0, r0⟩ := trodAll_cons hA
  obtain ⟨rfl, rfl, rfl⟩ := trodAll_nil r0
  obtain rfl : args = #[v0] := by cases args; simp_all
  obtain ⟨g0, g1, rfl⟩ := trodVars_len2 hV
  obtain ⟨n0, hcode0⟩ := open_code (hval 0 22 v0 rfl rfl) h0
  have t_ways : WaysAt W := waysAt (by kernel_rfl) hL (by simp [Rows.fnDeskRunRow])
  have t_dirs : DirsAt W := dirsAt (by kernel_rfl) hL (by simp [Rows.fnDeskRunRow])
  refine (walk v0 n0 W t_ways t_dirs hcode0).mono fun e W' ⟨he, hb⟩ => ?_
  subst he
  exact ⟨_, rfl, law_post laidOut rowed varred resType Tryd.underlying4 hW' ⟨rfl, rfl, rfl⟩ hb⟩

/-- A world for the witness: the settled one, the listed variables holding what their initialisers lay. -/
noncomputable def laidWorld (os : Os) : World := { World.holding Tryd.prog os ⟨#[], #[], []⟩ with heap := (((World.holding Tryd.prog os ⟨#[], #[], []⟩).heap.modify 0 fun
      | .cells _ t frozen => .cells #[.string ⟨#[101, 110, 119, 115]⟩, .string ⟨#[110, 119, 115, 101]⟩, .string ⟨#[119, 115, 101, 110]⟩, .string ⟨#[115, 101, 110, 119]⟩, .string ⟨#[101, 115, 119, 110]⟩, .string ⟨#[110, 101, 115, 119]⟩, .string ⟨#[119, 110, 101, 115]⟩, .string ⟨#[115, 119, 110, 101]⟩] t frozen
      | o => o).modify 2 fun
      | .cells _ t frozen => .cells #[.int .i64 1, .int .i64 0, .int .i64 0, .int .i64 1, .int .i64 (-1), .int .i64 0, .int .i64 0, .int .i64 (-1)] t frozen
      | o => o) }
set_option maxRecDepth 100000 in
theorem laid_met (os : Os) : laidMet Tryd.prog Rows.fnDeskRunRow.laid ((laidWorld os).forCall (fun _ _ => 0) ⟨#[], #[.slice none 0 0], []⟩).memory := laidMet_of_run' 8 (by kernel_rfl) (by kernel_rfl)
set_option maxRecDepth 100000 in
theorem reads (os : Os) {H : Type} (enc : TypeId × Value → H) : ∃ places, DataW.whole enc Tryd.prog ((laidWorld os).forCall (fun _ _ => 0) ⟨#[], #[.slice none 0 0], []⟩).memory Tryd.f5.params.toList Rows.fnDeskRunSpec.vars false (#[.slice none 0 0] : Array Value).toList 8 = some ([.nil], [Rows.laid_loop_example_turtlewalks_impl_wayLetters, Rows.laid_loop_example_turtlewalks_impl_directions], places) := ⟨MemPlace.row ⟨0, 0, none⟩ 8 ++ MemPlace.row ⟨2, 0, none⟩ 8, by kernel_rfl⟩

set_option maxRecDepth 100000 in
theorem lifted (os : Os) (started : os.Started) (H : Type) (enc : TypeId × Value → H) (F : Stop.Interp) :
    ReturnsInHanded {} Tryd.checked os 5 .any ((OpenSpec.ofChange Rows.fnDeskRunSpec).preRow enc Tryd.prog Tryd.f5 Rows.fnDeskRunRow.domain false Rows.fnDeskRunRow.laid) (((OpenSpec.ofChange Rows.fnDeskRunSpec).at F).post enc Tryd.prog Tryd.f5 false true false false) := by
  obtain ⟨places, hx⟩ := reads os enc
  refine returnsInHanded_of_row (C := Tryd.checked) (s := OpenSpec.ofChange Rows.fnDeskRunSpec) own started (by kernel_rfl) Tryd.func5
    (witness_row_at (enc := enc) (C := Tryd.checked) false (laidWorld os) #[.slice none 0 0] rfl (by kernel_rfl) (by kernel_rfl) (by kernel_rfl)
      (OpenSpec.preRow_of_cond 8 hx (by kernel_rfl) (fun k hk => by cases hk) (by kernel_rfl) (laid_met os))) ?_
  intro W base args ds gs before hval hW _ _ _ hL _ _
  exact contract H enc W base args ds gs before hval hW hL

set_option maxRecDepth 100000 in
theorem said : Rows.FnDeskRunSaid :=
  OpenClaim.holds_of_cond 5 Tryd.f5 rfl rfl rfl rfl rfl rfl rfl ⟨rfl, rfl, rfl, rfl, rfl⟩ rfl rfl rfl rfl rfl (by kernel_rfl) Tryd.func5 (by kernel_rfl)
    (of_decide_eq_true (by kernel_rfl)) (by unfold Func.isWrapper; first | (rw [if_pos (by decide +kernel)]; kernel_rfl) | (rw [if_neg (by decide +kernel)]; exact ⟨rfl, rfl⟩))
    (fun os started H enc _ F => by rw [OpenClaim.pre_eq_preRow]; exact lifted os started H enc F)

set_option maxRecDepth 100000 in
theorem plain (f : FuncId) (fn : Func) (hf : Tryd.pinned.checked.prog.funcNamed "loop.example/turtlewalks/laws.FnDeskRun" = some f) (hfn : Tryd.pinned.checked.prog.funcs[f]? = some fn) :
    false = Tryd.pinned.checked.prog.looks [] ∧ ∀ (j : Nat) t, fn.params[j]? = some t → Tryd.pinned.checked.prog.wantsStandIn t = false := by
  obtain rfl : f = 5 := Option.some.inj ((show Tryd.prog.funcNamed "loop.example/turtlewalks/laws.FnDeskRun" = some 5 by kernel_rfl).symm.trans hf) |>.symm
  obtain rfl : fn = Tryd.f5 := (Option.some.inj (Tryd.func5.symm.trans hfn)).symm
  refine ⟨by kernel_rfl, fun j t ht => ?_⟩
  rw [Tryd.params5] at ht
  have hm : t ∈ [22] := by simpa using Array.mem_of_getElem? ht
  have hall : ([22].all fun u => !Tryd.prog.wantsStandIn u) = true := by kernel_rfl
  exact (show Tryd.prog.wantsStandIn t = false by simpa using List.all_eq_true.1 hall t hm)

set_option maxRecDepth 100000 in
theorem card : Rows.FnDeskRunCardSaid :=
  Claim7.holds_tied_plain_at .later [] _ _ _ _ said (fun _ h => by cases h) (by kernel_rfl) (fun _ h => by cases h) fnDeskRun_row_tie rfl ⟨rfl, rfl⟩ (by kernel_rfl) rfl plain (by kernel_rfl)

end Go.Proofs.YtpkenccgjlhnlaaDoor.fnDeskRun
