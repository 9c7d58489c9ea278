/-
  FnDeskDo: for every code: what was done with the drawn desk can be undone, the desk behind it is one, the shape stays behind ways, other beginnings and first walks, and what cannot be done changes nothing. No condition beyond what the given statement itself bears.
-/
import Derived.Test.YtpkenccgjlhnlaaDoorDrawAvoid
import Derived.Test.YtpkenccgjlhnlaaDoorDrawDesk
import Derived.Test.YtpkenccgjlhnlaaDoorDeeds
import Derived.Test.YtpkenccgjlhnlaaDoorFirstOf
import Derived.Test.YtpkenccgjlhnlaaDoorFirstSpec
import Derived.Test.YtpkenccgjlhnlaaDoorRunPure
import Derived.Test.YtpkenccgjlhnlaaDoorShapeLaw
import Derived.Test.YtpkenccgjlhnlaaDoorDeskDone
import Derived.Test.YtpkenccgjlhnlaaDoorMarks
import Derived.Test.YtpkenccgjlhnlaaDoorStrs
import Derived.BigQuiet
import Derived.Deep.QuietTactic
import Derived.Test.YtpkenccgjlhnlaaDoorBase
import Derived.Test.YtpkenccgjlhnlaaDoorPure
import Derived.Test.YtpkenccgjlhnlaaDoorTabs
import Derived.Test.YtpkenccgjlhnlaaDoorRows
import Derived.WalkKit
import Derived.ProofKit
import Derived.OpenShut
import Derived.Carry
import Derived.WalkSmall
import Derived.MakeChecks
import Derived.Deep.DeepHandedRow
import Derived.Lib.LaidTab
import Derived.Test.YtpkenccgjlhnlaaDoorDraw
import Derived.ChangeSlices
import Derived.Test.YtpkenccgjlhnlaaDoorDeskDoImpl
import Derived.Test.YtpkenccgjlhnlaaDoorClosed
import Derived.Test.YtpkenccgjlhnlaaDoorCards
import Derived.Test.YtpkenccgjlhnlaaDoorTie

namespace Go.Proofs.YtpkenccgjlhnlaaDoor
open Go.RowKit

theorem Drawn.below_base {w w1 w2 : World} {R n p k : Nat} {v : Value} (h : Drawn w1 w2 R v n p k) (hb : Below w.heap.size w w1) (hR : w.heap.size ≤ R) : Below w.heap.size w w2 := by
  obtain ⟨_, _, _, hg⟩ := h
  exact hb.grown hg hb.size (fun j hj => by cases hj; exact hR)



end Go.Proofs.YtpkenccgjlhnlaaDoor

namespace Go.Proofs.YtpkenccgjlhnlaaDoor
open Go.RowKit

theorem code_alloc {w : World} {v : Value} {n : Nat} (h : CodeAt w v n) (o : Obj) : CodeAt (w.alloc o) v n := by
  rcases h with h | ⟨a, cap, hv, hl, hc⟩
  · exact .inl h
  · refine .inr ⟨a, cap, hv, hl, fun j hj => ?_⟩
    obtain ⟨b, h1, h2, h3⟩ := hc j hj
    exact ⟨b, h1, h2, (((Below.refl w.heap.size w).alloc (Nat.le_refl _) _).cell (World.block_lt_of_cell? w _ h3)).trans h3⟩
theorem code_value {w : World} {v : Value} {n : Nat} (h : CodeAt w v n) : ∃ a cap, v = .slice a n cap := by
  rcases h with ⟨rfl, rfl⟩ | ⟨a, cap, rfl, _⟩
  · exact ⟨_, _, rfl⟩
  · exact ⟨_, _, rfl⟩
/-- A drawn desk. -/
structure Desk41 (w : World) (s : ByteArray) (u : Value) (zs : List ByteArray) : Prop where
  past : PastAt w u zs
  hs : s.size ≤ 41
  hl : zs.length ≤ 9
  hz : ∀ z ∈ zs, z.size ≤ 41

theorem Desk41.ext {w X : World} {s : ByteArray} {u : Value} {zs : List ByteArray} (h : Desk41 w s u zs) (e : Ext w X) : Desk41 X s u zs := ⟨e.past h.past, h.hs, h.hl, h.hz⟩


theorem own_noneD (W : World) (t : TypeId) (base : Nat) (hb : base ≤ W.heap.size) : (W.alloc (.cells #[] t)).ownsRow base t 2 (.slice (some ⟨W.heap.size, 0, none⟩) 0 0) 0 [] :=
  ⟨rfl, .inr ⟨W.heap.size, 0, #[], rfl, hb, heap_alloc_new W _, Nat.le_refl _, by decide, rfl, rfl⟩⟩
/-! ### the reader stays while other memory is written -/
theorem cell_not {X : World} {B : Nat} {cs : Array Value} {t : TypeId} {a : Addr} {b : Int} (h : X.heap[B]? = some (.cells cs t (0, 0))) (hn : ∀ (j : Nat) (b : Int), cs[j]? ≠ some (.int .u8 b)) (hc : X.cell? a = some (.int .u8 b)) : a.block ≠ B := by
  intro e
  subst e
  unfold World.cell? at hc
  rw [h] at hc
  simp only at hc
  split at hc
  · cases hc
  · exact hn _ _ hc
theorem ReaderAt.put {X : World} {R B n p : Nat} {v : Value} {cs : Array Value} {t : TypeId} (h : ReaderAt X R v n p) (hB : X.heap[B]? = some (.cells cs t (0, 0))) (hn : ∀ (j : Nat) (b : Int), cs[j]? ≠ some (.int .u8 b)) (hR : R ≠ B) (x y : Value) : ReaderAt ((X.setCell ⟨B, 0, none⟩ x).setCell ⟨B, 1, none⟩ y) R v n p := by
  have hk : ∀ b, b ≠ B → ((X.setCell ⟨B, 0, none⟩ x).setCell ⟨B, 1, none⟩ y).heap[b]? = X.heap[b]? := fun b hb => (heap_setCell_other _ ⟨B, 1, none⟩ b y hb).trans (heap_setCell_other _ ⟨B, 0, none⟩ b x hb)
  refine ⟨(hk R hR).trans h.cells, ?_, h.few, h.off⟩
  rcases h.code with hc | ⟨a, cap, hv, hl, hc⟩
  · exact .inl hc
  · refine .inr ⟨a, cap, hv, hl, fun i hi => ?_⟩
    obtain ⟨b, h1, h2, h3⟩ := hc i hi
    refine ⟨b, h1, h2, ?_⟩
    rw [← h3]
    exact World.cell?_of_block (hk _ (cell_not hB hn h3))
theorem read_drew {X : World} {R n p : Nat} {v : Value} (h : ReaderAt X R v n p) : ReaderAt X.drew R v n p := ⟨h.cells, h.code, h.few, h.off⟩
theorem not_u8_desk (s : ByteArray) (a : Option Addr) (n c : Nat) : ∀ (j : Nat) (b : Int), (#[.string s, .slice a n c] : Array Value)[j]? ≠ some (.int .u8 b)
  | 0, _ => by simp
  | 1, _ => by simp
  | j + 2, _ => by simp
theorem below2 {w X : World} {A N : Nat} (h : Below A w X) (hN : A ≤ N) (x y : Value) : Below A w ((X.setCell ⟨N, 0, none⟩ x).setCell ⟨N, 1, none⟩ y) := (h.setCell hN x).setCell hN y

set_option maxRecDepth 100000 in
set_option maxHeartbeats 1600000 in
theorem deeds_d (s : ByteArray) (w W : World) (R n p k : Nat) (v : Value) (h : Drawn w W R v n p k) (hp : p + k ≤ 80000) (hs : s.size ≤ 41) :
    Calls Tryd.prog 53 #[.pointer (some ⟨R, 0, none⟩), .string s] W fun e w' => ∃ (g cap : Nat) (ds : List (Int × Int)), e = .returned (.slice (some ⟨g, 0, none⟩) ds.length cap) ∧ w'.ownsRow W.heap.size 27 2 (.slice (some ⟨g, 0, none⟩) ds.length cap) ds.length (pairCells ds) ∧ ds.length ≤ 5 ∧ (∀ d ∈ ds, (0 ≤ d.1 ∧ d.1 ≤ 11) ∧ -1 ≤ d.2 ∧ d.2 ≤ 100) ∧ Drawn w w' R v n p (k + 31) := by
  obtain ⟨i0, hi0, hz0, hz1, hz2⟩ := info_parts deedInfo
  have hown0 := own_noneD W 27 W.heap.size (Nat.le_refl _)
  have HO := Lib.hid hown0
  have HD0 := Lib.hid (h.alloc (.cells #[] 27))
  have hlR := h.lt
  have H0 := Lib.hid h
  clear hown0 h
  go_enter Tryd.func53, Tryd.ntmps53
  go_wp2_with (first
    | (go_at_call 66; refine (pick_d HD0.out (by omega) (by omega) (by omega)).mono ?_; rintro e w5 ⟨y, rfl, hy0, hy1, hd5, hg5⟩; have OWN5 := Lib.hid (HO.out.kept hg5 (.inr (fun h9 => by have h8 : W.heap.size = R := Option.some.inj h9; omega))); have HD5 := Lib.hid hd5; have hz5 : W.heap.size ≤ w5.heap.size := Nat.le_trans (by simp) hg5.size; clear hd5 hg5))
  obtain ⟨a, rfl⟩ := Int.eq_ofNat_of_zero_le hy0
  go_loopw [5, 6] (fun o i wr => ∃ (g cap j m : Nat) (ds : List (Int × Int)), o = .slice (some ⟨g, 0, none⟩) ds.length cap ∧ i = .int .i64 j ∧ ds.length + j ≤ 5 ∧ m + 5 * j ≤ k + 26 ∧ Hid (wr.ownsRow W.heap.size 27 2 (.slice (some ⟨g, 0, none⟩) ds.length cap) ds.length (pairCells ds)) ∧ Hid (Drawn w wr R v n p m) ∧ Hid (∀ d ∈ ds, (0 ≤ d.1 ∧ d.1 ≤ 11) ∧ -1 ≤ d.2 ∧ d.2 ≤ 100) ∧ W.heap.size ≤ wr.heap.size) (fun _ i _ => (intOf i).toNat)
  case atStart => exact ⟨_, _, a, k + 1, [], rfl, rfl, by simp; omega, by omega, OWN5.out, HD5.out, by show ∀ d ∈ ([] : List (Int × Int)), _; simp, hz5⟩
  case round =>
    obtain ⟨g, cap, j, m, ds, rfl, rfl, hdj, hmj, HOWN, HD, HK, hszr⟩ := hrel
    by_cases hlt : 0 < j
    · have hgb := (HOWN.out.lt g rfl).1
      go_wp2_with (first
        | (go_at_call 37; refine (deed_g HD.out (by omega) hs).mono ?_; rintro e w3 ⟨K, M, rfl, hK0, hK1, hM0, hM1, hd3, hg3⟩; have OWN3 := Lib.hid (HOWN.out.kept hg3 (.inr (fun h9 => by have h8 : g = R := Option.some.inj h9; omega))); have HD3 := Lib.hid hd3; have hs3 : W.heap.size ≤ w3.heap.size := Nat.le_trans hszr hg3.size; clear hd3 hg3)
        | (at_builtin; refine wpList_append_lies _ rfl _ _ 41 rfl W.heap.size 27 i0 _ 2 16 Tryd.underlying41 hi0 hz0 hz1 hz2 rfl (by omega) _ ds.length (pairCells ds) rfl (OWN3.out.alloc _) ⟨w3.heap.size, 0, none⟩ 1 1 [.int .i64 K, .int .i64 M] rfl rfl (World.news_of_block (cs := #[.int .i64 K, .int .i64 M]) (t := 27) (fr := (0, 0)) (heap_alloc_new w3 _)) (by simp [Value.oneCell']) (by omega) (by unfold maxLen; omega) (by omega) (by simp; omega) (w3.heap.size + 1) (by simp) ?_; intro g4 cap4 w4 hown4 hgrow4 hat4 hlt4))
      go_roundw
      case rel =>
        have e1 : (ds ++ [(K, M)]).length = ds.length + 1 := by simp
        have e2 : pairCells (ds ++ [(K, M)]) = pairCells ds ++ [.int .i64 K, .int .i64 M] := by simp [pairCells]
        have hb4 : Below W.heap.size w3 w4 := ((Below.refl W.heap.size w3).alloc hs3 _).grown hgrow4 (by simp; omega) (fun i hi => by have h8 : g = i := Option.some.inj hi; omega)
        refine ⟨g4, cap4, j - 1, m + 5, ds ++ [(K, M)], by rw [e1], by congr 1; omega, by omega, by omega, ?_, HD3.out.belowB H0.out hb4, ?_, ?_⟩
        · show World.ownsRow _ _ _ _ _ _ _
          rw [e1, e2]
          exact hown4
        · intro d hd
          rcases List.mem_append.1 hd with h1 | h1
          · exact HK.out d h1
          · rw [List.mem_singleton.1 h1]
            exact ⟨⟨hK0, hK1⟩, hM0, hM1⟩
        · exact Nat.le_trans hs3 hb4.size
      case measure => simp [intOf]; omega
    · obtain rfl : j = 0 := by omega
      go_wp2_with fail
      go_ret
      exact ⟨g, cap, ds, rfl, HOWN.out, by omega, HK.out, HD.out.mono (by omega)⟩

theorem four_bc {X : World} {B C : Nat} {tB tC : TypeId} {b0 b1 c0 c1 : Value} (rB : X.heap[B]? = some (.cells #[b0, b1] tB (0, 0))) (rC : X.heap[C]? = some (.cells #[c0, c1] tC (0, 0))) (hne : B ≠ C) (x y k m : Value) :
    ((((X.setCell ⟨B, 0, none⟩ x).setCell ⟨B, 1, none⟩ y).setCell ⟨C, 0, none⟩ k).setCell ⟨C, 1, none⟩ m).heap[B]? = some (.cells #[x, y] tB (0, 0)) ∧ ((((X.setCell ⟨B, 0, none⟩ x).setCell ⟨B, 1, none⟩ y).setCell ⟨C, 0, none⟩ k).setCell ⟨C, 1, none⟩ m).heap[C]? = some (.cells #[k, m] tC (0, 0)) :=
  ⟨set_far2 (two_put rB x y) hne k m, two_put (set_far2 rC (Ne.symm hne) x y) k m⟩
theorem two_c {X : World} {B C : Nat} {tB tC : TypeId} {x y c0 c1 : Value} (rB : X.heap[B]? = some (.cells #[x, y] tB (0, 0))) (rC : X.heap[C]? = some (.cells #[c0, c1] tC (0, 0))) (hne : B ≠ C) (k m : Value) :
    ((X.setCell ⟨C, 0, none⟩ k).setCell ⟨C, 1, none⟩ m).heap[B]? = some (.cells #[x, y] tB (0, 0)) ∧ ((X.setCell ⟨C, 0, none⟩ k).setCell ⟨C, 1, none⟩ m).heap[C]? = some (.cells #[k, m] tC (0, 0)) :=
  ⟨set_far2 rB hne k m, two_put rC k m⟩
theorem cells4 {Z : World} {B C : Nat} {tB tC : TypeId} {x y k m : Value} (q : Z.heap[B]? = some (.cells #[x, y] tB (0, 0)) ∧ Z.heap[C]? = some (.cells #[k, m] tC (0, 0))) : Z.cell? ⟨B, 0, none⟩ = some x ∧ Z.cell? ⟨B, 1, none⟩ = some y ∧ Z.cell? ⟨C, 0, none⟩ = some k ∧ Z.cell? ⟨C, 1, none⟩ = some m :=
  ⟨cell_of_row _ _ 0 _ _ _ q.1, cell_of_row _ _ 1 _ _ _ q.1, cell_of_row _ _ 0 _ _ _ q.2, cell_of_row _ _ 1 _ _ _ q.2⟩
theorem past_put2 {w : World} {v : Value} {ys : List ByteArray} (h : PastAt w v ys) {N : Nat} (hne : v.ownBlock ≠ some N) (x y : Value) : PastAt ((w.setCell ⟨N, 0, none⟩ x).setCell ⟨N, 1, none⟩ y) v ys := past_put (past_put h _ _ hne) _ _ hne

def boxesDD (w : World) : World := (w.alloc (.cells #[.string ⟨#[]⟩, .slice none 0 0] 25)).alloc (.cells #[.int .i64 0, .int .i64 0] 27)
theorem boxesDD_in (w : World) : Ext w (boxesDD w) ∧ (boxesDD w).heap.size = w.heap.size + 2 ∧ (boxesDD w).heap[w.heap.size]? = some (.cells #[.string ⟨#[]⟩, .slice none 0 0] 25 (0, 0)) ∧ (boxesDD w).heap[w.heap.size + 1]? = some (.cells #[.int .i64 0, .int .i64 0] 27 (0, 0)) := by
  unfold boxesDD
  exact ⟨((Ext.refl w).alloc _).alloc _, by simp, heap_alloc2_old _ _ _, heap_alloc2_new _ _ _⟩
set_option maxRecDepth 100000 in
set_option maxHeartbeats 1600000 in
theorem drawDeskDo (v : Value) (n : Nat) (w : World) (h : CodeAt w v n) :
    Calls Tryd.prog 8 #[v] w fun e w' => ∃ (s : ByteArray) (u : Value) (zs : List ByteArray) (K M : Int), e = .returned (.tuple #[.agg #[.string s, u], .agg #[.int .i64 K, .int .i64 M]]) ∧ Desk41 w' s u zs ∧ ((0 ≤ K ∧ K ≤ 11) ∧ -1 ≤ M ∧ M ≤ 100) ∧ Below w.heap.size w w' := by
  obtain ⟨hbW, hsW', hzB, hzC⟩ := boxesDD_in w
  have hsW : w.heap.size + 1 < (boxesDD w).heap.size := by omega
  clear hsW'
  have hc := code_alloc (code_alloc h (.cells #[.string ⟨#[]⟩, .slice none 0 0] 25)) (.cells #[.int .i64 0, .int .i64 0] 27)
  obtain ⟨W, hW⟩ : ∃ W, boxesDD w = W := ⟨_, rfl⟩
  rw [hW] at hbW hsW hzB hzC
  unfold boxesDD at hW
  rw [hW] at hc
  have HW := Lib.hid hW
  have HZB := Lib.hid hzB
  have HZC := Lib.hid hzC
  clear hW hzB hzC h
  go_enter Tryd.func8, Tryd.ntmps8
  go_wp2_with fail
  rw [HW.out]
  go_upto_region 3 with (first
    | (go_at_call 35; refine (open_any v n _ hc).mono ?_; rintro e w1 ⟨rfl, ⟨v', n', hr⟩, hb1⟩)
    | (go_at_call 36; refine (desk_d w1 w1 _ n' 0 0 v' _ (Drawn.start hr) (by omega) (by omega) (by omega)).mono ?_; rintro e w3 ⟨s, u, zs, rfl, hp3, hf3, hs3, hl3, hz3, hd3⟩; have hb3 := hd3.below_base hb1 (Nat.le_refl _); obtain ⟨aU, cU, hvU⟩ := past_slice hp3 (M := zs.length) rfl; subst hvU; have HZ3 := Lib.hid hz3; have HP3 := Lib.hid hp3; have HF3 := Lib.hid hf3; have HD3 := Lib.hid hd3; clear hz3 hp3 hf3 hd3))
  have hsb := hb1.size
  have hltR := (Drawn.start hr).lt
  have hs13 : w1.heap.size ≤ w3.heap.size := by
    obtain ⟨_, _, _, hg⟩ := HD3.out
    exact hg.size
  obtain ⟨p3, hp3, hr3, hg3⟩ := HD3.out.alloc (.cells #[.string s, .slice aU zs.length cU] 25)
  have hRow3 := heap_alloc_new w3 (.cells #[.string s, .slice aU zs.length cU] 25)
  have hx3 : Ext w3 (w3.alloc (.cells #[.string s, .slice aU zs.length cU] 25)) := (Ext.refl w3).alloc _
  obtain ⟨w4, hw4⟩ : ∃ w4, w3.alloc (.cells #[.string s, .slice aU zs.length cU] 25) = w4 := ⟨_, rfl⟩
  obtain ⟨D, hD⟩ : ∃ D, w3.heap.size = D := ⟨_, rfl⟩
  rw [hw4] at hr3 hg3 hRow3 hx3 ⊢
  rw [hD] at hRow3 hs13 ⊢
  clear hw4
  have rB : w4.heap[w.heap.size]? = _ := (hx3.row ((hb3.block w.heap.size (by omega)).trans HZB.out))
  have rC : w4.heap[w.heap.size + 1]? = _ := (hx3.row ((hb3.block (w.heap.size + 1) (by omega)).trans HZC.out))
  have hb4 : Below w.heap.size w w4 := (hbW.trans (hb3.mono (by omega))).trans (Below.mono hx3 (by have := hb3.size; omega))
  have o0 := cell_of_row _ _ 0 _ _ _ hRow3
  have o1 := cell_of_row _ _ 1 _ _ _ hRow3
  have RD := Lib.hid hRow3
  have RB := Lib.hid rB
  have RC := Lib.hid rC
  have R3 := Lib.hid hr3
  have HP4 := Lib.hid (hx3.past HP3.out)
  have HNB : Hid ((Value.slice aU zs.length cU).ownBlock ≠ some w.heap.size) := fun e => by have := HF3.out _ e; omega
  have HNC : Hid ((Value.slice aU zs.length cU).ownBlock ≠ some (w.heap.size + 1)) := fun e => by have := HF3.out _ e; omega
  have HNR : Hid ((Value.slice aU zs.length cU).ownBlock ≠ some W.heap.size) := fun e => by
    have h1 := HF3.out _ e
    have h2 := (Drawn.start hr).lt
    omega
  have R3p : Hid (ReaderAt ((w4.setCell ⟨w.heap.size, 0, none⟩ (.string s)).setCell ⟨w.heap.size, 1, none⟩ (.slice aU zs.length cU)) W.heap.size v' n' p3) := hr3.put rB (not_u8_desk _ _ _ _) (by omega) _ _
  clear hr3 rB rC hRow3 hg3
  have fB0 := frozen_of_row _ _ 0 _ _ RB.out
  have fB1 := frozen_of_row _ _ 1 _ _ RB.out
  have fC0 := frozen_of_row _ _ 0 _ _ RC.out
  have fC1 := frozen_of_row _ _ 1 _ _ RC.out
  have gB0 := cell_of_row _ _ 0 _ _ _ RB.out
  have gB1 := cell_of_row _ _ 1 _ _ _ RB.out
  have gC0 := cell_of_row _ _ 0 _ _ _ RC.out
  have gC1 := cell_of_row _ _ 1 _ _ _ RC.out
  go_region_held3 (fun w' => w'.cell? ⟨D, 0, none⟩ = some (.string s) ∧ w'.cell? ⟨D, 1, none⟩ = some (.slice aU zs.length cU))
    (first
      | exact ⟨o0, o1⟩
      | exact ⟨x0, x1⟩
      | exact other_cells (by omega) x0 x1
      | exact other_cells (by omega) o0 o1
      | exact other_cells (by omega) (other_cells (by omega) x0 x1).1 (other_cells (by omega) x0 x1).2
      | exact other_cells (by omega) (other_cells (by omega) o0 o1).1 (other_cells (by omega) o0 o1).2)
    (first
      | (go_at_call 37; refine (deed_d s _ _ W.heap.size n' p3 0 v' (Drawn.start (by first | exact R3.out | exact read_drew R3.out | exact R3p.out | exact read_drew R3p.out)) (by omega) hs3).mono ?_; rintro e wx ⟨K, M, rfl, hK0, hK1, hM0, hM1, ⟨px, hpx, hrx, hgx⟩⟩; have rDx : wx.heap[D]? = _ := grow_row' hgx (by first | exact RD.out | exact set_far2 RD.out (by omega) _ _) (by omega); have rBx : wx.heap[w.heap.size]? = _ := grow_row' hgx (by first | exact RB.out | exact two_put RB.out _ _) (by omega); have rCx : wx.heap[w.heap.size + 1]? = _ := grow_row' hgx (by first | exact RC.out | exact set_far2 RC.out (by omega) _ _) (by omega); have HPx := Lib.hid (past_grown (by first | exact HP4.out | exact past_put (past_put HP4.out _ _ HNB.out) _ _ HNB.out) hgx HNR.out); have hbx : Below w.heap.size w wx := (by first | exact (hb4.drew).grown hgx hb4.size (fun k e => by cases e; omega) | exact ((below2 hb4 (Nat.le_refl _) _ _).drew).grown hgx (below2 hb4 (Nat.le_refl _) _ _).size (fun k e => by cases e; omega) | exact hb4.grown hgx hb4.size (fun k e => by cases e; omega) | exact (below2 hb4 (Nat.le_refl _) _ _).grown hgx (below2 hb4 (Nat.le_refl _) _ _).size (fun k e => by cases e; omega)); have x0 := cell_of_row _ _ 0 _ _ _ rDx; have x1 := cell_of_row _ _ 1 _ _ _ rDx; have yB0 := frozen_of_row _ _ 0 _ _ rBx; have yB1 := frozen_of_row _ _ 1 _ _ rBx; have yC0 := frozen_of_row _ _ 0 _ _ rCx; have yC1 := frozen_of_row _ _ 1 _ _ rCx; have zB0 := cell_of_row _ _ 0 _ _ _ rBx; have zB1 := cell_of_row _ _ 1 _ _ _ rBx; have zC0 := cell_of_row _ _ 0 _ _ _ rCx; have zC1 := cell_of_row _ _ 1 _ _ _ rCx; have RBx := Lib.hid rBx; have RCx := Lib.hid rCx; clear rBx rCx rDx hrx hgx))
  all_goals
    go_wp2
    first
      | (have q := four_bc RBx.out RCx.out (by omega) (.string s) (.slice aU zs.length cU) (.int .i64 K) (.int .i64 M); obtain ⟨e0, e1, e2, e3⟩ := cells4 q; refine bodyPost_ret (v := .tuple #[.agg #[.string s, .slice aU zs.length cU], .agg #[.int .i64 K, .int .i64 M]]) (by simp [results, Tryd.results8, go_sem, e0, e1, e2, e3]) rfl ⟨s, _, zs, K, M, rfl, ⟨past_put2 (past_put2 HPx.out HNB.out _ _) HNC.out _ _, hs3, hl3, HZ3.out⟩, ⟨⟨hK0, hK1⟩, hM0, hM1⟩, below2 (below2 hbx (Nat.le_refl _) _ _) (by omega) _ _⟩)
      | (have q := four_bc RCx.out RBx.out (by omega) (.int .i64 K) (.int .i64 M) (.string s) (.slice aU zs.length cU); have q := And.symm q; obtain ⟨e0, e1, e2, e3⟩ := cells4 q; refine bodyPost_ret (v := .tuple #[.agg #[.string s, .slice aU zs.length cU], .agg #[.int .i64 K, .int .i64 M]]) (by simp [results, Tryd.results8, go_sem, e0, e1, e2, e3]) rfl ⟨s, _, zs, K, M, rfl, ⟨past_put2 (past_put2 HPx.out HNC.out _ _) HNB.out _ _, hs3, hl3, HZ3.out⟩, ⟨⟨hK0, hK1⟩, hM0, hM1⟩, below2 (below2 hbx (by omega) _ _) (Nat.le_refl _) _ _⟩)
      | (have q := two_c RBx.out RCx.out (by omega) (.int .i64 K) (.int .i64 M); obtain ⟨e0, e1, e2, e3⟩ := cells4 q; refine bodyPost_ret (v := .tuple #[.agg #[.string s, .slice aU zs.length cU], .agg #[.int .i64 K, .int .i64 M]]) (by simp [results, Tryd.results8, go_sem, e0, e1, e2, e3]) rfl ⟨s, _, zs, K, M, rfl, ⟨past_put2 HPx.out HNC.out _ _, hs3, hl3, HZ3.out⟩, ⟨⟨hK0, hK1⟩, hM0, hM1⟩, below2 hbx (by omega) _ _⟩)

end Go.Proofs.YtpkenccgjlhnlaaDoor

namespace Go.Proofs.YtpkenccgjlhnlaaDoor
open Go.RowKit

theorem eq_strs (X : List UInt8) (s : ByteArray) : ((Tw.str X).toList == s.toList) = (X == s.data.toList) := by
  rw [Lib.toList_data, Lib.toList_data]
  rfl
def sameShape (l m : List UInt8) : Bool := Tw.closed l && Tw.closed m && (firstRes l == firstRes m)

set_option maxHeartbeats 800000 in
theorem implSameShape (s t : ByteArray) (w : World) (hs : s.size ≤ 1048576) (ht : t.size ≤ 1048576) (hw : WaysAt w) (hd : DirsAt w) :
    Calls Tryd.prog 15 #[.string s, .string t] w fun e w' => e = .returned (.bool (sameShape s.data.toList t.data.toList)) ∧ Below w.heap.size w w' := by
  have h1 := fun W => implFirstOf s W hs
  have h2 := fun W => implFirstOf t W ht
  obtain ⟨c, hc⟩ : ∃ c, sameShape s.data.toList t.data.toList = c := ⟨_, rfl⟩
  rw [hc]
  unfold sameShape at hc
  have he := eq_strs (firstRes s.data.toList) (Tw.str (firstRes t.data.toList))
  rw [Tw.str_data] at he
  rw [← he] at hc
  clear he
  obtain ⟨x, hx⟩ : ∃ x, Tw.str (firstRes s.data.toList) = x := ⟨_, rfl⟩
  obtain ⟨y, hy⟩ : ∃ y, Tw.str (firstRes t.data.toList) = y := ⟨_, rfl⟩
  rw [hx] at h1 hc
  rw [hy] at h2 hc
  have H1 := Lib.hid h1
  have H2 := Lib.hid h2
  clear h1 h2 hx hy
  cases ha : Tw.closed s.data.toList <;> cases hb : Tw.closed t.data.toList
  all_goals
    rw [ha, hb] at hc
    have HA := Lib.hid ha
    have HB := Lib.hid hb
    have HCC := Lib.hid hc
    clear ha hb hc
    go_enter Tryd.func15, Tryd.ntmps15
    go_wp2_with (first
      | (go_at_call 45; first | (have hq := hb1; refine (H2.out _ (hw.below' hb1) (hd.below' hb1)).mono ?_; rw [HB.out]; rintro e w2 ⟨rfl, hb2⟩) | (refine (H1.out _ hw hd).mono ?_; rw [HA.out]; rintro e w1 ⟨rfl, hb1⟩)))
    go_ret
    exact ⟨ret_bool (by rw [← HCC.out]; simp), hb1.trans (hb2.mono hb1.size)⟩


end Go.Proofs.YtpkenccgjlhnlaaDoor

namespace Go.Proofs.YtpkenccgjlhnlaaDoor
open Go.RowKit

theorem do_not {s : ByteArray} {zs : List ByteArray} {k n : Int} {x : ByteArray} {ys : List ByteArray} (h : deskDo s zs k n = (x, ys, false)) (hok : deskOk s zs = true) : x = s ∧ ys = zs := by
  unfold deskDo at h
  rw [if_pos hok] at h
  unfold deskDone at h
  split at h
  · simp at h
  · split at h
    · simp at h
    · simp only [Prod.mk.injEq] at h
      exact ⟨h.1.symm, h.2.1.symm⟩
theorem do_ok {s : ByteArray} {zs : List ByteArray} {k n : Int} {x : ByteArray} {ys : List ByteArray} (h : deskDo s zs k n = (x, ys, true)) : deskOk s zs = true ∧ deskOk x ys = true := by
  by_cases hok : deskOk s zs = true
  · have := deskOk_do hok k n
    rw [h] at this
    exact ⟨hok, this⟩
  · unfold deskDo at h
    rw [if_neg hok] at h
    simp at h
theorem do_parts {s : ByteArray} {zs : List ByteArray} {k n : Int} {x : ByteArray} {ys : List ByteArray} (h : deskDo s zs k n = (x, ys, true)) (hk : k ≠ 5) : made s k n = (x, true) ∧ x ≠ s ∧ ys = (zs ++ [s]).drop (zs.length + 1 - 8) := by
  have hok := (do_ok h).1
  unfold deskDo at h
  rw [if_pos hok] at h
  unfold deskDone at h
  rw [if_neg (fun h9 => hk h9.1)] at h
  split at h
  · rename_i hm
    simp only [Prod.mk.injEq, and_true] at h
    obtain ⟨h1, h2⟩ := h
    refine ⟨?_, by rw [← h1]; exact hm.2, h2.symm⟩
    rw [← h1]
    exact Prod.ext rfl hm.1
  · simp at h
/-- Put back, it is the desk of before. -/
theorem do_undo {s : ByteArray} {zs : List ByteArray} {k n : Int} {x : ByteArray} {ys : List ByteArray} (h : deskDo s zs k n = (x, ys, true)) (hk : k ≠ 5) (hl : zs.length < 8) : deskDo x ys 5 0 = (s, zs, true) := by
  obtain ⟨_, hok⟩ := do_ok h
  obtain ⟨_, _, hys⟩ := do_parts h hk
  have e : ys = zs ++ [s] := by rw [hys, show zs.length + 1 - 8 = 0 by omega]; rfl
  unfold deskDo
  rw [if_pos hok]
  unfold deskDone
  rw [e, if_pos ⟨rfl, rfl, by simp⟩]
  simp
/-- Ways, other beginnings and first walks have the same shape. -/
theorem do_shape {s : ByteArray} {zs : List ByteArray} {k n : Int} {x : ByteArray} {ys : List ByteArray} (h : deskDo s zs k n = (x, ys, true)) (hk : k = 2 ∨ k = 3 ∨ k = 4) (hc : Tw.closed s.data.toList = true) : sameShape x.data.toList s.data.toList = true := by
  obtain ⟨hm, _, _⟩ := do_parts h (by omega)
  have key : ∀ l : List UInt8, Tw.shape s.data.toList l → sameShape l s.data.toList = true := fun l hl => by
    unfold sameShape
    rw [Tw.closed_shape hc hl, hc, firstRes_yes (Tw.closed_shape hc hl), firstRes_yes hc, Tw.first_same hc hl]
    simp
  have hself := Tw.shape_self hc
  rcases hk with rfl | rfl | rfl
  · have e : made s 2 n = madeWay s n := rfl
    rw [e] at hm
    unfold madeWay at hm
    split at hm
    · rename_i hn
      have hx : x = Tw.str (Tw.inWay s.data.toList n) := (congrArg Prod.fst hm).symm
      rw [hx, Tw.str_data, Tw.inWay_eq (Tw.closed_ok hc) hn.1 hn.2]
      exact key _ (Tw.shape_way hself)
    · simp at hm
  · have e : made s 3 n = madeOn s n := rfl
    rw [e] at hm
    unfold madeOn at hm
    split at hm
    · rename_i hn
      have hx : x = Tw.str (Tw.movedOn s.data.toList n) := (congrArg Prod.fst hm).symm
      obtain ⟨m, rfl⟩ : ∃ m : Nat, n = m := ⟨n.toNat, by omega⟩
      have hml : m < s.data.toList.length := by rw [size_data]; omega
      rw [hx, Tw.str_data, Tw.movedOn_eq hc hml]
      exact key _ (Tw.shape_moved hself hml)
    · simp at hm
  · have e : made s 4 n = madeFirst s n := rfl
    rw [e] at hm
    unfold madeFirst at hm
    split at hm
    · have hx : x = Tw.str (firstRes s.data.toList) := (congrArg Prod.fst hm).symm
      rw [hx, Tw.str_data, firstRes_yes hc]
      exact key _ (Tw.first_shape hc)
    · simp at hm
end Go.Proofs.YtpkenccgjlhnlaaDoor

namespace Go.Proofs.YtpkenccgjlhnlaaDoor
open Go.RowKit

theorem strs_cell {w : World} {v : Value} {zs : List ByteArray} {a : Option Addr} {c : Nat} (h : StrsAt w v zs) (hv : v = .slice a zs.length c) {j : Nat} (hj : j < zs.length) : ∃ b z, a = some b ∧ zs[j]? = some z ∧ w.cell? (b.add j) = some (.string z) := by
  rcases h with ⟨rfl, rfl⟩ | ⟨b, cap, rfl, hl, hc⟩
  · simp at hj
  · cases hv
    exact ⟨b, zs[j], rfl, List.getElem?_eq_getElem hj, hc j _ (List.getElem?_eq_getElem hj)⟩
theorem take_same {ys zs : List ByteArray} {j : Nat} {y : ByteArray} (h : ys.take j = zs.take j) (hy : ys[j]? = some y) (hz : zs[j]? = some y) : ys.take (j + 1) = zs.take (j + 1) := by
  rw [List.take_add_one, List.take_add_one, h, hy, hz]
set_option maxHeartbeats 800000 in
theorem sameTexts_any (v u : Value) (ys zs : List ByteArray) (w : World) (hv : StrsAt w v ys) (hu : StrsAt w u zs) (hm : zs.length ≤ 1048577) :
    Calls Tryd.prog 27 #[v, u] w fun e w' => e = .returned (.bool (decide (ys = zs))) ∧ Below w.heap.size w w' := by
  obtain ⟨a, c, rfl⟩ := strs_value hv
  obtain ⟨b, d, rfl⟩ := strs_value hu
  have HV := Lib.hid hv
  have HU := Lib.hid hu
  clear hv hu
  by_cases hlen : ys.length = zs.length
  · obtain ⟨n, hN⟩ : ∃ n, zs.length = n := ⟨_, rfl⟩
    have HY := Lib.hid (hlen.trans hN)
    have HZ := Lib.hid hN
    rw [hN] at hlen
    rw [hlen, hN]
    rw [hN] at hm
    clear hlen hN
    go_enter Tryd.func27, Tryd.ntmps27
    go_wp2
    go_loopw [5] (fun i wr => ∃ j : Nat, j ≤ n ∧ i = .int .i64 j ∧ Hid (ys.take j = zs.take j) ∧ Below w.heap.size w wr) (fun i _ => n - (intOf i).toNat)
    case atStart => exact ⟨0, Nat.zero_le _, rfl, rfl, Below.refl _ _⟩
    case round =>
      obtain ⟨j, hj, rfl, HT, hb⟩ := hrel
      by_cases hlt : j < n
      · have hk3 : (0 : Int) ≤ (j : Int) := by omega
        have hk4 : (j : Int) < (n : Int) := by omega
        obtain ⟨a1, y, rfl, hy, c1⟩ := strs_cell (HV.out.below' hb) (by rw [HY.out]) (by rw [HY.out]; exact hlt)
        obtain ⟨b1, z, rfl, hz, c2⟩ := strs_cell (HU.out.below' hb) (by rw [HZ.out]) (by rw [HZ.out]; exact hlt)
        have HYJ := Lib.hid hy
        have HZJ := Lib.hid hz
        clear hy hz
        cases hyz : decide (y = z)
        · have he := (eq_bytes y z).trans hyz
          have HYZ := Lib.hid (of_decide_eq_false hyz)
          clear hyz
          go_wp2_with fail
          go_quiet (fail)
          go_wp2
          go_ret
          refine ⟨?_, below_drewN hb _⟩
          have hne : ys ≠ zs := fun e => HYZ.out (by have h1 := HYJ.out; rw [e, HZJ.out] at h1; exact (Option.some.inj h1).symm)
          simp [hne]
        · have he := (eq_bytes y z).trans hyz
          have HYZ := Lib.hid (of_decide_eq_true hyz)
          clear hyz
          go_wp2_with fail
          go_quiet (fail)
          go_wp2
          go_roundw
          case rel => exact ⟨j + 1, by omega, by go_num, take_same HT.out HYJ.out (HYZ.out ▸ HZJ.out), below_drewN hb _⟩
          case measure => simp [intOf]; omega
      · obtain rfl : j = n := by omega
        go_wp2_with fail
        go_ret
        refine ⟨?_, hb⟩
        have h1 := HT.out
        rw [List.take_of_length_le (by rw [HY.out]; exact Nat.le_refl _), List.take_of_length_le (by rw [HZ.out]; exact Nat.le_refl _)] at h1
        simp [h1]
  · have hne : ys ≠ zs := fun e => hlen (by rw [e])
    have hlen2 : (ys.length : Int) ≠ zs.length := by omega
    go_enter Tryd.func27, Tryd.ntmps27
    go_wp2
    go_ret
    exact ⟨by simp [hne], Below.refl _ _⟩
set_option maxHeartbeats 800000 in
theorem sameDesk_any (s x : ByteArray) (v u : Value) (ys zs : List ByteArray) (w : World) (hv : StrsAt w v ys) (hu : StrsAt w u zs) (hm : zs.length ≤ 1048577) :
    Calls Tryd.prog 11 #[.agg #[.string s, v], .agg #[.string x, u]] w fun e w' => e = .returned (.bool (decide (s = x) && decide (ys = zs))) ∧ Below w.heap.size w w' := by
  obtain ⟨a, c, rfl⟩ := strs_value hv
  obtain ⟨b, d, rfl⟩ := strs_value hu
  obtain ⟨n, hN⟩ : ∃ n, zs.length = n := ⟨_, rfl⟩
  obtain ⟨m, hM⟩ : ∃ m, ys.length = m := ⟨_, rfl⟩
  have hb2 : ∀ o o', Below w.heap.size w ((w.alloc o).alloc o') := fun o o' => ((Below.refl _ _).alloc (Nat.le_refl _) o).alloc (by simp) o'
  have HC : Hid (∀ o o', Calls Tryd.prog 27 #[.slice a m c, .slice b n d] ((w.alloc o).alloc o') fun e w' => e = .returned (.bool (decide (ys = zs))) ∧ Below w.heap.size w w') := fun o o' =>
    (sameTexts_any _ _ ys zs _ ((hM ▸ hv : StrsAt w (.slice a m c) ys).below' (hb2 o o')) ((hN ▸ hu : StrsAt w (.slice b n d) zs).below' (hb2 o o')) hm).mono (by rintro e w' ⟨rfl, hb⟩; exact ⟨rfl, (hb2 o o').trans (hb.mono (by simp; omega))⟩)
  rw [hM, hN]
  obtain ⟨t, ht⟩ : ∃ t, decide (ys = zs) = t := ⟨_, rfl⟩
  rw [ht] at HC ⊢
  clear hv hu hm hN hM ht
  go_enter Tryd.func11, Tryd.ntmps11
  cases hsx : decide (s = x)
  · have he := (eq_bytes s x).trans hsx
    go_wp2
    go_ret
    exact ⟨by simp, hb2 _ _⟩
  · have he := (eq_bytes s x).trans hsx
    go_wp2_with (first | (go_at_call 27; refine (HC.out _ _).mono ?_; rintro e w1 ⟨rfl, hb1⟩))
    go_ret
    exact ⟨by simp, hb1⟩
set_option maxHeartbeats 800000 in
theorem noDesk_any (s : ByteArray) (v : Value) (ys : List ByteArray) (w : World) (hv : StrsAt w v ys) :
    Calls Tryd.prog 25 #[.agg #[.string s, v]] w fun e w' => e = .returned (.bool (decide (s = ⟨#[]⟩) && decide (ys = []))) ∧ Below w.heap.size w w' := by
  obtain ⟨a, c, rfl⟩ := strs_value hv
  obtain ⟨m, hM⟩ : ∃ m, ys.length = m := ⟨_, rfl⟩
  have hb2 : ∀ o, Below w.heap.size w (w.alloc o) := fun o => (Below.refl _ _).alloc (Nat.le_refl _) o
  have HC : Hid (∀ o, Calls Tryd.prog 11 #[.agg #[.string s, .slice a m c], .agg #[.string ⟨#[]⟩, .slice none 0 0]] (w.alloc o) fun e w' => e = .returned (.bool (decide (s = ⟨#[]⟩) && decide (ys = []))) ∧ Below w.heap.size w w') := fun o =>
    (sameDesk_any s ⟨#[]⟩ _ _ ys [] _ ((hM ▸ hv : StrsAt w (.slice a m c) ys).below' (hb2 o)) (.inl ⟨rfl, rfl⟩) (by simp)).mono (by rintro e w' ⟨rfl, hb⟩; exact ⟨rfl, (hb2 o).trans (hb.mono (by simp))⟩)
  rw [hM]
  obtain ⟨t, ht⟩ : ∃ t, (decide (s = ⟨#[]⟩) && decide (ys = [])) = t := ⟨_, rfl⟩
  rw [ht] at HC ⊢
  clear hv hM ht
  go_enter Tryd.func25, Tryd.ntmps25
  go_wp2_with (first | (go_at_call 11; refine (HC.out _).mono ?_; rintro e w1 ⟨rfl, hb1⟩))
  go_ret
  exact ⟨rfl, hb1⟩
end Go.Proofs.YtpkenccgjlhnlaaDoor

namespace Go.Proofs.YtpkenccgjlhnlaaDoor
open Go.RowKit

set_option maxHeartbeats 800000 in
theorem word_yes (w : World) : Calls Tryd.prog 43 #[.string ⟨#[70, 76, 82]⟩] w fun e w' => e = .returned (.bool true) ∧ w = w' := by
  go_enter Tryd.func43, Tryd.ntmps43
  go_wp2
  refine wp_loop_rounds 4 ?_
  rw [rounds_succ]
  go_wp2
  rw [rounds_succ]
  go_wp2
  rw [rounds_succ]
  go_wp2
  rw [rounds_succ]
  go_wp2
  go_ret
  exact ⟨rfl, rfl⟩

set_option maxHeartbeats 800000 in
theorem word_no (w : World) : Calls Tryd.prog 43 #[.string ⟨#[88]⟩] w fun e w' => e = .returned (.bool false) ∧ w = w' := by
  go_enter Tryd.func43, Tryd.ntmps43
  go_wp2
  refine wp_loop_rounds 1 ?_
  rw [rounds_succ]
  go_wp2
  go_ret
  exact ⟨rfl, rfl⟩

set_option maxHeartbeats 800000 in
theorem alive_yes (w : World) : Calls Tryd.prog 13 #[] w fun e w' => e = .returned (.bool true) ∧ w = w' := by
  go_enter Tryd.func13, Tryd.ntmps13
  go_wp2_with (go_at_call 43; first
    | (have hq := st1; refine (word_no _).mono ?_; rintro e w' ⟨rfl, rfl⟩)
    | (refine (word_yes _).mono ?_; rintro e w' ⟨rfl, rfl⟩; have st1 := True.intro))
  go_ret
  exact ⟨rfl, rfl⟩

end Go.Proofs.YtpkenccgjlhnlaaDoor

namespace Go.Proofs.YtpkenccgjlhnlaaDoor
open Go.ChangeShapes Go.WideShapes Go.ChangeAt Go.RowKit Go.WideMaps Go.WideElems
open Go.ChangeMaps (open_string shut_string)

section
variable {H : Type} {enc : TypeId × Value → H} {P : Program}

theorem trodAll_stays (hl : laidOutB P = true) {W W' : World} {sp' : Nat → Bool} : ∀ {ts : List TypeId} {vs : List Value} {ds : List (DataW H)} {ps : List MemPlace},
    (∀ t ∈ ts, P.readableRec t = true ∧ t < P.types.size) → DataW.TrodAll enc P W 0 (fun _ => true) true ts vs ds ps → (∀ p ∈ ps, W.sameAt W' p) → (∀ p ∈ ps, sp' p.block = true) → DataW.TrodAll enc P W' 0 sp' true ts vs ds ps
  | [], _, _, _, _, h, _, _ => by
    obtain ⟨rfl, rfl, rfl⟩ := trodAll_nil h
    exact trodAll_mk0
  | t :: ts, _, _, _, hr, h, hsame, hs => by
    obtain ⟨v, vs', d, ds', p, q, rfl, rfl, rfl, h1, h2⟩ := trodAll_cons h
    exact trodAll_cons_mk (WideElems.Trod_stays hl (hr t (by simp)).1 (hr t (by simp)).2 h1 (fun x hx => hsame x (by simp [hx])) (fun x hx => hs x (by simp [hx])))
      (trodAll_stays hl (fun u hu => hr u (by simp [hu])) h2 (fun x hx => hsame x (by simp [hx])) (fun x hx => hs x (by simp [hx])))

theorem trodVars_stays (hl : laidOutB P = true) {W W' : World} {sp' : Nat → Bool} (hb : Below W.heap.size W W') : ∀ {ns : List String} {ds : List (DataW H)} {ps : List MemPlace},
    (∀ n ∈ ns, ∀ g t, P.globalNamed n = some g → (P.globals[g]?).map (·.type) = some t → P.readableRec t = true ∧ t < P.types.size) → DataW.TrodVars enc P W (fun _ => true) ns ds ps → (∀ p ∈ ps, W.sameAt W' p) → (∀ p ∈ ps, sp' p.block = true) →
    DataW.TrodVars enc P W' sp' ns ds ps
  | [], ds, _, _, h, _, _ => by
    cases ds with
    | nil => exact h
    | cons _ _ => exact h.elim
  | n :: ns, [], _, _, h, _, _ => h.elim
  | n :: ns, d :: ds, _, hr, h, hsame, hs => by
    obtain ⟨g, t, cs, fuel, p, q, h1, h2, h3, h4, h5, rfl⟩ := h
    have hg : g < W.heap.size := by
      have h3' := h3
      unfold World.var? at h3'
      rw [h1, Option.bind_some] at h3'
      rcases Nat.lt_or_ge g W.heap.size with hlt | hge
      · exact hlt
      · rw [Array.getElem?_eq_none hge] at h3'
        cases h3'
    obtain ⟨hr1, hr2⟩ := hr n (by simp) g t h1 h2
    have h4' := DataW.trod_stays (sp' := sp') (kids_book hl hr1) (book_sized hr1) (fun h => by cases h) ⟨hr2, book_self t⟩ h4 (fun x hx => hsame x (by simp [hx])) (fun x hx => hs x (by simp [hx]))
    exact ⟨g, t, cs, fuel, p, q, h1, h2, var?_below hb h1 hg h3, h4', trodVars_stays hl hb (fun m hm => hr m (by simp [hm])) h5 (fun x hx => hsame x (by simp [hx])) (fun x hx => hs x (by simp [hx])), rfl⟩

section
variable {H : Type} {enc : TypeId × Value → H} {P : Program} {W : World} {sp : Nat → Bool}
theorem trodVars_len0 {gs : List (DataW H)} {q : List MemPlace} (h : DataW.TrodVars enc P W sp [] gs q) : gs = [] := (trodVars_none h).1
theorem trodVars_len1 {n0 : String} {gs : List (DataW H)} {q : List MemPlace} (h : DataW.TrodVars enc P W sp [n0] gs q) : ∃ g0, gs = [g0] := by
  cases gs with
  | nil => exact h.elim
  | cons g0 gs =>
    obtain ⟨_, _, _, _, _, _, _, _, _, _, h', _⟩ := h
    exact ⟨g0, by rw [trodVars_len0 h']⟩
theorem trodVars_len2 {n0 n1 : String} {gs : List (DataW H)} {q : List MemPlace} (h : DataW.TrodVars enc P W sp [n0, n1] gs q) : ∃ g0 g1, gs = [g0, g1] := by
  cases gs with
  | nil => exact h.elim
  | cons g0 gs =>
    obtain ⟨_, _, _, _, _, _, _, _, _, _, h', _⟩ := h
    obtain ⟨g1, rfl⟩ := trodVars_len1 h'
    exact ⟨g0, g1, rfl⟩
theorem trodVars_len3 {n0 n1 n2 : String} {gs : List (DataW H)} {q : List MemPlace} (h : DataW.TrodVars enc P W sp [n0, n1, n2] gs q) : ∃ g0 g1 g2, gs = [g0, g1, g2] := by
  cases gs with
  | nil => exact h.elim
  | cons g0 gs =>
    obtain ⟨_, _, _, _, _, _, _, _, _, _, h', _⟩ := h
    obtain ⟨g1, g2, rfl⟩ := trodVars_len2 h'
    exact ⟨g0, g1, g2, rfl⟩
theorem trodVars_len4 {n0 n1 n2 n3 : String} {gs : List (DataW H)} {q : List MemPlace} (h : DataW.TrodVars enc P W sp [n0, n1, n2, n3] gs q) : ∃ g0 g1 g2 g3, gs = [g0, g1, g2, g3] := by
  cases gs with
  | nil => exact h.elim
  | cons g0 gs =>
    obtain ⟨_, _, _, _, _, _, _, _, _, _, h', _⟩ := h
    obtain ⟨g1, g2, g3, rfl⟩ := trodVars_len3 h'
    exact ⟨g0, g1, g2, g3, rfl⟩
end

/-- What a law's specification says: the call returns true, and all reads as before. -/
structure Plain (s : ChangeSpec) (ds gs : List (DataW H)) : Prop where
  res : (s.fn H (ds ++ gs)).results = [.lit (.bool true)]
  args : (s.fn H (ds ++ gs)).args = ds
  vars : (s.fn H (ds ++ gs)).vars = gs

def rowsOk (P : Program) (ts : List TypeId) : Bool := ts.all fun t => P.readableRec t && decide (t < P.types.size)
def varsOk (P : Program) (ns : List String) : Bool := ns.all fun n => ((P.globalNamed n).bind (P.globals[·]?)).all fun gl => P.readableRec gl.type && decide (gl.type < P.types.size)

theorem law_post {f : Func} {s : ChangeSpec} {W W' : World} {args : Array Value} {ds gs : List (DataW H)} {before : List MemPlace} (hl : laidOutB P = true) (ht : rowsOk P f.params.toList = true) (hv : varsOk P s.vars = true)
    {tb : TypeId} (hb1 : f.resultTypes = #[tb]) (hb2 : P.underlying tb = some .bool)
    (hW : DataW.Whole enc P f.params.toList s.vars false W args.toList ds gs before) (hs : Plain s ds gs) (hb : Below W.heap.size W W') :
    s.post enc P f false true false false W args (.bool true) W' := by
  have hlt : ∀ p ∈ before, p.block < W.heap.size := fun p hp => hW.lt p hp
  have hold : ∀ p ∈ before, (fun b => decide (b < W.heap.size)) p.block = true := fun p hp => by simpa using hlt p hp
  have hW' := hW
  obtain ⟨pa, pv, hA, hV, rfl, hz, hn⟩ := hW
  have hsame : ∀ p ∈ pa ++ pv, W.sameAt W' p := fun p hp => hb.same (hlt p hp)
  have htr : ∀ t ∈ f.params.toList, P.readableRec t = true ∧ t < P.types.size := fun t h => by
    have := List.all_eq_true.1 ht t h
    simpa using this
  have hvr : ∀ n ∈ s.vars, ∀ g t, P.globalNamed n = some g → (P.globals[g]?).map (·.type) = some t → P.readableRec t = true ∧ t < P.types.size := fun n h g t h1 h2 => by
    have := List.all_eq_true.1 hv n h
    rw [h1] at this
    cases hg : P.globals[g]? with
    | none => rw [hg] at h2; cases h2
    | some gl =>
      rw [hg] at h2
      obtain rfl : gl.type = t := Option.some.inj h2
      simpa [hg] using this
  have hargs : ∀ sp : Nat → Bool, (∀ p ∈ pa ++ pv, sp p.block = true) → DataW.TrodAll enc P W' 0 sp true f.params.toList args.toList (s.fn H (ds ++ gs)).args pa := fun sp hsp => by
    rw [hs.args]
    exact trodAll_stays hl htr hA (fun x hx => hsame x (by simp [hx])) (fun x hx => hsp x (by simp [hx]))
  have hvars : ∀ sp : Nat → Bool, (∀ p ∈ pa ++ pv, sp p.block = true) → DataW.TrodVars enc P W' sp s.vars (s.fn H (ds ++ gs)).vars pv := fun sp hsp => by
    rw [hs.vars]
    exact trodVars_stays hl hb hvr hV (fun x hx => hsame x (by simp [hx])) (fun x hx => hsp x (by simp [hx]))
  have hres : ∀ (b : Nat) (sp : Nat → Bool) (hd : Bool), DataW.TrodAll enc P W' b sp hd f.resultTypes.toList ((Value.bool true).resultList f.resultTypes.size) (s.fn H (ds ++ gs)).results [] := fun b sp hd => by
    rw [hs.res, hb1]
    exact trodAll_cons_mk (shut_bool hb2 _) trodAll_mk0
  refine ⟨ds, gs, pa ++ pv, [], pa, pv, hW', hres _ _ _, hargs _ hold, hvars _ hold, World.keptBut_mono (fun p hp => ⟨hp, ?_⟩) (hb.frame (· ∈ pa ++ pv)), fun h => by cases h⟩
  rw [List.mem_append] at hp
  exact Or.inr hp

/-- Out of the list of variables with what they hold: one of them. -/
theorem laid_one {W : World} {n : String} {d : DataW Unit} : ∀ {laid : List (String × DataW Unit)} {ps : List MemPlace}, DataW.LaidVars P W laid ps → (n, d) ∈ laid →
    ∃ g t cs fuel p, P.globalNamed n = some g ∧ (P.globals[g]?).map (·.type) = some t ∧ W.var? P n = some cs ∧ DataW.trod (fun _ => ()) P W 0 (fun _ => true) false fuel t cs.toList = some (d, p)
  | [], _, _, hm => by cases hm
  | (n', d') :: r, _, h, hm => by
    obtain ⟨g, t, cs, fuel, p, q, h1, h2, h3, h4, h5, _⟩ := h
    rcases List.mem_cons.1 hm with e | hm
    · cases e
      exact ⟨g, t, cs, fuel, p, h1, h2, h3, h4⟩
    · exact laid_one h5 hm

/-- An array of strings, cell for cell. -/
theorem cells_of_strs {w : World} {base : Nat} {sp : Nat → Bool} {held : Bool} {fuel : Nat} {t e : TypeId} {n : Nat} {cs : List Value} {zs : List (List UInt8)} {p : List MemPlace}
    (ht : P.underlying t = some (.array n e)) (he : P.underlying e = some .string) (hce : P.cellsOf e = 1)
    (h : DataW.trod enc P w base sp held fuel t cs = some (.agg (zs.map fun z => .lit (.string z)), p)) : ∀ i, i < n → cs[i]? = some (.string (Tw.str (zs.getD i []))) := by
  obtain ⟨xs, m, _, hx, _, hxl, hel⟩ := DataW.trod_array ht h
  simp only [Prod.mk.injEq, DataW.agg.injEq] at hx
  intro i hi
  have h1 := hel i hi
  rw [hce, Nat.mul_one] at h1
  have hx1 : xs[i]? = some (xs[i]'(by omega)) := List.getElem?_eq_getElem (by omega)
  rw [hx1] at h1
  obtain ⟨s, hc, hy, _⟩ := DataW.trod_string he h1
  have h2 : (xs.map (·.1))[i]? = some (DataW.lit (.string s.data.toList) : DataW H) := by simp [hx1, hy]
  rw [← hx.1] at h2
  simp only [List.getElem?_map, Option.map_eq_some_iff, DataW.lit.injEq, Lit.string.injEq] at h2
  obtain ⟨z, hz, rfl⟩ := h2
  have h3 := congrArg (·[0]?) hc
  simp only [List.getElem?_take, List.getElem?_drop] at h3
  simp at h3
  rw [h3, List.getD, hz, Option.getD_some, Tw.str_of]

end

theorem gWays : Tryd.prog.globalNamed "loop.example/turtlewalks/impl.wayLetters" = some 0 := by kernel_rfl
theorem gWaysType : (Tryd.prog.globals[0]?).map (·.type) = some 100 := by kernel_rfl
theorem cellsString : Tryd.prog.cellsOf 9 = 1 := by kernel_rfl
theorem waysAt {W : World} {laid : List (String × DataW Unit)} (hp : (laid.all fun x => x.2.handleName?.isNone) = true) (h : laidMetH Tryd.prog laid W)
    (hm : ("loop.example/turtlewalks/impl.wayLetters", Rows.laid_loop_example_turtlewalks_impl_wayLetters) ∈ laid) : WaysAt W := by
  rw [MakeChecks.laidMetH_plain _ _ _ hp] at h
  obtain ⟨_, h, _⟩ := h
  obtain ⟨g, t, cs, fuel, p, h1, h2, h3, h4⟩ := laid_one h hm
  obtain rfl := Option.some.inj (gWays.symm.trans h1)
  obtain rfl := Option.some.inj (gWaysType.symm.trans h2)
  intro i hi
  rw [World.var?_cell h1 h3 i]
  have := cells_of_strs (zs := wayList) Tryd.underlying100 Tryd.underlying9 cellsString h4 i hi
  simpa using this

theorem gDirs : Tryd.prog.globalNamed "loop.example/turtlewalks/impl.directions" = some 2 := by kernel_rfl
theorem gDirsType : (Tryd.prog.globals[2]?).map (·.type) = some 113 := by kernel_rfl
theorem cellsPair : Tryd.prog.cellsOf 63 = 2 := by kernel_rfl
theorem cellsInt : Tryd.prog.cellsOf 3 = 1 := by kernel_rfl
theorem cells_of_dirs {w : World} {base : Nat} {sp : Nat → Bool} {held : Bool} {fuel : Nat} {cs : List Value} {zs : List (List Int)} {p : List MemPlace}
    (h : DataW.trod (fun _ => ()) Tryd.prog w base sp held fuel 113 cs = some (.agg (zs.map fun z => .agg (z.map fun y => .lit (.int .i64 y))), p)) :
    ∀ i j, i < 4 → j < 2 → cs[i * 2 + j]? = some (.int .i64 ((zs.getD i []).getD j 0)) := by
  obtain ⟨xs, m, _, hx, _, hxl, hel⟩ := DataW.trod_array Tryd.underlying113 h
  simp only [Prod.mk.injEq, DataW.agg.injEq] at hx
  intro i j hi hj
  have h1 := hel i hi
  rw [cellsPair] at h1
  have hx1 : xs[i]? = some (xs[i]'(by omega)) := List.getElem?_eq_getElem (by omega)
  rw [hx1] at h1
  have h2 : (xs.map (·.1))[i]? = some (xs[i]'(by omega)).1 := by simp [hx1]
  rw [← hx.1] at h2
  simp only [List.getElem?_map, Option.map_eq_some_iff] at h2
  obtain ⟨z, hz, hz1⟩ := h2
  have h1' : DataW.trod (fun _ => ()) Tryd.prog w base sp held m 63 ((cs.drop (i * 2)).take 2) = some (.agg (z.map fun y => .lit (.int .i64 y)), (xs[i]'(by omega)).2) := by rw [h1, hz1]
  obtain ⟨ys, m2, _, hy, _, hyl, hel2⟩ := DataW.trod_array Tryd.underlying63 h1'
  simp only [Prod.mk.injEq, DataW.agg.injEq] at hy
  have h3 := hel2 j hj
  rw [cellsInt, Nat.mul_one] at h3
  have hy1 : ys[j]? = some (ys[j]'(by omega)) := List.getElem?_eq_getElem (by omega)
  rw [hy1] at h3
  obtain ⟨q, hc, hq, _⟩ := DataW.trod_int Tryd.underlying3 h3
  have h4 : (ys.map (·.1))[j]? = some (DataW.lit (.int .i64 q) : DataW Unit) := by simp [hy1, hq]
  rw [← hy.1] at h4
  simp only [List.getElem?_map, Option.map_eq_some_iff, DataW.lit.injEq, Lit.int.injEq, true_and] at h4
  obtain ⟨z', hz', rfl⟩ := h4
  have h5 := congrArg (·[0]?) hc
  simp only [List.getElem?_take, List.getElem?_drop] at h5
  simp [hj] at h5
  have e1 : zs.getD i [] = z := by simp [List.getD, hz]
  rw [h5, e1, List.getD, hz', Option.getD_some]
theorem dirsAt {W : World} {laid : List (String × DataW Unit)} (hp : (laid.all fun x => x.2.handleName?.isNone) = true) (h : laidMetH Tryd.prog laid W)
    (hm : ("loop.example/turtlewalks/impl.directions", Rows.laid_loop_example_turtlewalks_impl_directions) ∈ laid) : DirsAt W := by
  rw [MakeChecks.laidMetH_plain _ _ _ hp] at h
  obtain ⟨_, h, _⟩ := h
  obtain ⟨g, t, cs, fuel, p, h1, h2, h3, h4⟩ := laid_one h hm
  obtain rfl := Option.some.inj (gDirs.symm.trans h1)
  obtain rfl := Option.some.inj (gDirsType.symm.trans h2)
  have hc : ∀ i j, i < 4 → j < 2 → W.cell? ⟨2, i * 2 + j, none⟩ = some (.int .i64 (([[1, 0], [0, 1], [-1, 0], [0, -1]].getD i []).getD j 0)) := fun i j hi hj => by
    rw [World.var?_cell h1 h3 (i * 2 + j)]
    have := cells_of_dirs (zs := [[1, 0], [0, 1], [-1, 0], [0, -1]]) h4 i j hi hj
    rw [← Array.getElem?_toList]
    exact this
  exact ⟨hc 0 0 (by omega) (by omega), hc 0 1 (by omega) (by omega), hc 1 0 (by omega) (by omega), hc 1 1 (by omega) (by omega), hc 2 0 (by omega) (by omega), hc 2 1 (by omega) (by omega), hc 3 0 (by omega) (by omega), hc 3 1 (by omega) (by omega)⟩

end Go.Proofs.YtpkenccgjlhnlaaDoor

namespace Go.Proofs.YtpkenccgjlhnlaaDoor
open Go.ChangeShapes Go.WideShapes Go.ChangeAt Go.RowKit Go.WideMaps Go.WideElems

set_option maxRecDepth 100000 in
theorem open_code {H : Type} {enc : TypeId × Value → H} {W : World} {base : Nat} {spare : Nat → Bool} {held : Bool} {r : Reach} {b0 : Nat} {v : Value} {d : DataW H} {p : List MemPlace} (hv : Value.okWide Tryd.prog W r b0 22 v) (h : DataW.Trod enc Tryd.prog W base spare held 22 v d p) :
    ∃ n, CodeAt W v n := by
  obtain ⟨a0, l0, c0, rfl⟩ := okWide_slice Tryd.underlying22 hv
  obtain ⟨fuel, hf⟩ := h
  rcases Go.ChangeShapes.open_ints Tryd.underlying22 Tryd.underlying5 (by kernel_rfl) hf with ⟨hv1, _⟩ | ⟨a, len, cap, zs, hv1, _, hl, _, hlen, _, hc, hzs⟩
  · simp [Value.cells] at hv1
    obtain ⟨rfl, rfl, rfl⟩ := hv1
    exact ⟨0, .inl ⟨rfl, rfl⟩⟩
  · simp [Value.cells] at hv1
    obtain ⟨rfl, rfl, rfl⟩ := hv1
    refine ⟨l0, .inr ⟨a, c0, rfl, hl, fun j hj => ?_⟩⟩
    have hj2 : j < zs.length := by rw [hlen]; split <;> omega
    have hw := hzs _ (List.getElem_mem hj2)
    have hcj := hc j hj2
    rw [List.getD, List.getElem?_eq_getElem hj2, Option.getD_some] at hcj
    refine ⟨_, ?_, ?_, hcj⟩ <;> (have := hw; simp [Lit.wf, IntKind.min, IntKind.max, IntKind.signed, IntKind.bits] at this; omega)

end Go.Proofs.YtpkenccgjlhnlaaDoor

namespace Go.Proofs.YtpkenccgjlhnlaaDoor.fnDeskDo
open Go.ChangeShapes Go.WideShapes Go.ChangeAt Go.RowKit Go.WideMaps Go.WideElems
open Go.ChangeMaps (open_string shut_string)

def lawBoxes (w : World) (s : ByteArray) (v : Value) (k n : Int) : World := (w.alloc (.cells #[.string s, v] 25)).alloc (.cells #[.int .i64 k, .int .i64 n] 27)
theorem boxes_in (w : World) (s : ByteArray) (v : Value) (k n : Int) : Ext w (lawBoxes w s v k n) ∧ w.heap.size + 1 < (lawBoxes w s v k n).heap.size ∧ (lawBoxes w s v k n).heap[w.heap.size]? = some (.cells #[.string s, v] 25 (0, 0)) ∧ (lawBoxes w s v k n).heap[w.heap.size + 1]? = some (.cells #[.int .i64 k, .int .i64 n] 27 (0, 0)) := by
  unfold lawBoxes
  exact ⟨((Ext.refl w).alloc _).alloc _, by simp, heap_alloc2_old _ _ _, heap_alloc2_new _ _ _⟩
theorem same_is (s x : ByteArray) (v u : Value) (ys zs : List ByteArray) (w : World) (hv : StrsAt w v ys) (hu : StrsAt w u zs) (hm : zs.length ≤ 1048577) (b : Bool) (hb : (decide (s = x) && decide (ys = zs)) = b) :
    Calls Tryd.prog 11 #[.agg #[.string s, v], .agg #[.string x, u]] w fun e w' => e = .returned (.bool b) ∧ Below w.heap.size w w' := hb ▸ sameDesk_any s x v u ys zs w hv hu hm
theorem ok_is (s : ByteArray) (v : Value) (zs : List ByteArray) (w : World) (h : PastAt w v zs) (hs : s.size ≤ 1048576) (hl : zs.length ≤ 1048576) (hz : ∀ z ∈ zs, z.size ≤ 1048576) (b : Bool) (hb : deskOk s zs = b) :
    Calls Tryd.prog 12 #[.agg #[.string s, v]] w fun e w' => e = .returned (.bool b) ∧ Below w.heap.size w w' := hb ▸ implDeskOk s v zs w h.strs hs hl hz
theorem closed_is (s : ByteArray) (w : World) (hs : s.size ≤ 1048576) (hw : DirsAt w) (b : Bool) (hb : Tw.closed s.data.toList = b) :
    Calls Tryd.prog 14 #[.string s] w fun e w' => e = .returned (.bool b) ∧ Below w.heap.size w w' := hb ▸ implClosedOk s w hs hw
theorem shape_is (s t : ByteArray) (w : World) (hs : s.size ≤ 1048576) (ht : t.size ≤ 1048576) (hw : WaysAt w) (hd : DirsAt w) (b : Bool) (hb : sameShape s.data.toList t.data.toList = b) :
    Calls Tryd.prog 15 #[.string s, .string t] w fun e w' => e = .returned (.bool b) ∧ Below w.heap.size w w' := hb ▸ implSameShape s t w hs ht hw hd
theorem tt (x : ByteArray) (ys : List ByteArray) : (decide (x = x) && decide (ys = ys)) = true := by rw [decide_eq_true rfl, decide_eq_true rfl]; rfl
/-- What is asked of the kind of a deed. -/
theorem kinds (K : Int) : (K = 5 ∨ K = 2 ∨ K = 3 ∨ K = 4) ∨ ((K == 5) = false ∧ (K == 2) = false ∧ (K == 3) = false ∧ (K == 4) = false) := by
  by_cases h5 : K = 5
  · exact .inl (.inl h5)
  by_cases h2 : K = 2
  · exact .inl (.inr (.inl h2))
  by_cases h3 : K = 3
  · exact .inl (.inr (.inr (.inl h3)))
  by_cases h4 : K = 4
  · exact .inl (.inr (.inr (.inr h4)))
  exact .inr ⟨beq_false_of_ne h5, beq_false_of_ne h2, beq_false_of_ne h3, beq_false_of_ne h4⟩

set_option maxRecDepth 100000 in
set_option maxHeartbeats 1600000 in
theorem walk (v : Value) (n : Nat) (w : World) (hw : WaysAt w) (hd : DirsAt w) (h : CodeAt w v n) :
    Calls Tryd.prog 3 #[v] w fun e w' => e = .returned (.bool true) ∧ Below w.heap.size w w' := by
  have hdraw := drawDeskDo v n w h
  obtain ⟨a, cap, rfl⟩ := code_value h
  have HD := Lib.hid hdraw
  clear hdraw h
  by_cases hn : n ≤ 1048576
  · have HWW := Lib.hid hw
    have HDD := Lib.hid hd
    clear hw hd
    go_enter Tryd.func3, Tryd.ntmps3
    go_upto_region 4 with (go_at_call 8; refine HD.out.mono ?_; rintro e w1 ⟨s, u, zs, K, M, rfl, hk, hkm, hb1⟩; obtain ⟨aU, cU, hvU⟩ := past_slice hk.past (M := zs.length) rfl; subst hvU; have HK := Lib.hid hk; have hs41 := hk.hs; have hl9 := hk.hl; clear hk)
    obtain ⟨L, hL⟩ : ∃ L, zs.length = L := ⟨_, rfl⟩
    rw [hL] at HK hl9 ⊢
    have HL := Lib.hid hL
    have HZ : Hid (∀ z ∈ zs, z.size ≤ 1048576) := fun z hz => by have := HK.out.hz z hz; omega
    obtain ⟨x0, hx0⟩ : ∃ x, (deskDo s zs K M).1 = x := ⟨_, rfl⟩
    obtain ⟨y0, hy0⟩ : ∃ x, (deskDo s zs K M).2.1 = x := ⟨_, rfl⟩
    obtain ⟨b0, hb0⟩ : ∃ x, (deskDo s zs K M).2.2 = x := ⟨_, rfl⟩
    have HDO : Hid (deskDo s zs K M = (x0, y0, b0)) := by show deskDo s zs K M = _; rw [← hx0, ← hy0, ← hb0]
    have hds : ∀ (u : Value) (W : World), StrsAt W u zs → Calls Tryd.prog 10 #[.agg #[.string s, u], .agg #[.int .i64 K, .int .i64 M]] W (DeskOut W x0 y0 b0) := fun u W hu => by
      have := specDeskDo s u zs K M W hu (by omega) (by rw [hL]; omega) HZ.out (by omega)
      rwa [hx0, hy0, hb0] at this
    have hdi : ∀ (u : Value) (W : World), PastAt W u zs → WaysAt W → DirsAt W → Calls Tryd.prog 9 #[.agg #[.string s, u], .agg #[.int .i64 K, .int .i64 M]] W (DeskOut W x0 y0 b0) := fun u W hu hww hdd => by
      have := implDeskDo s u zs K M W hu (by omega) (by rw [hL]; omega) HZ.out hww hdd
      rwa [hx0, hy0, hb0] at this
    have HDS := Lib.hid hds
    have HDI := Lib.hid hdi
    have hy9 : y0.length ≤ 9 ∧ x0.size ≤ 41 ∧ ∀ z ∈ y0, z.size ≤ 41 := by
      cases b0
      · by_cases hok : deskOk s zs = true
        · obtain ⟨e1, e2⟩ := do_not HDO.out hok
          subst e1 e2
          exact ⟨by omega, hs41, fun z hz => HK.out.hz z hz⟩
        · have h9 := HDO.out
          unfold deskDo at h9
          rw [if_neg hok] at h9
          simp only [Prod.mk.injEq] at h9
          rw [← h9.1, ← h9.2.1]
          exact ⟨by simp, by decide, by simp⟩
      · obtain ⟨h1, h2, h3⟩ := deskOk_parts (do_ok HDO.out).2
        have := ok_size h1
        exact ⟨by omega, by omega, fun z hz => by have := ok_size (h3 z hz); omega⟩
    obtain ⟨hy9, hx41, hy41⟩ := hy9
    have HY41 := Lib.hid hy41
    obtain ⟨m, hM⟩ : ∃ m, y0.length = m := ⟨_, rfl⟩
    rw [hM] at hy9
    have HM := Lib.hid hM
    clear hL hx0 hy0 hb0 hds hdi hy41 hM
    obtain ⟨e2, hs2, r0, r1⟩ := boxes_in w1 s (.slice aU L cU) K M
    obtain ⟨W2, hW2⟩ : ∃ W2, lawBoxes w1 s (.slice aU L cU) K M = W2 := ⟨_, rfl⟩
    rw [hW2] at e2 hs2 r0 r1
    unfold lawBoxes at hW2
    rw [hW2]
    obtain ⟨D1, hD1⟩ : ∃ D1, w1.heap.size = D1 := ⟨_, rfl⟩
    rw [hD1] at hs2 r0 r1 ⊢
    have HP2 := Lib.hid (e2.past HK.out.past)
    have E2 : Hid (Ext w1 W2) := e2
    have hB2 : Below w.heap.size w W2 := hb1.trans (Below.mono e2 hb1.size)
    have HW2 := Lib.hid (HWW.out.below' hB2)
    have HD2 := Lib.hid (HDD.out.below' hB2)
    have HS : Hid (∀ X, Ext W2 X → (X.cell? ⟨D1, 0, none⟩ = some (.string s) ∧ X.cell? ⟨D1, 1, none⟩ = some (.slice aU L cU)) ∧ X.cell? ⟨D1 + 1, 0, none⟩ = some (.int .i64 K) ∧ X.cell? ⟨D1 + 1, 1, none⟩ = some (.int .i64 M)) := fun X hX => ⟨two_cells (hX.row r0), two_cells (hX.row r1)⟩
    have hB2s := hB2.size
    obtain ⟨⟨d0, d1⟩, d2, d3⟩ := HS.out W2 (Ext.refl _)
    have hbb : (b0 != b0) = false := by cases b0 <;> rfl
    clear hW2 hD1 r0 r1 e2 hb1
    go_upto_region 8 with (first
      | (go_at_call 9; refine (HDI.out _ _ HP2.out HW2.out HD2.out).mono ?_; rintro e w3 ⟨v3, rfl, hp3, hf3, hb3⟩; obtain ⟨a3, c3, hv3⟩ := past_slice hp3 HM.out; subst hv3; have E3 : Hid (Ext W2 (w3.alloc (.cells #[.string x0, .slice a3 m c3] 25))) := (show Ext W2 w3 from hb3).alloc _; have BX3 := Lib.hid (box_new (x := x0) hp3 (fresh_ext (Ext.refl _) hf3) (show W2.heap.size ≤ w3.heap.size from hb3.size)); obtain ⟨⟨f0, f1⟩, f2, f3⟩ := HS.out _ E3.out; obtain ⟨f4, f5⟩ := BX3.out.cells; clear hp3 hf3 hb3)
      | (go_at_call 10; refine (HDS.out _ _ (E3.out.past HP2.out).strs).mono ?_; rintro e w5 ⟨v5, rfl, hp5, hf5, hb5⟩; obtain ⟨a5, c5, hv5⟩ := past_slice hp5 HM.out; subst hv5; have E5' : Ext W2 w5 := Ext.call E3.out hb5; have E5 : Hid (Ext W2 (w5.alloc (.cells #[.string x0, .slice a5 m c5] 25))) := E5'.alloc _; have BX5 := Lib.hid ((BX3.out.ext hb5).ext ((Ext.refl w5).alloc (.cells #[.string x0, .slice a5 m c5] 25))); have BY5 := Lib.hid (box_new (A := W2.heap.size) (x := x0) hp5 (fresh_ext E3.out hf5) (Ext.size E5')); obtain ⟨⟨g0, g1⟩, g2, g3⟩ := HS.out _ E5.out; obtain ⟨g4, g5⟩ := BX5.out.cells; obtain ⟨g6, g7⟩ := BY5.out.cells; have SM5 := Lib.hid (same_is x0 x0 _ _ y0 y0 _ BX5.out.past.strs BY5.out.past.strs (by rw [HM.out]; omega) true (tt x0 y0)); clear hp5 hf5 hb5)
      | (go_at_call 11; refine SM5.out.mono ?_; rintro e w7 ⟨rfl, hb7⟩; have E7 := Lib.hid (Ext.call E5.out hb7); have BX7 := Lib.hid (BX5.out.ext hb7); obtain ⟨⟨i0, i1⟩, i2, i3⟩ := HS.out _ E7.out; obtain ⟨i4, i5⟩ := BX7.out.cells; clear hb7))
    cases b0
    · by_cases hok : deskOk s zs = true
      · obtain ⟨e1, e2⟩ := do_not HDO.out hok
        subst e1 e2
        have SM8 := Lib.hid (same_is x0 x0 _ _ y0 y0 _ BX7.out.past.strs (E7.out.past HP2.out).strs (by rw [HM.out]; omega) true (tt x0 y0))
        clear hok
        go_wp2_with (first
          | (go_at_call 11; refine SM8.out.mono ?_; rintro e w8 ⟨rfl, hb8⟩; have E8 := Lib.hid (Ext.call E7.out hb8); clear hb8)
          | (go_at_call 13; refine (alive_yes _).mono ?_; rintro e w' ⟨rfl, rfl⟩))
        go_ret
        exact ⟨rfl, Ext.below hB2 E8.out hB2s⟩
      · obtain ⟨c, hc⟩ : ∃ c, (decide (x0 = s) && decide (y0 = zs)) = c := ⟨_, rfl⟩
        have SM8 := Lib.hid (same_is x0 s _ _ y0 zs _ BX7.out.past.strs (E7.out.past HP2.out).strs (by rw [HL.out]; omega) c hc)
        have OK8 : Hid (∀ X, Ext W2 X → Calls Tryd.prog 12 #[.agg #[.string s, .slice aU L cU]] X fun e w' => e = .returned (.bool false) ∧ Below X.heap.size X w') := fun X hX => ok_is s _ zs X (hX.past HP2.out) (by omega) (by rw [HL.out]; omega) HZ.out false (by simpa using hok)
        clear hc hok
        cases c
        · go_wp2_with (first
            | (go_at_call 11; refine SM8.out.mono ?_; rintro e w8 ⟨rfl, hb8⟩; have E8 := Lib.hid (Ext.call E7.out hb8); obtain ⟨⟨k0, k1⟩, k2, k3⟩ := HS.out _ E8.out; clear hb8)
            | (go_at_call 12; refine (OK8.out _ E8.out).mono ?_; rintro e w9 ⟨rfl, hb9⟩; have E9 := Lib.hid (Ext.call E8.out hb9); clear hb9)
            | (go_at_call 13; refine (alive_yes _).mono ?_; rintro e w' ⟨rfl, rfl⟩))
          go_ret
          exact ⟨rfl, Ext.below hB2 E9.out hB2s⟩
        · go_wp2_with (first
            | (go_at_call 11; refine SM8.out.mono ?_; rintro e w8 ⟨rfl, hb8⟩; have E8 := Lib.hid (Ext.call E7.out hb8); clear hb8)
            | (go_at_call 13; refine (alive_yes _).mono ?_; rintro e w' ⟨rfl, rfl⟩))
          go_ret
          exact ⟨rfl, Ext.below hB2 E8.out hB2s⟩
    · obtain ⟨x9, hx9⟩ : ∃ x, (deskDo x0 y0 5 0).1 = x := ⟨_, rfl⟩
      obtain ⟨y9, hy9'⟩ : ∃ x, (deskDo x0 y0 5 0).2.1 = x := ⟨_, rfl⟩
      obtain ⟨b9, hb9'⟩ : ∃ x, (deskDo x0 y0 5 0).2.2 = x := ⟨_, rfl⟩
      have HDO9 : Hid (deskDo x0 y0 5 0 = (x9, y9, b9)) := by show deskDo x0 y0 5 0 = _; rw [← hx9, ← hy9', ← hb9']
      have HDI9 : Hid (∀ (u : Value) (W : World), PastAt W u y0 → WaysAt W → DirsAt W → Calls Tryd.prog 9 #[.agg #[.string x0, u], .agg #[.int .i64 5, .int .i64 0]] W (DeskOut W x9 y9 b9)) := fun u W hu hww hdd => by
        have := implDeskDo x0 u y0 5 0 W hu (by omega) (by rw [HM.out]; omega) (fun z hz => by have := HY41.out z hz; omega) hww hdd
        rwa [hx9, hy9', hb9'] at this
      obtain ⟨m9, hm9⟩ : ∃ m, y9.length = m := ⟨_, rfl⟩
      have HM9 := Lib.hid hm9
      have HOK1 := Lib.hid (do_ok HDO.out).2
      clear hx9 hy9' hb9' hm9
      go_upto_region 11 with (go_at_call 9; refine (HDI9.out _ _ BX7.out.past (HW2.out.below' E7.out) (HD2.out.below' E7.out)).mono ?_; rintro e w9 ⟨v9, rfl, hp9, hf9, hb9⟩; obtain ⟨a9, c9, hv9⟩ := past_slice hp9 HM9.out; subst hv9; have E9' : Ext W2 w9 := Ext.call E7.out hb9; have E9 : Hid (Ext W2 (w9.alloc (.cells #[.string x9, .slice a9 m9 c9] 25))) := E9'.alloc _; have BX9 := Lib.hid ((BX7.out.ext hb9).ext ((Ext.refl w9).alloc (.cells #[.string x9, .slice a9 m9 c9] 25))); have BZ9 := Lib.hid (box_new (A := W2.heap.size) (x := x9) hp9 (fresh_ext E7.out hf9) (Ext.size E9')); clear hp9 hf9 hb9)
      obtain ⟨A9, hA9⟩ : ∃ A9, w9.alloc (.cells #[.string x9, .slice a9 m9 c9] 25) = A9 := ⟨_, rfl⟩
      rw [hA9] at E9 BX9 BZ9 ⊢
      obtain ⟨N9, hN9⟩ : ∃ N9, w9.heap.size = N9 := ⟨_, rfl⟩
      rw [hN9] at BZ9 ⊢
      have HS9 : Hid (∀ X, Ext A9 X → ((X.cell? ⟨D1, 0, none⟩ = some (.string s) ∧ X.cell? ⟨D1, 1, none⟩ = some (.slice aU L cU)) ∧ X.cell? ⟨D1 + 1, 0, none⟩ = some (.int .i64 K) ∧ X.cell? ⟨D1 + 1, 1, none⟩ = some (.int .i64 M)) ∧ (X.cell? ⟨w3.heap.size, 0, none⟩ = some (.string x0) ∧ X.cell? ⟨w3.heap.size, 1, none⟩ = some (.slice a3 m c3)) ∧ (X.cell? ⟨N9, 0, none⟩ = some (.string x9) ∧ X.cell? ⟨N9, 1, none⟩ = some (.slice a9 m9 c9))) := fun X hX => ⟨HS.out X (E9.out.trans hX), (BX9.out.ext hX).cells, (BZ9.out.ext hX).cells⟩
      have OK9 : Hid (Calls Tryd.prog 12 #[.agg #[.string x0, .slice a3 m c3]] A9 fun e w' => e = .returned (.bool true) ∧ Below A9.heap.size A9 w') := ok_is x0 _ y0 A9 BX9.out.past (by omega) (by rw [HM.out]; omega) (fun z hz => by have := HY41.out z hz; omega) true HOK1.out
      have HCL : Hid (∀ (c : Bool) X, Tw.closed s.data.toList = c → Ext A9 X → Calls Tryd.prog 14 #[.string s] X fun e w' => e = .returned (.bool c) ∧ Below X.heap.size X w') := fun c X hc hX => closed_is s X (by omega) (HD2.out.below' (E9.out.trans hX)) c hc
      obtain ⟨c, hc⟩ : ∃ c, Tw.closed s.data.toList = c := ⟨_, rfl⟩
      have HC := Lib.hid hc
      clear hA9 hN9 hc
      obtain ⟨⟨⟨d90, d91⟩, d92, d93⟩, ⟨x90, x91⟩, z90, z91⟩ := HS9.out _ (Ext.refl _)
      have hL8 : ((8 : Int) ≤ (L : Int)) ∨ (L < 8 ∧ (L : Int) < 8) := by omega
      clear d0 d1 d2 d3 f0 f1 f2 f3 f4 f5 g0 g1 g2 g3 g4 g5 g6 g7 i0 i1 i2 i3 i4 i5
      rcases kinds K with (rfl | hk3) | ⟨q5, q2, q3, q4⟩
      · go_wp2_with (first
          | (go_at_call 12; refine OK9.out.mono ?_; rintro e w10 ⟨rfl, hb10⟩; have F10 : Hid (Ext A9 w10) := hb10; obtain ⟨⟨⟨k0, k1⟩, k2, k3⟩, ⟨k4, k5⟩, k6, k7⟩ := HS9.out _ F10.out; clear hb10)
          | (go_at_call 11; refine (same_is s s _ _ zs zs _ (F10.out.past BZ9.out.past).strs ((E9.out.trans F10.out).past HP2.out).strs (by rw [HL.out]; omega) true (tt s zs)).mono ?_; rintro e w11 ⟨rfl, hb11⟩; have F11 := Lib.hid (Ext.call F10.out hb11); obtain ⟨⟨⟨l0, l1⟩, l2, l3⟩, ⟨l4, l5⟩, l6, l7⟩ := HS9.out _ F11.out; clear hb11)
          | (go_at_call 14; first
              | (have hq := F11; refine (HCL.out _ _ HC.out F11.out).mono ?_; rintro e w12 ⟨rfl, hb12⟩; have F12 := Lib.hid (Ext.call F11.out hb12); obtain ⟨⟨⟨m0, m1⟩, m2, m3⟩, ⟨m4, m5⟩, m6, m7⟩ := HS9.out _ F12.out; clear hb12)
              | (refine (HCL.out _ _ HC.out F10.out).mono ?_; rintro e w12 ⟨rfl, hb12⟩; have F12 := Lib.hid (Ext.call F10.out hb12); obtain ⟨⟨⟨m0, m1⟩, m2, m3⟩, ⟨m4, m5⟩, m6, m7⟩ := HS9.out _ F12.out; clear hb12))
          | (go_at_call 15; refine (HSH.out _ F12.out).mono ?_; rintro e w13 ⟨rfl, hb13⟩; have F13 := Lib.hid (Ext.call F12.out hb13); clear hb13)
          | (go_at_call 13; refine (alive_yes _).mono ?_; rintro e w' ⟨rfl, rfl⟩))
        go_ret
        first
          | exact ⟨rfl, Ext.below hB2 (E9.out.trans F13.out) hB2s⟩
          | exact ⟨rfl, Ext.below hB2 (E9.out.trans F12.out) hB2s⟩
          | exact ⟨rfl, Ext.below hB2 (E9.out.trans F11.out) hB2s⟩
          | exact ⟨rfl, Ext.below hB2 (E9.out.trans F10.out) hB2s⟩
      · have HSH : c = false ∨ (c = true ∧ Hid (∀ X, Ext A9 X → Calls Tryd.prog 15 #[.string x0, .string s] X fun e w' => e = .returned (.bool true) ∧ Below X.heap.size X w')) := by
          cases c
          · exact .inl rfl
          · exact .inr ⟨rfl, (Lib.hid (fun X hX => shape_is x0 s X (by omega) (by omega) (HW2.out.below' (E9.out.trans hX)) (HD2.out.below' (E9.out.trans hX)) true (do_shape HDO.out hk3 HC.out)))⟩
        rcases hL8 with h8 | h8
        · rcases hk3 with rfl | rfl | rfl <;> rcases HSH with rfl | ⟨rfl, HSH⟩
          all_goals
            go_wp2_with (first
              | (go_at_call 12; refine OK9.out.mono ?_; rintro e w10 ⟨rfl, hb10⟩; have F10 : Hid (Ext A9 w10) := hb10; obtain ⟨⟨⟨k0, k1⟩, k2, k3⟩, ⟨k4, k5⟩, k6, k7⟩ := HS9.out _ F10.out; clear hb10)
              | (go_at_call 11; refine (same_is s s _ _ zs zs _ (F10.out.past BZ9.out.past).strs ((E9.out.trans F10.out).past HP2.out).strs (by rw [HL.out]; omega) true (tt s zs)).mono ?_; rintro e w11 ⟨rfl, hb11⟩; have F11 := Lib.hid (Ext.call F10.out hb11); obtain ⟨⟨⟨l0, l1⟩, l2, l3⟩, ⟨l4, l5⟩, l6, l7⟩ := HS9.out _ F11.out; clear hb11)
              | (go_at_call 14; first
                  | (have hq := F11; refine (HCL.out _ _ HC.out F11.out).mono ?_; rintro e w12 ⟨rfl, hb12⟩; have F12 := Lib.hid (Ext.call F11.out hb12); obtain ⟨⟨⟨m0, m1⟩, m2, m3⟩, ⟨m4, m5⟩, m6, m7⟩ := HS9.out _ F12.out; clear hb12)
                  | (refine (HCL.out _ _ HC.out F10.out).mono ?_; rintro e w12 ⟨rfl, hb12⟩; have F12 := Lib.hid (Ext.call F10.out hb12); obtain ⟨⟨⟨m0, m1⟩, m2, m3⟩, ⟨m4, m5⟩, m6, m7⟩ := HS9.out _ F12.out; clear hb12))
              | (go_at_call 15; refine (HSH.out _ F12.out).mono ?_; rintro e w13 ⟨rfl, hb13⟩; have F13 := Lib.hid (Ext.call F12.out hb13); clear hb13)
              | (go_at_call 13; refine (alive_yes _).mono ?_; rintro e w' ⟨rfl, rfl⟩))
            go_ret
            first
              | exact ⟨rfl, Ext.below hB2 (E9.out.trans F13.out) hB2s⟩
              | exact ⟨rfl, Ext.below hB2 (E9.out.trans F12.out) hB2s⟩
              | exact ⟨rfl, Ext.below hB2 (E9.out.trans F11.out) hB2s⟩
              | exact ⟨rfl, Ext.below hB2 (E9.out.trans F10.out) hB2s⟩
        · obtain ⟨e1, e2, e3⟩ : x9 = s ∧ y9 = zs ∧ b9 = true := by
            have h9 := do_undo HDO.out (by omega) (by rw [HL.out]; exact h8.1)
            rw [HDO9.out] at h9
            simpa using h9
          obtain rfl := e1.symm
          obtain rfl := e2.symm
          subst e3
          rcases hk3 with rfl | rfl | rfl <;> rcases HSH with rfl | ⟨rfl, HSH⟩
          all_goals
            go_wp2_with (first
              | (go_at_call 12; refine OK9.out.mono ?_; rintro e w10 ⟨rfl, hb10⟩; have F10 : Hid (Ext A9 w10) := hb10; obtain ⟨⟨⟨k0, k1⟩, k2, k3⟩, ⟨k4, k5⟩, k6, k7⟩ := HS9.out _ F10.out; clear hb10)
              | (go_at_call 11; refine (same_is s s _ _ zs zs _ (F10.out.past BZ9.out.past).strs ((E9.out.trans F10.out).past HP2.out).strs (by rw [HL.out]; omega) true (tt s zs)).mono ?_; rintro e w11 ⟨rfl, hb11⟩; have F11 := Lib.hid (Ext.call F10.out hb11); obtain ⟨⟨⟨l0, l1⟩, l2, l3⟩, ⟨l4, l5⟩, l6, l7⟩ := HS9.out _ F11.out; clear hb11)
              | (go_at_call 14; first
                  | (have hq := F11; refine (HCL.out _ _ HC.out F11.out).mono ?_; rintro e w12 ⟨rfl, hb12⟩; have F12 := Lib.hid (Ext.call F11.out hb12); obtain ⟨⟨⟨m0, m1⟩, m2, m3⟩, ⟨m4, m5⟩, m6, m7⟩ := HS9.out _ F12.out; clear hb12)
                  | (refine (HCL.out _ _ HC.out F10.out).mono ?_; rintro e w12 ⟨rfl, hb12⟩; have F12 := Lib.hid (Ext.call F10.out hb12); obtain ⟨⟨⟨m0, m1⟩, m2, m3⟩, ⟨m4, m5⟩, m6, m7⟩ := HS9.out _ F12.out; clear hb12))
              | (go_at_call 15; refine (HSH.out _ F12.out).mono ?_; rintro e w13 ⟨rfl, hb13⟩; have F13 := Lib.hid (Ext.call F12.out hb13); clear hb13)
              | (go_at_call 13; refine (alive_yes _).mono ?_; rintro e w' ⟨rfl, rfl⟩))
            go_ret
            first
              | exact ⟨rfl, Ext.below hB2 (E9.out.trans F13.out) hB2s⟩
              | exact ⟨rfl, Ext.below hB2 (E9.out.trans F12.out) hB2s⟩
              | exact ⟨rfl, Ext.below hB2 (E9.out.trans F11.out) hB2s⟩
              | exact ⟨rfl, Ext.below hB2 (E9.out.trans F10.out) hB2s⟩
      · have hne5 : K ≠ 5 := ne_of_beq_false q5
        rcases hL8 with h8 | h8
        · clear hne5
          go_wp2_with (first
            | (go_at_call 12; refine OK9.out.mono ?_; rintro e w10 ⟨rfl, hb10⟩; have F10 : Hid (Ext A9 w10) := hb10; obtain ⟨⟨⟨k0, k1⟩, k2, k3⟩, ⟨k4, k5⟩, k6, k7⟩ := HS9.out _ F10.out; clear hb10)
            | (go_at_call 11; refine (same_is s s _ _ zs zs _ (F10.out.past BZ9.out.past).strs ((E9.out.trans F10.out).past HP2.out).strs (by rw [HL.out]; omega) true (tt s zs)).mono ?_; rintro e w11 ⟨rfl, hb11⟩; have F11 := Lib.hid (Ext.call F10.out hb11); obtain ⟨⟨⟨l0, l1⟩, l2, l3⟩, ⟨l4, l5⟩, l6, l7⟩ := HS9.out _ F11.out; clear hb11)
            | (go_at_call 14; first
                | (have hq := F11; refine (HCL.out _ _ HC.out F11.out).mono ?_; rintro e w12 ⟨rfl, hb12⟩; have F12 := Lib.hid (Ext.call F11.out hb12); obtain ⟨⟨⟨m0, m1⟩, m2, m3⟩, ⟨m4, m5⟩, m6, m7⟩ := HS9.out _ F12.out; clear hb12)
                | (refine (HCL.out _ _ HC.out F10.out).mono ?_; rintro e w12 ⟨rfl, hb12⟩; have F12 := Lib.hid (Ext.call F10.out hb12); obtain ⟨⟨⟨m0, m1⟩, m2, m3⟩, ⟨m4, m5⟩, m6, m7⟩ := HS9.out _ F12.out; clear hb12))
            | (go_at_call 15; refine (HSH.out _ F12.out).mono ?_; rintro e w13 ⟨rfl, hb13⟩; have F13 := Lib.hid (Ext.call F12.out hb13); clear hb13)
            | (go_at_call 13; refine (alive_yes _).mono ?_; rintro e w' ⟨rfl, rfl⟩))
          go_ret
          first
            | exact ⟨rfl, Ext.below hB2 (E9.out.trans F13.out) hB2s⟩
            | exact ⟨rfl, Ext.below hB2 (E9.out.trans F12.out) hB2s⟩
            | exact ⟨rfl, Ext.below hB2 (E9.out.trans F11.out) hB2s⟩
            | exact ⟨rfl, Ext.below hB2 (E9.out.trans F10.out) hB2s⟩
        · obtain ⟨e1, e2, e3⟩ : x9 = s ∧ y9 = zs ∧ b9 = true := by
            have h9 := do_undo HDO.out hne5 (by rw [HL.out]; exact h8.1)
            rw [HDO9.out] at h9
            simpa using h9
          obtain rfl := e1.symm
          obtain rfl := e2.symm
          subst e3
          clear hne5
          go_wp2_with (first
            | (go_at_call 12; refine OK9.out.mono ?_; rintro e w10 ⟨rfl, hb10⟩; have F10 : Hid (Ext A9 w10) := hb10; obtain ⟨⟨⟨k0, k1⟩, k2, k3⟩, ⟨k4, k5⟩, k6, k7⟩ := HS9.out _ F10.out; clear hb10)
            | (go_at_call 11; refine (same_is s s _ _ zs zs _ (F10.out.past BZ9.out.past).strs ((E9.out.trans F10.out).past HP2.out).strs (by rw [HL.out]; omega) true (tt s zs)).mono ?_; rintro e w11 ⟨rfl, hb11⟩; have F11 := Lib.hid (Ext.call F10.out hb11); obtain ⟨⟨⟨l0, l1⟩, l2, l3⟩, ⟨l4, l5⟩, l6, l7⟩ := HS9.out _ F11.out; clear hb11)
            | (go_at_call 14; first
                | (have hq := F11; refine (HCL.out _ _ HC.out F11.out).mono ?_; rintro e w12 ⟨rfl, hb12⟩; have F12 := Lib.hid (Ext.call F11.out hb12); obtain ⟨⟨⟨m0, m1⟩, m2, m3⟩, ⟨m4, m5⟩, m6, m7⟩ := HS9.out _ F12.out; clear hb12)
                | (refine (HCL.out _ _ HC.out F10.out).mono ?_; rintro e w12 ⟨rfl, hb12⟩; have F12 := Lib.hid (Ext.call F10.out hb12); obtain ⟨⟨⟨m0, m1⟩, m2, m3⟩, ⟨m4, m5⟩, m6, m7⟩ := HS9.out _ F12.out; clear hb12))
            | (go_at_call 15; refine (HSH.out _ F12.out).mono ?_; rintro e w13 ⟨rfl, hb13⟩; have F13 := Lib.hid (Ext.call F12.out hb13); clear hb13)
            | (go_at_call 13; refine (alive_yes _).mono ?_; rintro e w' ⟨rfl, rfl⟩))
          go_ret
          first
            | exact ⟨rfl, Ext.below hB2 (E9.out.trans F13.out) hB2s⟩
            | exact ⟨rfl, Ext.below hB2 (E9.out.trans F12.out) hB2s⟩
            | exact ⟨rfl, Ext.below hB2 (E9.out.trans F11.out) hB2s⟩
            | exact ⟨rfl, Ext.below hB2 (E9.out.trans F10.out) hB2s⟩
  · have hn' : 1048576 < n := by omega
    go_enter Tryd.func3, Tryd.ntmps3
    go_wp2_with fail
    go_ret
    exact ⟨rfl, Below.refl _ _⟩

set_option maxRecDepth 100000 in
theorem own : ownKnob Tryd.prog.godebug = none := by kernel_rfl
set_option maxRecDepth 100000 in
theorem laidOut : laidOutB Tryd.prog = true := by kernel_rfl
set_option maxRecDepth 100000 in
theorem rowed : rowsOk Tryd.prog Tryd.f3.params.toList = true := by kernel_rfl
set_option maxRecDepth 100000 in
theorem varred : varsOk Tryd.prog Rows.fnDeskDoSpec.vars = true := by kernel_rfl
set_option maxRecDepth 100000 in
theorem resType : Tryd.f3.resultTypes = #[4] := by kernel_rfl

set_option maxRecDepth 100000 in
theorem contract (H : Type) (enc : TypeId × Value → H) (W : World) (base : Nat) (args : Array Value) (ds gs : List (DataW H)) (before : List MemPlace)
    (hval : ∀ (j : Nat) t v, Tryd.f3.params[j]? = some t → args[j]? = some v → Value.okWide Tryd.prog W .any base t v)
    (hW : DataW.Whole enc Tryd.prog Tryd.f3.params.toList Rows.fnDeskDoSpec.vars false W args.toList ds gs before) (hL : laidMetH Tryd.prog Rows.fnDeskDoRow.laid W) :
    Calls Tryd.prog 3 args W fun e W' => ∃ v, e = .returned v ∧ Rows.fnDeskDoSpec.post enc Tryd.prog Tryd.f3 false true false false W args v W' := by
  have hW' := hW
  obtain ⟨p, q, hA0, hV, rfl, hfz, hnd⟩ := hW
  have hA : DataW.TrodAll enc Tryd.prog W 0 (fun _ => true) true Tryd.f3.params.toList args.toList ds p := hA0
  rw [Tryd.params3] at hA hval
  obtain ⟨v0, vs0, d0, ds0, p0, q0, hargs, rfl, rfl, h0, r0⟩ := trodAll_cons hA
  obtain ⟨rfl, rfl, rfl⟩ := trodAll_nil r0
  obtain rfl : args = #[v0] := by cases args; simp_all
  obtain ⟨g0, g1, rfl⟩ := trodVars_len2 hV
  obtain ⟨n0, hcode0⟩ := open_code (hval 0 22 v0 rfl rfl) h0
  have t_ways : WaysAt W := waysAt (by kernel_rfl) hL (by simp [Rows.fnDeskDoRow])
  have t_dirs : DirsAt W := dirsAt (by kernel_rfl) hL (by simp [Rows.fnDeskDoRow])
  refine (walk v0 n0 W t_ways t_dirs hcode0).mono fun e W' ⟨he, hb⟩ => ?_
  subst he
  exact ⟨_, rfl, law_post laidOut rowed varred resType Tryd.underlying4 hW' ⟨rfl, rfl, rfl⟩ hb⟩

/-- A world for the witness: the settled one, the listed variables holding what their initialisers lay. -/
noncomputable def laidWorld (os : Os) : World := { World.holding Tryd.prog os ⟨#[], #[], []⟩ with heap := (((World.holding Tryd.prog os ⟨#[], #[], []⟩).heap.modify 0 fun
      | .cells _ t frozen => .cells #[.string ⟨#[101, 110, 119, 115]⟩, .string ⟨#[110, 119, 115, 101]⟩, .string ⟨#[119, 115, 101, 110]⟩, .string ⟨#[115, 101, 110, 119]⟩, .string ⟨#[101, 115, 119, 110]⟩, .string ⟨#[110, 101, 115, 119]⟩, .string ⟨#[119, 110, 101, 115]⟩, .string ⟨#[115, 119, 110, 101]⟩] t frozen
      | o => o).modify 2 fun
      | .cells _ t frozen => .cells #[.int .i64 1, .int .i64 0, .int .i64 0, .int .i64 1, .int .i64 (-1), .int .i64 0, .int .i64 0, .int .i64 (-1)] t frozen
      | o => o) }
set_option maxRecDepth 100000 in
theorem laid_met (os : Os) : laidMet Tryd.prog Rows.fnDeskDoRow.laid ((laidWorld os).forCall (fun _ _ => 0) ⟨#[], #[.slice none 0 0], []⟩).memory := laidMet_of_run' 8 (by kernel_rfl) (by kernel_rfl)
set_option maxRecDepth 100000 in
theorem reads (os : Os) {H : Type} (enc : TypeId × Value → H) : ∃ places, DataW.whole enc Tryd.prog ((laidWorld os).forCall (fun _ _ => 0) ⟨#[], #[.slice none 0 0], []⟩).memory Tryd.f3.params.toList Rows.fnDeskDoSpec.vars false (#[.slice none 0 0] : Array Value).toList 8 = some ([.nil], [Rows.laid_loop_example_turtlewalks_impl_wayLetters, Rows.laid_loop_example_turtlewalks_impl_directions], places) := ⟨MemPlace.row ⟨0, 0, none⟩ 8 ++ MemPlace.row ⟨2, 0, none⟩ 8, by kernel_rfl⟩

set_option maxRecDepth 100000 in
theorem lifted (os : Os) (started : os.Started) (H : Type) (enc : TypeId × Value → H) (F : Stop.Interp) :
    ReturnsInHanded {} Tryd.checked os 3 .any ((OpenSpec.ofChange Rows.fnDeskDoSpec).preRow enc Tryd.prog Tryd.f3 Rows.fnDeskDoRow.domain false Rows.fnDeskDoRow.laid) (((OpenSpec.ofChange Rows.fnDeskDoSpec).at F).post enc Tryd.prog Tryd.f3 false true false false) := by
  obtain ⟨places, hx⟩ := reads os enc
  refine returnsInHanded_of_row (C := Tryd.checked) (s := OpenSpec.ofChange Rows.fnDeskDoSpec) own started (by kernel_rfl) Tryd.func3
    (witness_row_at (enc := enc) (C := Tryd.checked) false (laidWorld os) #[.slice none 0 0] rfl (by kernel_rfl) (by kernel_rfl) (by kernel_rfl)
      (OpenSpec.preRow_of_cond 8 hx (by kernel_rfl) (fun k hk => by cases hk) (by kernel_rfl) (laid_met os))) ?_
  intro W base args ds gs before hval hW _ _ _ hL _ _
  exact contract H enc W base args ds gs before hval hW hL

set_option maxRecDepth 100000 in
theorem said : Rows.FnDeskDoSaid :=
  OpenClaim.holds_of_cond 3 Tryd.f3 rfl rfl rfl rfl rfl rfl rfl ⟨rfl, rfl, rfl, rfl, rfl⟩ rfl rfl rfl rfl rfl (by kernel_rfl) Tryd.func3 (by kernel_rfl)
    (of_decide_eq_true (by kernel_rfl)) (by unfold Func.isWrapper; first | (rw [if_pos (by decide +kernel)]; kernel_rfl) | (rw [if_neg (by decide +kernel)]; exact ⟨rfl, rfl⟩))
    (fun os started H enc _ F => by rw [OpenClaim.pre_eq_preRow]; exact lifted os started H enc F)

set_option maxRecDepth 100000 in
theorem plain (f : FuncId) (fn : Func) (hf : Tryd.pinned.checked.prog.funcNamed "loop.example/turtlewalks/laws.FnDeskDo" = some f) (hfn : Tryd.pinned.checked.prog.funcs[f]? = some fn) :
    false = Tryd.pinned.checked.prog.looks [] ∧ ∀ (j : Nat) t, fn.params[j]? = some t → Tryd.pinned.checked.prog.wantsStandIn t = false := by
  obtain rfl : f = 3 := Option.some.inj ((show Tryd.prog.funcNamed "loop.example/turtlewalks/laws.FnDeskDo" = some 3 by kernel_rfl).symm.trans hf) |>.symm
  obtain rfl : fn = Tryd.f3 := (Option.some.inj (Tryd.func3.symm.trans hfn)).symm
  refine ⟨by kernel_rfl, fun j t ht => ?_⟩
  rw [Tryd.params3] at ht
  have hm : t ∈ [22] := by simpa using Array.mem_of_getElem? ht
  have hall : ([22].all fun u => !Tryd.prog.wantsStandIn u) = true := by kernel_rfl
  exact (show Tryd.prog.wantsStandIn t = false by simpa using List.all_eq_true.1 hall t hm)

set_option maxRecDepth 100000 in
theorem card : Rows.FnDeskDoCardSaid :=
  Claim7.holds_tied_plain_at .later [] _ _ _ _ said (fun _ h => by cases h) (by kernel_rfl) (fun _ h => by cases h) fnDeskDo_row_tie rfl ⟨rfl, rfl⟩ (by kernel_rfl) rfl plain (by kernel_rfl)

end Go.Proofs.YtpkenccgjlhnlaaDoor.fnDeskDo
