/-
  FnJournalText: for every code: the journal of the drawn deeds, if there is one, is read as these deeds, to its end. No condition beyond what the given statement itself bears.
-/
import Derived.Test.YtpkenccgjlhnlaaDoorExt
import Derived.Test.YtpkenccgjlhnlaaDoorDeeds
import Derived.Test.YtpkenccgjlhnlaaDoorDeed
import Derived.Test.YtpkenccgjlhnlaaDoorBase
import Derived.Lib.Builder
import Derived.Lib.UnsafeStr
import Derived.Lib.Walk
import Derived.Lib.Strings
import Derived.Lib.AppendStr
import Derived.Laws.Externs
import Derived.Maps.AppendAt
import Derived.Test.YtpkenccgjlhnlaaDoorSteps
import Derived.Test.YtpkenccgjlhnlaaDoorDrawDesks
import Derived.Lib.CutLaws
import Derived.Test.YtpkenccgjlhnlaaDoorDeskDone
import Derived.Lib.IndexLaws
import Derived.Lib.IndexBytes
import Derived.Laws.AppendOwnNone
import Derived.Deep.AppendLies
import Derived.BigQuiet
import Derived.Deep.QuietTactic
import Derived.Test.YtpkenccgjlhnlaaDoorPure
import Derived.Test.YtpkenccgjlhnlaaDoorTabs
import Derived.Test.YtpkenccgjlhnlaaDoorRows
import Derived.WalkKit
import Derived.ProofKit
import Derived.OpenShut
import Derived.Carry
import Derived.WalkSmall
import Derived.MakeChecks
import Derived.Deep.DeepHandedRow
import Derived.Lib.LaidTab
import Derived.Test.YtpkenccgjlhnlaaDoorDraw
import Derived.ChangeSlices
import Derived.Test.YtpkenccgjlhnlaaDoorCards
import Derived.Test.YtpkenccgjlhnlaaDoorTie

namespace Go.Proofs.YtpkenccgjlhnlaaDoor
open Go.RowKit

/-- Deeds in a row that is known whole. -/
def RowAt (w : World) (v : Value) (ds : List (Int × Int)) : Prop :=
  (v = .slice none 0 0 ∧ ds = []) ∨ ∃ (g cap : Nat) (cur : Array Value), v = .slice (some ⟨g, 0, none⟩) ds.length cap ∧ ds.length ≤ cap ∧ w.heap[g]? = some (.cells cur 27 (0, 0)) ∧ cap * 2 ≤ cur.size ∧ ∀ (j : Nat) (d : Int × Int), ds[j]? = some d → cur[j * 2]? = some (.int .i64 d.1) ∧ cur[j * 2 + 1]? = some (.int .i64 d.2)
theorem RowAt.deeds {w : World} {v : Value} {ds : List (Int × Int)} (h : RowAt w v ds) : DeedsAt w v ds := by
  rcases h with h | ⟨g, cap, cur, rfl, hl, hg, _, hc⟩
  · exact .inl h
  · refine .inr ⟨⟨g, 0, none⟩, cap, rfl, hl, fun j d hd => ?_⟩
    rw [add_plain, Nat.zero_add]
    exact ⟨(cell_of_row _ _ _ _ _ _ hg).trans (hc j d hd).1, (cell_of_row _ _ _ _ _ _ hg).trans (hc j d hd).2⟩
theorem RowAt.ext {w X : World} {v : Value} {ds : List (Int × Int)} (h : RowAt w v ds) (e : Ext w X) : RowAt X v ds := by
  rcases h with h | ⟨g, cap, cur, rfl, hl, hg, hz, hc⟩
  · exact .inl h
  · exact .inr ⟨g, cap, cur, rfl, hl, e.row hg, hz, hc⟩
theorem RowAt.lt {w : World} {v : Value} {ds : List (Int × Int)} (h : RowAt w v ds) {b : Nat} (hb : v.ownBlock = some b) : b < w.heap.size := by
  rcases h with ⟨rfl, _⟩ | ⟨g, _, _, rfl, _, hg, _⟩
  · cases hb
  · obtain rfl : g = b := Option.some.inj hb
    exact lt_at hg
theorem RowAt.belowB {w w' : World} {v : Value} {ds : List (Int × Int)} {B : Nat} (h : RowAt w v ds) (hv : ∀ b, v.ownBlock = some b → b < B) (hb : Below B w w') : RowAt w' v ds := by
  rcases h with h | ⟨g, cap, cur, rfl, hl, hg, hz, hc⟩
  · exact .inl h
  · exact .inr ⟨g, cap, cur, rfl, hl, (hb.block _ (hv g rfl)).trans hg, hz, hc⟩
theorem row_but {w w' : World} {g n cap : Nat} {u : Value} {ds : List (Int × Int)} (h : RowAt w (.slice (some ⟨g, 0, none⟩) n cap) ds) (k : But u w w') (hne : u.ownBlock ≠ some g) : RowAt w' (.slice (some ⟨g, 0, none⟩) n cap) ds := by
  rcases h with ⟨h, _⟩ | ⟨g', cap', cur, he, hl, hg, hz, hc⟩
  · cases h
  · simp only [Value.slice.injEq, Option.some.injEq, Addr.mk.injEq, and_true] at he
    obtain ⟨rfl, rfl, rfl⟩ := he
    exact .inr ⟨g, cap, cur, rfl, hl, (k.block g (lt_at hg) hne).trans hg, hz, hc⟩
theorem row_own {w : World} {base n : Nat} {v : Value} {ds : List (Int × Int)} (h : w.ownsRow base 27 2 v n (pairCells ds)) (hn : ds.length = n) : RowAt w v ds := by
  rcases h.2 with ⟨rfl, h0⟩ | ⟨g, cap, cur, rfl, _, hg, hl, _, hs, ht⟩
  · exact .inl ⟨rfl, List.length_eq_zero_iff.1 (by omega)⟩
  · refine .inr ⟨g, cap, cur, by rw [hn], by omega, hg, by omega, fun j d hd => ?_⟩
    have hj := (List.getElem?_eq_some_iff.1 hd).1
    have hp := pairCells_get ds j d hd
    have e : ∀ i, i < n * 2 → cur[i]? = (pairCells ds)[i]? := fun i hi => by
      have := congrArg (·[i]?) ht
      rw [List.getElem?_take, if_pos hi, Array.getElem?_toList] at this
      exact this
    exact ⟨(e _ (by omega)).trans hp.1, (e _ (by omega)).trans hp.2⟩
theorem row_set {w : World} {g n cap j : Nat} {ds : List (Int × Int)} (h : RowAt w (.slice (some ⟨g, 0, none⟩) n cap) ds) (hj : j < n) (a b : Int) : RowAt ((w.setCell ⟨g, j * 2, none⟩ (.int .i64 a)).setCell ⟨g, j * 2 + 1, none⟩ (.int .i64 b)) (.slice (some ⟨g, 0, none⟩) n cap) (ds.set j (a, b)) := by
  rcases h with ⟨h, _⟩ | ⟨g', cap', cur, he, hl, hg, hz, hc⟩
  · cases h
  · simp only [Value.slice.injEq, Option.some.injEq, Addr.mk.injEq, and_true] at he
    obtain ⟨rfl, rfl, rfl⟩ := he
    refine .inr ⟨g, cap, (cur.set! (j * 2) (.int .i64 a)).set! (j * 2 + 1) (.int .i64 b), by rw [List.length_set], by rw [List.length_set]; exact hl, ?_, by simpa using hz, fun i y hi => ?_⟩
    · simp [World.setCell, Array.getElem?_modify, hg]
    · rw [List.getElem?_set] at hi
      simp only [Array.set!_eq_setIfInBounds, Array.getElem?_setIfInBounds, Array.size_setIfInBounds]
      by_cases hij : j = i
      · subst hij
        rw [if_pos rfl] at hi
        have hi2 : (a, b) = y := by
          rw [if_pos hj] at hi
          exact Option.some.inj hi
        subst hi2
        rw [if_neg (by omega), if_pos rfl, if_pos (by omega), if_pos rfl, if_pos (by omega)]
        exact ⟨rfl, rfl⟩
      · rw [if_neg hij] at hi
        rw [if_neg (by omega), if_neg (by omega), if_neg (by omega), if_neg (by omega)]
        exact hc i y hi
theorem row_cells {w : World} {g n cap j : Nat} {ds : List (Int × Int)} (h : RowAt w (.slice (some ⟨g, 0, none⟩) n cap) ds) {d : Int × Int} (hd : ds[j]? = some d) : w.cell? ⟨g, j * 2, none⟩ = some (.int .i64 d.1) ∧ w.cell? ⟨g, j * 2 + 1, none⟩ = some (.int .i64 d.2) ∧ w.frozen? ⟨g, j * 2, none⟩ = false ∧ w.frozen? ⟨g, j * 2 + 1, none⟩ = false := by
  rcases h with ⟨h, _⟩ | ⟨g', cap', cur, he, hl, hg, hz, hc⟩
  · cases h
  · simp only [Value.slice.injEq, Option.some.injEq, Addr.mk.injEq, and_true] at he
    obtain ⟨rfl, _, _⟩ := he
    exact ⟨(cell_of_row _ _ _ _ _ _ hg).trans (hc j d hd).1, (cell_of_row _ _ _ _ _ _ hg).trans (hc j d hd).2, frozen_of_row _ _ _ _ _ hg, frozen_of_row _ _ _ _ _ hg⟩
/-- The marks of deeds. -/
def marksD (k : Int) (n : Nat) : List (Int × Int) := (List.range n).map fun (i : Nat) => (k + 2 * (i : Int), k + 2 * (i : Int) + 1)
theorem marksD_length (k : Int) (n : Nat) : (marksD k n).length = n := by simp [marksD]
theorem marksD_at {k : Int} {n i : Nat} (h : i < n) : (marksD k n)[i]? = some (k + 2 * (i : Int), k + 2 * (i : Int) + 1) := by simp [marksD, h]
theorem marksD_succ (k : Int) (n : Nat) : marksD k (n + 1) = marksD k n ++ [(k + 2 * (n : Int), k + 2 * (n : Int) + 1)] := by unfold marksD; rw [List.range_succ, List.map_append]; rfl
theorem setD_take {ds : List (Int × Int)} {k : Int} {j : Nat} (h : ds.take j = marksD k j) (hj : j < ds.length) : (ds.set j (k + 2 * (j : Int), k + 2 * (j : Int) + 1)).take (j + 1) = marksD k (j + 1) := by
  rw [marksD_succ, List.take_add_one, List.take_set_of_le (Nat.le_refl _), h, List.getElem?_set, if_pos rfl, if_pos hj]
  rfl





end Go.Proofs.YtpkenccgjlhnlaaDoor

namespace Go.Proofs.YtpkenccgjlhnlaaDoor
open Go.RowKit

/-- The words of the deeds lie in their variable. -/
def WordsAt (w : World) : Prop := ∀ i, i < 6 → w.cell? ⟨1, i, none⟩ = some (.string (Tw.str (deedWord i)))
theorem WordsAt.lt {w : World} (h : WordsAt w) : 1 < w.heap.size := World.block_lt_of_cell? w _ (h 0 (by omega))
theorem WordsAt.below {w w' : World} {B : Nat} (h : WordsAt w) (hb : Below B w w') (hB : 1 < B) : WordsAt w' := fun i hi => (hb.cell (p := ⟨_, i, none⟩) hB).trans (h i hi)
theorem WordsAt.below' {w w' : World} (h : WordsAt w) (hb : Below w.heap.size w w') : WordsAt w' := h.below hb h.lt
theorem WordsAt.alloc {w : World} (h : WordsAt w) (o : Obj) : WordsAt (w.alloc o) := h.below ((Below.refl w.heap.size w).alloc (Nat.le_refl _) o) h.lt

theorem text_number {k n : Int} (hk : k = 0 ∨ k = 2 ∨ k = 3) (h0 : 0 ≤ n) (h1 : n ≤ 99) : Tw.str (deedText k n) = Tw.str (deedWord k.toNat) ++ (⟨#[32]⟩ : ByteArray) ++ Tw.str (Lib.decDigits n.toNat) := by
  have e : (⟨#[32]⟩ : ByteArray) = Tw.str [32] := rfl
  rw [e, Tw.str_append, Tw.str_append]
  unfold deedText
  rw [if_pos hk, if_pos ⟨h0, h1⟩]
  simp
theorem text_bad {k n : Int} (hk : k = 0 ∨ k = 2 ∨ k = 3) (h : ¬ (0 ≤ n ∧ n ≤ 99)) : Tw.str (deedText k n) = ⟨#[]⟩ := by
  unfold deedText
  rw [if_pos hk, if_neg h]
  rfl
theorem text_plain {k : Int} (hk : k = 1 ∨ k = 4 ∨ k = 5) : Tw.str (deedText k 0) = Tw.str (deedWord k.toNat) := by
  unfold deedText
  rw [if_neg (by omega), if_pos hk, if_pos rfl]
theorem text_odd {k n : Int} (hk : k = 1 ∨ k = 4 ∨ k = 5) (h : n ≠ 0) : Tw.str (deedText k n) = ⟨#[]⟩ := by
  unfold deedText
  rw [if_neg (by omega), if_pos hk, if_neg h]
  rfl
theorem text_none {k n : Int} (hk : k < 0 ∨ 6 ≤ k) : Tw.str (deedText k n) = ⟨#[]⟩ := by
  unfold deedText
  rw [if_neg (by omega), if_neg (by omega)]
  rfl

theorem itoa_to (n : Int) (h0 : 0 ≤ n) (h1 : n ≤ 99) (x : ByteArray) (hx : Tw.str (Lib.decDigits n.toNat) = x) (w : World) :
    Calls Tryd.prog 82 #[.int .i64 n] w fun e w' => e = .returned (.string x) ∧ w = w' := by
  obtain ⟨m, rfl⟩ := Int.eq_ofNat_of_zero_le h0
  subst hx
  refine (Tryd.strconv_Itoa_small m (by omega) w).mono ?_
  rintro e w' ⟨rfl, rfl⟩
  exact ⟨rfl, rfl⟩

theorem deed_below (k n : Int) (w : World) : Below w.heap.size w (w.alloc (.cells #[.int .i64 k, .int .i64 n] 27)) := (Below.refl _ _).alloc (Nat.le_refl _) _

set_option maxRecDepth 100000 in
set_option maxHeartbeats 800000 in
theorem impl_number0 (n : Int) (w : World) (hw : WordsAt w) (h0 : 0 ≤ n) (h1 : n ≤ 99) (x : ByteArray) (hx2 : x.size ≤ 2) (hx : Hid (Tw.str (Lib.decDigits n.toNat) = x)) :
    Calls Tryd.prog 57 #[.agg #[.int .i64 0, .int .i64 n]] w fun e w' => e = .returned (.string ((⟨#[115, 116, 101, 112]⟩ : ByteArray) ++ ⟨#[32]⟩ ++ x)) ∧ Below w.heap.size w w' := by
  have c : (w.alloc (.cells #[.int .i64 0, .int .i64 n] 27)).cell? ⟨1, 0, none⟩ = some (.string ⟨#[115, 116, 101, 112]⟩) := (hw.alloc (.cells #[.int .i64 0, .int .i64 n] 27)) 0 (by omega)
  have h0' : ¬ n < 0 := by omega
  have h1' : ¬ 99 < n := by omega
  clear hw
  go_enter Tryd.func57, Tryd.ntmps57
  go_wp2_with (first
    | (go_at_call 81; refine (withNumber_any 0 (by omega) _).mono ?_; rintro e w' ⟨rfl, rfl⟩)
    | (go_at_call 82; refine (itoa_to n h0 h1 x hx.out _).mono ?_; rintro e w' ⟨rfl, rfl⟩))
  go_ret
  exact ⟨rfl, deed_below _ _ _⟩

set_option maxRecDepth 100000 in
set_option maxHeartbeats 800000 in
theorem impl_bad0 (n : Int) (w : World) (hw : WordsAt w) (hn : n < 0 ∨ (¬ n < 0 ∧ 99 < n)) :
    Calls Tryd.prog 57 #[.agg #[.int .i64 0, .int .i64 n]] w fun e w' => e = .returned (.string ⟨#[]⟩) ∧ Below w.heap.size w w' := by
  have c : (w.alloc (.cells #[.int .i64 0, .int .i64 n] 27)).cell? ⟨1, 0, none⟩ = some (.string ⟨#[115, 116, 101, 112]⟩) := (hw.alloc (.cells #[.int .i64 0, .int .i64 n] 27)) 0 (by omega)
  clear hw
  rcases hn with hn | ⟨hn, hn2⟩
  all_goals
    go_enter Tryd.func57, Tryd.ntmps57
    go_wp2_with (first
      | (go_at_call 81; refine (withNumber_any 0 (by omega) _).mono ?_; rintro e w' ⟨rfl, rfl⟩))
    go_ret
    exact ⟨rfl, deed_below _ _ _⟩

set_option maxRecDepth 100000 in
set_option maxHeartbeats 800000 in
theorem impl_number2 (n : Int) (w : World) (hw : WordsAt w) (h0 : 0 ≤ n) (h1 : n ≤ 99) (x : ByteArray) (hx2 : x.size ≤ 2) (hx : Hid (Tw.str (Lib.decDigits n.toNat) = x)) :
    Calls Tryd.prog 57 #[.agg #[.int .i64 2, .int .i64 n]] w fun e w' => e = .returned (.string ((⟨#[119, 97, 121]⟩ : ByteArray) ++ ⟨#[32]⟩ ++ x)) ∧ Below w.heap.size w w' := by
  have c : (w.alloc (.cells #[.int .i64 2, .int .i64 n] 27)).cell? ⟨1, 2, none⟩ = some (.string ⟨#[119, 97, 121]⟩) := (hw.alloc (.cells #[.int .i64 2, .int .i64 n] 27)) 2 (by omega)
  have h0' : ¬ n < 0 := by omega
  have h1' : ¬ 99 < n := by omega
  clear hw
  go_enter Tryd.func57, Tryd.ntmps57
  go_wp2_with (first
    | (go_at_call 81; refine (withNumber_any 2 (by omega) _).mono ?_; rintro e w' ⟨rfl, rfl⟩)
    | (go_at_call 82; refine (itoa_to n h0 h1 x hx.out _).mono ?_; rintro e w' ⟨rfl, rfl⟩))
  go_ret
  exact ⟨rfl, deed_below _ _ _⟩

set_option maxRecDepth 100000 in
set_option maxHeartbeats 800000 in
theorem impl_bad2 (n : Int) (w : World) (hw : WordsAt w) (hn : n < 0 ∨ (¬ n < 0 ∧ 99 < n)) :
    Calls Tryd.prog 57 #[.agg #[.int .i64 2, .int .i64 n]] w fun e w' => e = .returned (.string ⟨#[]⟩) ∧ Below w.heap.size w w' := by
  have c : (w.alloc (.cells #[.int .i64 2, .int .i64 n] 27)).cell? ⟨1, 2, none⟩ = some (.string ⟨#[119, 97, 121]⟩) := (hw.alloc (.cells #[.int .i64 2, .int .i64 n] 27)) 2 (by omega)
  clear hw
  rcases hn with hn | ⟨hn, hn2⟩
  all_goals
    go_enter Tryd.func57, Tryd.ntmps57
    go_wp2_with (first
      | (go_at_call 81; refine (withNumber_any 2 (by omega) _).mono ?_; rintro e w' ⟨rfl, rfl⟩))
    go_ret
    exact ⟨rfl, deed_below _ _ _⟩

set_option maxRecDepth 100000 in
set_option maxHeartbeats 800000 in
theorem impl_number3 (n : Int) (w : World) (hw : WordsAt w) (h0 : 0 ≤ n) (h1 : n ≤ 99) (x : ByteArray) (hx2 : x.size ≤ 2) (hx : Hid (Tw.str (Lib.decDigits n.toNat) = x)) :
    Calls Tryd.prog 57 #[.agg #[.int .i64 3, .int .i64 n]] w fun e w' => e = .returned (.string ((⟨#[111, 110]⟩ : ByteArray) ++ ⟨#[32]⟩ ++ x)) ∧ Below w.heap.size w w' := by
  have c : (w.alloc (.cells #[.int .i64 3, .int .i64 n] 27)).cell? ⟨1, 3, none⟩ = some (.string ⟨#[111, 110]⟩) := (hw.alloc (.cells #[.int .i64 3, .int .i64 n] 27)) 3 (by omega)
  have h0' : ¬ n < 0 := by omega
  have h1' : ¬ 99 < n := by omega
  clear hw
  go_enter Tryd.func57, Tryd.ntmps57
  go_wp2_with (first
    | (go_at_call 81; refine (withNumber_any 3 (by omega) _).mono ?_; rintro e w' ⟨rfl, rfl⟩)
    | (go_at_call 82; refine (itoa_to n h0 h1 x hx.out _).mono ?_; rintro e w' ⟨rfl, rfl⟩))
  go_ret
  exact ⟨rfl, deed_below _ _ _⟩

set_option maxRecDepth 100000 in
set_option maxHeartbeats 800000 in
theorem impl_bad3 (n : Int) (w : World) (hw : WordsAt w) (hn : n < 0 ∨ (¬ n < 0 ∧ 99 < n)) :
    Calls Tryd.prog 57 #[.agg #[.int .i64 3, .int .i64 n]] w fun e w' => e = .returned (.string ⟨#[]⟩) ∧ Below w.heap.size w w' := by
  have c : (w.alloc (.cells #[.int .i64 3, .int .i64 n] 27)).cell? ⟨1, 3, none⟩ = some (.string ⟨#[111, 110]⟩) := (hw.alloc (.cells #[.int .i64 3, .int .i64 n] 27)) 3 (by omega)
  clear hw
  rcases hn with hn | ⟨hn, hn2⟩
  all_goals
    go_enter Tryd.func57, Tryd.ntmps57
    go_wp2_with (first
      | (go_at_call 81; refine (withNumber_any 3 (by omega) _).mono ?_; rintro e w' ⟨rfl, rfl⟩))
    go_ret
    exact ⟨rfl, deed_below _ _ _⟩

set_option maxRecDepth 100000 in
set_option maxHeartbeats 800000 in
theorem impl_plain1 (w : World) (hw : WordsAt w) :
    Calls Tryd.prog 57 #[.agg #[.int .i64 1, .int .i64 0]] w fun e w' => e = .returned (.string ⟨#[100, 114, 111, 112]⟩) ∧ Below w.heap.size w w' := by
  have c : (w.alloc (.cells #[.int .i64 1, .int .i64 0] 27)).cell? ⟨1, 1, none⟩ = some (.string ⟨#[100, 114, 111, 112]⟩) := (hw.alloc (.cells #[.int .i64 1, .int .i64 0] 27)) 1 (by omega)
  clear hw
  go_enter Tryd.func57, Tryd.ntmps57
  go_wp2_with (first
    | (go_at_call 81; refine (withNumber_any 1 (by omega) _).mono ?_; rintro e w' ⟨rfl, rfl⟩))
  go_ret
  exact ⟨rfl, deed_below _ _ _⟩

set_option maxRecDepth 100000 in
set_option maxHeartbeats 800000 in
theorem impl_odd1 (n : Int) (w : World) (hw : WordsAt w) (hn : (n == 0) = false) :
    Calls Tryd.prog 57 #[.agg #[.int .i64 1, .int .i64 n]] w fun e w' => e = .returned (.string ⟨#[]⟩) ∧ Below w.heap.size w w' := by
  have c : (w.alloc (.cells #[.int .i64 1, .int .i64 n] 27)).cell? ⟨1, 1, none⟩ = some (.string ⟨#[100, 114, 111, 112]⟩) := (hw.alloc (.cells #[.int .i64 1, .int .i64 n] 27)) 1 (by omega)
  clear hw
  go_enter Tryd.func57, Tryd.ntmps57
  go_wp2_with (first
    | (go_at_call 81; refine (withNumber_any 1 (by omega) _).mono ?_; rintro e w' ⟨rfl, rfl⟩))
  go_ret
  exact ⟨rfl, deed_below _ _ _⟩

set_option maxRecDepth 100000 in
set_option maxHeartbeats 800000 in
theorem impl_plain4 (w : World) (hw : WordsAt w) :
    Calls Tryd.prog 57 #[.agg #[.int .i64 4, .int .i64 0]] w fun e w' => e = .returned (.string ⟨#[102, 105, 114, 115, 116]⟩) ∧ Below w.heap.size w w' := by
  have c : (w.alloc (.cells #[.int .i64 4, .int .i64 0] 27)).cell? ⟨1, 4, none⟩ = some (.string ⟨#[102, 105, 114, 115, 116]⟩) := (hw.alloc (.cells #[.int .i64 4, .int .i64 0] 27)) 4 (by omega)
  clear hw
  go_enter Tryd.func57, Tryd.ntmps57
  go_wp2_with (first
    | (go_at_call 81; refine (withNumber_any 4 (by omega) _).mono ?_; rintro e w' ⟨rfl, rfl⟩))
  go_ret
  exact ⟨rfl, deed_below _ _ _⟩

set_option maxRecDepth 100000 in
set_option maxHeartbeats 800000 in
theorem impl_odd4 (n : Int) (w : World) (hw : WordsAt w) (hn : (n == 0) = false) :
    Calls Tryd.prog 57 #[.agg #[.int .i64 4, .int .i64 n]] w fun e w' => e = .returned (.string ⟨#[]⟩) ∧ Below w.heap.size w w' := by
  have c : (w.alloc (.cells #[.int .i64 4, .int .i64 n] 27)).cell? ⟨1, 4, none⟩ = some (.string ⟨#[102, 105, 114, 115, 116]⟩) := (hw.alloc (.cells #[.int .i64 4, .int .i64 n] 27)) 4 (by omega)
  clear hw
  go_enter Tryd.func57, Tryd.ntmps57
  go_wp2_with (first
    | (go_at_call 81; refine (withNumber_any 4 (by omega) _).mono ?_; rintro e w' ⟨rfl, rfl⟩))
  go_ret
  exact ⟨rfl, deed_below _ _ _⟩

set_option maxRecDepth 100000 in
set_option maxHeartbeats 800000 in
theorem impl_plain5 (w : World) (hw : WordsAt w) :
    Calls Tryd.prog 57 #[.agg #[.int .i64 5, .int .i64 0]] w fun e w' => e = .returned (.string ⟨#[98, 97, 99, 107]⟩) ∧ Below w.heap.size w w' := by
  have c : (w.alloc (.cells #[.int .i64 5, .int .i64 0] 27)).cell? ⟨1, 5, none⟩ = some (.string ⟨#[98, 97, 99, 107]⟩) := (hw.alloc (.cells #[.int .i64 5, .int .i64 0] 27)) 5 (by omega)
  clear hw
  go_enter Tryd.func57, Tryd.ntmps57
  go_wp2_with (first
    | (go_at_call 81; refine (withNumber_any 5 (by omega) _).mono ?_; rintro e w' ⟨rfl, rfl⟩))
  go_ret
  exact ⟨rfl, deed_below _ _ _⟩

set_option maxRecDepth 100000 in
set_option maxHeartbeats 800000 in
theorem impl_odd5 (n : Int) (w : World) (hw : WordsAt w) (hn : (n == 0) = false) :
    Calls Tryd.prog 57 #[.agg #[.int .i64 5, .int .i64 n]] w fun e w' => e = .returned (.string ⟨#[]⟩) ∧ Below w.heap.size w w' := by
  have c : (w.alloc (.cells #[.int .i64 5, .int .i64 n] 27)).cell? ⟨1, 5, none⟩ = some (.string ⟨#[98, 97, 99, 107]⟩) := (hw.alloc (.cells #[.int .i64 5, .int .i64 n] 27)) 5 (by omega)
  clear hw
  go_enter Tryd.func57, Tryd.ntmps57
  go_wp2_with (first
    | (go_at_call 81; refine (withNumber_any 5 (by omega) _).mono ?_; rintro e w' ⟨rfl, rfl⟩))
  go_ret
  exact ⟨rfl, deed_below _ _ _⟩

set_option maxRecDepth 100000 in
set_option maxHeartbeats 800000 in
theorem impl_none (k n : Int) (w : World) (hk : k < 0 ∨ (¬ k < 0 ∧ 6 ≤ k)) :
    Calls Tryd.prog 57 #[.agg #[.int .i64 k, .int .i64 n]] w fun e w' => e = .returned (.string ⟨#[]⟩) ∧ Below w.heap.size w w' := by
  rcases hk with hk | ⟨hk, hk2⟩
  all_goals
    go_enter Tryd.func57, Tryd.ntmps57
    go_wp2
    go_ret
    exact ⟨rfl, deed_below _ _ _⟩

theorem implDeedText (k n : Int) (w : World) (hw : WordsAt w) :
    Calls Tryd.prog 57 #[.agg #[.int .i64 k, .int .i64 n]] w fun e w' => e = .returned (.string (Tw.str (deedText k n))) ∧ Below w.heap.size w w' := by
  rcases (by omega : (k < 0 ∨ 6 ≤ k) ∨ (k = 0 ∨ k = 2 ∨ k = 3) ∨ (k = 1 ∨ k = 4 ∨ k = 5)) with hk | hk | hk
  · rw [text_none hk]
    exact impl_none k n w (by omega)
  · by_cases hn : 0 ≤ n ∧ n ≤ 99
    · rw [text_number hk hn.1 hn.2]
      have h2 : (Tw.str (Lib.decDigits n.toNat)).size ≤ 2 := dec_few (by omega)
      rcases hk with rfl | rfl | rfl
      · exact impl_number0 n w hw hn.1 hn.2 _ h2 (Lib.hid rfl)
      · exact impl_number2 n w hw hn.1 hn.2 _ h2 (Lib.hid rfl)
      · exact impl_number3 n w hw hn.1 hn.2 _ h2 (Lib.hid rfl)
    · rw [text_bad hk hn]
      rcases hk with rfl | rfl | rfl
      · exact impl_bad0 n w hw (by omega)
      · exact impl_bad2 n w hw (by omega)
      · exact impl_bad3 n w hw (by omega)
  · by_cases hn : n = 0
    · subst hn
      rw [text_plain hk]
      rcases hk with rfl | rfl | rfl
      · exact impl_plain1 w hw
      · exact impl_plain4 w hw
      · exact impl_plain5 w hw
    · rw [text_odd hk hn]
      rcases hk with rfl | rfl | rfl
      · exact impl_odd1 n w hw (beq_false_of_ne hn)
      · exact impl_odd4 n w hw (beq_false_of_ne hn)
      · exact impl_odd5 n w hw (beq_false_of_ne hn)

end Go.Proofs.YtpkenccgjlhnlaaDoor

namespace Go.Proofs.YtpkenccgjlhnlaaDoor
open Go.RowKit

set_option maxRecDepth 100000 in
set_option maxHeartbeats 25600000 in
theorem number_two (i : Nat) (hi : 10 ≤ i) (hi2 : i < 100) (w : World) :
    Calls Tryd.prog 84 #[.int .i64 i] w fun e w' => e = .returned (.string (Tw.str (Lib.decDigits i))) ∧ Below w.heap.size w w' := by
  have hd : i / 10 < 10 := by omega
  have hm : i % 10 < 10 := by omega
  obtain ⟨p, hp⟩ : ∃ p, i / 10 = p := ⟨_, rfl⟩
  obtain ⟨q, hq⟩ : ∃ q, i % 10 = q := ⟨_, rfl⟩
  have hdec : Lib.decDigits i = [UInt8.ofNat (48 + p)] ++ [UInt8.ofNat (48 + q)] := by rw [dec_two hi2, if_neg (by omega), hp, hq]; rfl
  rw [hp] at hd
  rw [hq] at hm
  have eq1 : (i : Int).tdiv 10 = (p : Int) := by rw [Int.tdiv_eq_ediv_of_nonneg (by omega)]; omega
  have eq2 : (i : Int).tmod 10 = (q : Int) := by rw [Int.tmod_eq_emod_of_nonneg (by omega)]; omega
  have eq3 : IntKind.i64.wrap (48 + (q : Int)) = 48 + (q : Int) := IntWalk.i64_in _ (by omega)
  have eq4 : IntKind.u8.wrap (48 + (q : Int)) = 48 + (q : Int) := by
    simp [IntKind.wrap, IntKind.bits, IntKind.signed]
    omega
  have eq5 : (i : Int) / 10 = (p : Int) := by omega
  have eq6 : (i : Int) % 10 = (q : Int) := by omega
  obtain ⟨xp, hxp⟩ : ∃ x, Tw.str [UInt8.ofNat (48 + p)] = x := ⟨_, rfl⟩
  obtain ⟨xq, hxq⟩ : ∃ x, Tw.str [UInt8.ofNat (48 + q)] = x := ⟨_, rfl⟩
  have hsp : xp.size = 1 := by rw [← hxp]; rfl
  have hsq : xq.size = 1 := by rw [← hxq]; rfl
  have hcv : ∀ W : World, (convert 22 9 (.slice (some ⟨W.heap.size, 0, none⟩) 1 1)).run Tryd.prog (W.alloc (.cells #[.int .u8 (48 + (q : Int))] 5)) = .ok (.string xq) (W.alloc (.cells #[.int .u8 (48 + (q : Int))] 5)) := fun W => hxq ▸ conv_digit hm W
  have hcv1 : (convert 22 9 (.slice (some ⟨w.heap.size, 0, none⟩) 1 1)).run Tryd.prog (w.alloc (.cells #[.int .u8 (48 + (q : Int))] 5)).drew = .ok (.string xq) (w.alloc (.cells #[.int .u8 (48 + (q : Int))] 5)).drew := hcv w.drew
  have hlater : Hid (∀ w1 : World, Below (w.alloc (.cells #[.int .u8 (48 + (q : Int))] 5)).drew.heap.size (w.alloc (.cells #[.int .u8 (48 + (q : Int))] 5)).drew w1 → (convert 22 9 (.slice (some ⟨w.heap.size, 0, none⟩) 1 1)).run Tryd.prog w1 = .ok (.string xq) w1) := fun w1 hb => hxq ▸ conv_later (W := w.drew) hm hb
  have hdig : Hid (∀ W : World, Calls Tryd.prog 84 #[.int .i64 p] W fun e w' => e = .returned (.string xp) ∧ Below W.heap.size W w') := fun W => hxp ▸ number_digit p hd W
  have hsum : Hid (Tw.str (Lib.decDigits i) = xp ++ xq) := by
    show _ = _
    rw [hdec, ← hxp, ← hxq]
    exact (Tw.str_append _ _).symm
  have eq7 : IntKind.i64.wrap (p : Int) = p := IntWalk.i64_in _ (by omega)
  have eq8 : IntKind.i64.wrap (q : Int) = q := IntWalk.i64_in _ (by omega)
  have h0 : ¬ (i : Int) < 0 := by omega
  have h10 : ¬ (i : Int) < 10 := by omega
  clear hdec hp hq hxp hxq
  go_enter Tryd.func84, Tryd.ntmps84
  go_wp2_with fail
  go_region_law (first
    | (go_simp; go_at_call 84; first
        | (refine (hdig.out w.drew).mono ?_; rintro e w1 ⟨rfl, hb1⟩; have hb2 : Below w.heap.size w w1 := (Below.refl w.heap.size w).drew.trans hb1)
        | (refine (hdig.out (w.alloc (.cells #[.int .u8 (48 + (q : Int))] 5)).drew).mono ?_; rintro e w1 ⟨rfl, hb1⟩; have hcv2 := hlater.out w1 hb1; have hb2 : Below w.heap.size w w1 := (((Below.refl w.heap.size w).alloc (Nat.le_refl _) _).drew).trans (hb1.mono (by simp)))))
  all_goals
    go_wp2
    go_ret
    refine ⟨ret_str hsum.out.symm, ?_⟩
    first
      | exact hb2
      | exact hb2.alloc hb2.size _
theorem number_small (i : Nat) (hi : i < 100) (w : World) :
    Calls Tryd.prog 84 #[.int .i64 i] w fun e w' => e = .returned (.string (Tw.str (Lib.decDigits i))) ∧ Below w.heap.size w w' := by
  rcases Nat.lt_or_ge i 10 with h | h
  · have := number_digit i h w
    rwa [show Lib.decDigits i = [UInt8.ofNat (48 + i)] from by rw [dec_two hi, if_pos h]]
  · exact number_two i h hi w

end Go.Proofs.YtpkenccgjlhnlaaDoor

namespace Go.Proofs.YtpkenccgjlhnlaaDoor
open Go.RowKit

set_option maxRecDepth 100000 in
set_option maxHeartbeats 800000 in
theorem spec_number0 (n : Int) (w : World) (h0 : 0 ≤ n) (h1 : n ≤ 99) (x : ByteArray) (hx2 : x.size ≤ 2) (hx : Hid (Tw.str (Lib.decDigits n.toNat) = x)) :
    Calls Tryd.prog 61 #[.agg #[.int .i64 0, .int .i64 n]] w fun e w' => e = .returned (.string ((⟨#[115, 116, 101, 112, 32]⟩ : ByteArray) ++ x)) ∧ Below w.heap.size w w' := by
  have hnum : Hid (∀ W : World, Calls Tryd.prog 84 #[.int .i64 n] W fun e w' => e = .returned (.string x) ∧ Below W.heap.size W w') := by
    intro W
    obtain ⟨m, rfl⟩ := Int.eq_ofNat_of_zero_le h0
    have h := number_small m (by omega) W
    rwa [show Tw.str (Lib.decDigits m) = x from hx.out] at h
  clear hx
  go_enter Tryd.func61, Tryd.ntmps61
  go_wp2_with (first
    | (go_at_call 69; refine (in_yes n 0 99 _ h0 h1).mono ?_; rintro e w' ⟨rfl, rfl⟩)
    | (go_at_call 84; refine (hnum.out _).mono ?_; rintro e w2 ⟨rfl, hb2⟩))
  go_ret
  exact ⟨rfl, ((Below.refl _ _).alloc (Nat.le_refl _) _).trans (hb2.mono (by simp))⟩
set_option maxRecDepth 100000 in
set_option maxHeartbeats 800000 in
theorem spec_bad0 (n : Int) (w : World) (hn : ¬ (0 ≤ n ∧ n ≤ 99)) :
    Calls Tryd.prog 61 #[.agg #[.int .i64 0, .int .i64 n]] w fun e w' => e = .returned (.string ⟨#[]⟩) ∧ Below w.heap.size w w' := by
  go_enter Tryd.func61, Tryd.ntmps61
  go_wp2_with (first
    | (go_at_call 69; refine (in_no n 0 99 _ hn).mono ?_; rintro e w' ⟨rfl, rfl⟩))
  go_ret
  exact ⟨rfl, deed_below _ _ _⟩
set_option maxRecDepth 100000 in
set_option maxHeartbeats 800000 in
theorem spec_number2 (n : Int) (w : World) (h0 : 0 ≤ n) (h1 : n ≤ 99) (x : ByteArray) (hx2 : x.size ≤ 2) (hx : Hid (Tw.str (Lib.decDigits n.toNat) = x)) :
    Calls Tryd.prog 61 #[.agg #[.int .i64 2, .int .i64 n]] w fun e w' => e = .returned (.string ((⟨#[119, 97, 121, 32]⟩ : ByteArray) ++ x)) ∧ Below w.heap.size w w' := by
  have hnum : Hid (∀ W : World, Calls Tryd.prog 84 #[.int .i64 n] W fun e w' => e = .returned (.string x) ∧ Below W.heap.size W w') := by
    intro W
    obtain ⟨m, rfl⟩ := Int.eq_ofNat_of_zero_le h0
    have h := number_small m (by omega) W
    rwa [show Tw.str (Lib.decDigits m) = x from hx.out] at h
  clear hx
  go_enter Tryd.func61, Tryd.ntmps61
  go_wp2_with (first
    | (go_at_call 69; refine (in_yes n 0 99 _ h0 h1).mono ?_; rintro e w' ⟨rfl, rfl⟩)
    | (go_at_call 84; refine (hnum.out _).mono ?_; rintro e w2 ⟨rfl, hb2⟩))
  go_ret
  exact ⟨rfl, ((Below.refl _ _).alloc (Nat.le_refl _) _).trans (hb2.mono (by simp))⟩
set_option maxRecDepth 100000 in
set_option maxHeartbeats 800000 in
theorem spec_bad2 (n : Int) (w : World) (hn : ¬ (0 ≤ n ∧ n ≤ 99)) :
    Calls Tryd.prog 61 #[.agg #[.int .i64 2, .int .i64 n]] w fun e w' => e = .returned (.string ⟨#[]⟩) ∧ Below w.heap.size w w' := by
  go_enter Tryd.func61, Tryd.ntmps61
  go_wp2_with (first
    | (go_at_call 69; refine (in_no n 0 99 _ hn).mono ?_; rintro e w' ⟨rfl, rfl⟩))
  go_ret
  exact ⟨rfl, deed_below _ _ _⟩
set_option maxRecDepth 100000 in
set_option maxHeartbeats 800000 in
theorem spec_number3 (n : Int) (w : World) (h0 : 0 ≤ n) (h1 : n ≤ 99) (x : ByteArray) (hx2 : x.size ≤ 2) (hx : Hid (Tw.str (Lib.decDigits n.toNat) = x)) :
    Calls Tryd.prog 61 #[.agg #[.int .i64 3, .int .i64 n]] w fun e w' => e = .returned (.string ((⟨#[111, 110, 32]⟩ : ByteArray) ++ x)) ∧ Below w.heap.size w w' := by
  have hnum : Hid (∀ W : World, Calls Tryd.prog 84 #[.int .i64 n] W fun e w' => e = .returned (.string x) ∧ Below W.heap.size W w') := by
    intro W
    obtain ⟨m, rfl⟩ := Int.eq_ofNat_of_zero_le h0
    have h := number_small m (by omega) W
    rwa [show Tw.str (Lib.decDigits m) = x from hx.out] at h
  clear hx
  go_enter Tryd.func61, Tryd.ntmps61
  go_wp2_with (first
    | (go_at_call 69; refine (in_yes n 0 99 _ h0 h1).mono ?_; rintro e w' ⟨rfl, rfl⟩)
    | (go_at_call 84; refine (hnum.out _).mono ?_; rintro e w2 ⟨rfl, hb2⟩))
  go_ret
  exact ⟨rfl, ((Below.refl _ _).alloc (Nat.le_refl _) _).trans (hb2.mono (by simp))⟩
set_option maxRecDepth 100000 in
set_option maxHeartbeats 800000 in
theorem spec_bad3 (n : Int) (w : World) (hn : ¬ (0 ≤ n ∧ n ≤ 99)) :
    Calls Tryd.prog 61 #[.agg #[.int .i64 3, .int .i64 n]] w fun e w' => e = .returned (.string ⟨#[]⟩) ∧ Below w.heap.size w w' := by
  go_enter Tryd.func61, Tryd.ntmps61
  go_wp2_with (first
    | (go_at_call 69; refine (in_no n 0 99 _ hn).mono ?_; rintro e w' ⟨rfl, rfl⟩))
  go_ret
  exact ⟨rfl, deed_below _ _ _⟩
set_option maxRecDepth 100000 in
set_option maxHeartbeats 800000 in
theorem spec_plain1 (w : World) :
    Calls Tryd.prog 61 #[.agg #[.int .i64 1, .int .i64 0]] w fun e w' => e = .returned (.string ⟨#[100, 114, 111, 112]⟩) ∧ Below w.heap.size w w' := by
  go_enter Tryd.func61, Tryd.ntmps61
  go_wp2
  go_ret
  exact ⟨rfl, deed_below _ _ _⟩
set_option maxRecDepth 100000 in
set_option maxHeartbeats 800000 in
theorem spec_odd1 (n : Int) (w : World) (hn : (n == 0) = false) :
    Calls Tryd.prog 61 #[.agg #[.int .i64 1, .int .i64 n]] w fun e w' => e = .returned (.string ⟨#[]⟩) ∧ Below w.heap.size w w' := by
  go_enter Tryd.func61, Tryd.ntmps61
  go_wp2
  go_ret
  exact ⟨rfl, deed_below _ _ _⟩
set_option maxRecDepth 100000 in
set_option maxHeartbeats 800000 in
theorem spec_plain4 (w : World) :
    Calls Tryd.prog 61 #[.agg #[.int .i64 4, .int .i64 0]] w fun e w' => e = .returned (.string ⟨#[102, 105, 114, 115, 116]⟩) ∧ Below w.heap.size w w' := by
  go_enter Tryd.func61, Tryd.ntmps61
  go_wp2
  go_ret
  exact ⟨rfl, deed_below _ _ _⟩
set_option maxRecDepth 100000 in
set_option maxHeartbeats 800000 in
theorem spec_odd4 (n : Int) (w : World) (hn : (n == 0) = false) :
    Calls Tryd.prog 61 #[.agg #[.int .i64 4, .int .i64 n]] w fun e w' => e = .returned (.string ⟨#[]⟩) ∧ Below w.heap.size w w' := by
  go_enter Tryd.func61, Tryd.ntmps61
  go_wp2
  go_ret
  exact ⟨rfl, deed_below _ _ _⟩
set_option maxRecDepth 100000 in
set_option maxHeartbeats 800000 in
theorem spec_plain5 (w : World) :
    Calls Tryd.prog 61 #[.agg #[.int .i64 5, .int .i64 0]] w fun e w' => e = .returned (.string ⟨#[98, 97, 99, 107]⟩) ∧ Below w.heap.size w w' := by
  go_enter Tryd.func61, Tryd.ntmps61
  go_wp2
  go_ret
  exact ⟨rfl, deed_below _ _ _⟩
set_option maxRecDepth 100000 in
set_option maxHeartbeats 800000 in
theorem spec_odd5 (n : Int) (w : World) (hn : (n == 0) = false) :
    Calls Tryd.prog 61 #[.agg #[.int .i64 5, .int .i64 n]] w fun e w' => e = .returned (.string ⟨#[]⟩) ∧ Below w.heap.size w w' := by
  go_enter Tryd.func61, Tryd.ntmps61
  go_wp2
  go_ret
  exact ⟨rfl, deed_below _ _ _⟩
set_option maxRecDepth 100000 in
set_option maxHeartbeats 800000 in
theorem spec_none (k n : Int) (w : World) (b0 : (k == 0) = false) (b1 : (k == 1) = false) (b2 : (k == 2) = false) (b3 : (k == 3) = false) (b4 : (k == 4) = false) (b5 : (k == 5) = false) :
    Calls Tryd.prog 61 #[.agg #[.int .i64 k, .int .i64 n]] w fun e w' => e = .returned (.string ⟨#[]⟩) ∧ Below w.heap.size w w' := by
  go_enter Tryd.func61, Tryd.ntmps61
  go_wp2
  go_ret
  exact ⟨rfl, deed_below _ _ _⟩

theorem specDeedText (k n : Int) (w : World) :
    Calls Tryd.prog 61 #[.agg #[.int .i64 k, .int .i64 n]] w fun e w' => e = .returned (.string (Tw.str (deedText k n))) ∧ Below w.heap.size w w' := by
  rcases (by omega : (k < 0 ∨ 6 ≤ k) ∨ (k = 0 ∨ k = 2 ∨ k = 3) ∨ (k = 1 ∨ k = 4 ∨ k = 5)) with hk | hk | hk
  · rw [text_none hk]
    exact spec_none k n w (beq_false_of_ne (by omega)) (beq_false_of_ne (by omega)) (beq_false_of_ne (by omega)) (beq_false_of_ne (by omega)) (beq_false_of_ne (by omega)) (beq_false_of_ne (by omega))
  · by_cases hn : 0 ≤ n ∧ n ≤ 99
    · rw [text_number hk hn.1 hn.2]
      have h2 : (Tw.str (Lib.decDigits n.toNat)).size ≤ 2 := dec_few (by omega)
      rcases hk with rfl | rfl | rfl
      · exact spec_number0 n w hn.1 hn.2 _ h2 (Lib.hid rfl)
      · exact spec_number2 n w hn.1 hn.2 _ h2 (Lib.hid rfl)
      · exact spec_number3 n w hn.1 hn.2 _ h2 (Lib.hid rfl)
    · rw [text_bad hk hn]
      rcases hk with rfl | rfl | rfl
      · exact spec_bad0 n w hn
      · exact spec_bad2 n w hn
      · exact spec_bad3 n w hn
  · by_cases hn : n = 0
    · subst hn
      rw [text_plain hk]
      rcases hk with rfl | rfl | rfl
      · exact spec_plain1 w
      · exact spec_plain4 w
      · exact spec_plain5 w
    · rw [text_odd hk hn]
      rcases hk with rfl | rfl | rfl
      · exact spec_odd1 n w (beq_false_of_ne hn)
      · exact spec_odd4 n w (beq_false_of_ne hn)
      · exact spec_odd5 n w (beq_false_of_ne hn)

end Go.Proofs.YtpkenccgjlhnlaaDoor

namespace Go.Proofs.YtpkenccgjlhnlaaDoor
open Go.RowKit

theorem sizeBuilder : (Tryd.prog.info? 77).map (·.size) = some 2 := by kernel_rfl
theorem liesBuilder : liesAt Tryd.prog Tryd.prog.depth 77 (2 / Tryd.prog.cellsOf 77) 0 77 1 = true := by kernel_rfl
theorem infoByte : (Tryd.prog.info? 5).map (fun i => (i.zero, i.size, i.bytes)) = some (some (.int .u8 0), 1, 1) := by kernel_rfl

set_option maxHeartbeats 1000000 in
set_option maxRecDepth 100000 in
theorem copyCheck_used (b : Nat) (w : World) (h0 : w.cell? ⟨b, 0, none⟩ = some (.pointer (some ⟨b, 0, none⟩))) :
    Calls Tryd.prog 83 #[.pointer (some ⟨b, 0, none⟩)] w fun e w' => e = .returned (.tuple #[]) ∧ w' = w := by
  obtain ⟨j, hj, _⟩ := Option.map_eq_some_iff.1 sizeBuilder
  go_enter Tryd.func83, Tryd.ntmps83
  go_wp2
  rw [Lib.run_neq_ptr_same w _ Tryd.underlying75 hj]
  go_wp2
  go_end0
  exact ⟨rfl, rfl⟩

set_option maxHeartbeats 1000000 in
set_option maxRecDepth 100000 in
theorem copyCheck_fresh (b : Nat) (w : World) (h0 : w.cell? ⟨b, 0, none⟩ = some (.pointer none)) (hsh : w.shape? b = some (77, 2)) (hfz : w.frozen? ⟨b, 0, none⟩ = false) :
    Calls Tryd.prog 83 #[.pointer (some ⟨b, 0, none⟩)] w fun e w' => e = .returned (.tuple #[]) ∧ w' = w.setCell ⟨b, 0, none⟩ (.pointer (some ⟨b, 0, none⟩)) := by
  obtain ⟨j, hj, hjs⟩ := Option.map_eq_some_iff.1 sizeBuilder
  go_enter Tryd.func83, Tryd.ntmps83
  go_wp2
  rw [Lib.run_to_unsafe w ⟨b, 0, none⟩ Tryd.underlying75 Tryd.underlying125 hj (by rw [hjs]; decide) hsh (Nat.zero_lt_succ 1)]
  simp only [Result.andThen]
  rw [Oper.upon_value]
  go_wp2
  rw [run_callFunc_extern Tryd.func105 (by kernel_rfl) (by kernel_rfl) (by kernel_rfl) (e := Extern.AbiNoEscape.same) (by kernel_rfl)]
  rw [Lib.run_noEscape]
  simp only [Result.andThen]
  rw [Oper.upon_value]
  go_wp2
  rw [Lib.run_from_unsafe w ⟨b, 0, none⟩ Tryd.underlying125 Tryd.underlying75 hj hsh liesBuilder]
  simp only [Result.andThen]
  rw [Oper.upon_value]
  go_wp2
  go_end0
  exact ⟨rfl, rfl⟩

theorem copyCheck_any (B b : Nat) (bs : List Value) (w : World) (h : Lib.IsBuilder 77 5 B b bs w) :
    Calls Tryd.prog 83 #[.pointer (some ⟨b, 0, none⟩)] w fun e w' => e = .returned (.tuple #[]) ∧ (Lib.BuilderAt 77 5 B b (.pointer (some ⟨b, 0, none⟩)) bs w' ∧ Below B w w') := by
  rcases h with h | h
  · refine (copyCheck_fresh b w h.cell0 h.shape h.frozen0).mono ?_
    rintro e w' ⟨rfl, rfl⟩
    exact ⟨rfl, h.used _, (Below.refl B w).setCell (p := ⟨b, 0, none⟩) h.1 _⟩
  · refine (copyCheck_used b w h.cell0).mono ?_
    rintro e w' ⟨rfl, rfl⟩
    exact ⟨rfl, h, Below.refl B _⟩

set_option maxHeartbeats 2000000 in
set_option maxRecDepth 100000 in
theorem writeByte_any (B b : Nat) (bs : List Value) (c : Int) (w : World) (h : Lib.IsBuilder 77 5 B b bs w) (hlen : bs.length + 1 ≤ 140737488355328) (hBw : B ≤ w.heap.size) :
    Calls Tryd.prog 59 #[.pointer (some ⟨b, 0, none⟩), .int .u8 c] w fun e w' => e = .returned .nilIface ∧ (Lib.BuilderAt 77 5 B b (.pointer (some ⟨b, 0, none⟩)) (bs ++ [.int .u8 c]) w' ∧ Below B w w') := by
  obtain ⟨i0, hi, hz0, hz1, hz2⟩ := info_parts infoByte
  go_enter Tryd.func59, Tryd.ntmps59
  go_wp2_with (go_at_call 83; refine (copyCheck_any B b bs _ h).mono ?_)
  rintro e w1 ⟨rfl, h1, hb1⟩
  obtain ⟨hB, v, hbk, hown, hne⟩ := h1
  have c0 : w1.cell? ⟨b, 0, none⟩ = some (.pointer (some ⟨b, 0, none⟩)) := by rw [Lib.cell_of_heap hbk]; rfl
  have c1 : w1.cell? ⟨b, 1, none⟩ = some v := by rw [Lib.cell_of_heap hbk]; rfl
  go_wp2_with (at_builtin; refine wpList_append_own _ rfl _ _ 22 rfl B 5 i0 (.int .u8 0) 1 1 Tryd.underlying22 hi hz0 hz1 hz2 rfl (by decide) _ _ _ rfl (hown.alloc _) ⟨w1.heap.size, 0, none⟩ 1 1 [.int .u8 c] rfl rfl ?c1 ?c2 ?c3 ?c4 ?c5 ?_)
  case c1 =>
    intro j u hj
    match j, hj with
    | 0, hj => simp at hj; subst hj; simp [Addr.add]
  case c2 => intro u hu; simp at hu; subst hu; rfl
  case c3 => unfold maxLen; omega
  case c4 => omega
  case c5 => have := hb1.size; simp; omega
  intro v' w2 hown' hgrow _
  have hlt : b < w1.heap.size := by
    rcases Nat.lt_or_ge b w1.heap.size with h' | h'
    · exact h'
    · simp [Array.getElem?_eq_none h'] at hbk
  have hb2 : w2.heap[b]? = some (.cells #[.pointer (some ⟨b, 0, none⟩), v] 77 (0, 0)) := by
    rw [hgrow.block b (by simp; omega) (fun e => hne e.symm), Lib.alloc_old w1 _ b hlt]
    exact hbk
  have d0 : w2.cell? ⟨b, 0, none⟩ = some (.pointer (some ⟨b, 0, none⟩)) := by rw [Lib.cell_of_heap hb2]; rfl
  have d1 : w2.cell? ⟨b, 1, none⟩ = some v := by rw [Lib.cell_of_heap hb2]; rfl
  have f1 : w2.frozen? ⟨b, 1, none⟩ = false := Lib.frozen_of_heap hb2 1
  obtain ⟨g, cap, rfl⟩ : ∃ g cap, v' = .slice (some ⟨g, 0, none⟩) (bs.length + 1) cap := by
    rcases hown'.2 with ⟨_, h0⟩ | ⟨g, cap, cur, hv, _⟩
    · omega
    · exact ⟨g, cap, hv⟩
  go_wp2
  go_ret
  refine ⟨rfl, ?_, ?_⟩
  · exact Lib.BuilderAt.put (T := 77) (e := 5) hB hb2 (bs' := bs ++ [.int .u8 c]) (by simpa using hown') (by decide)
  · exact ((hb1.alloc (by have := hb1.size; omega) _).grown hgrow (by have := hb1.size; simp; omega) (fun k hk => (hown.lt k hk).1)).setCell (p := ⟨b, 1, none⟩) hB _

end Go.Proofs.YtpkenccgjlhnlaaDoor

namespace Go.Proofs.YtpkenccgjlhnlaaDoor
open Go.RowKit

theorem builderKept {B b : Nat} {p : Value} {bs : List Value} {w w' : World} (h : Lib.BuilderAt 77 5 B b p bs w) (hb : Below w.heap.size w w') : Lib.BuilderAt 77 5 B b p bs w' := by
  have hlt := h.lt
  obtain ⟨hB, v, hk, hown, hne⟩ := h
  exact ⟨hB, v, (hb.block _ hlt).trans hk, own_below hown hb, hne⟩
theorem isBuilderKept {B b : Nat} {bs : List Value} {w w' : World} (h : Lib.IsBuilder 77 5 B b bs w) (hb : Below w.heap.size w w') : Lib.IsBuilder 77 5 B b bs w' := h.imp (fun h => builderKept h hb) (fun h => builderKept h hb)

set_option maxHeartbeats 2000000 in
set_option maxRecDepth 100000 in
theorem writeString_any (B b : Nat) (bs : List Value) (s : ByteArray) (w : World) (h : Lib.IsBuilder 77 5 B b bs w) (hlen : bs.length + s.size ≤ 140737488355328) (hBw : B ≤ w.heap.size) :
    Calls Tryd.prog 58 #[.pointer (some ⟨b, 0, none⟩), .string s] w fun e w' => e = .returned (.tuple #[.int .i64 s.size, .nilIface]) ∧ (Lib.BuilderAt 77 5 B b (.pointer (some ⟨b, 0, none⟩)) (bs ++ Lib.byteCells s.data.toList) w' ∧ Below B w w') := by
  obtain ⟨i0, hi, hz0, hz1, hz2⟩ := info_parts infoByte
  go_enter Tryd.func58, Tryd.ntmps58
  go_wp2_with (go_at_call 83; refine (copyCheck_any B b bs _ h).mono ?_)
  rintro e w1 ⟨rfl, h1, hb1⟩
  obtain ⟨hB, v, hbk, hown, hne⟩ := h1
  have c0 : w1.cell? ⟨b, 0, none⟩ = some (.pointer (some ⟨b, 0, none⟩)) := by rw [Lib.cell_of_heap hbk]; rfl
  have c1 : w1.cell? ⟨b, 1, none⟩ = some v := by rw [Lib.cell_of_heap hbk]; rfl
  go_wp2_with (at_builtin; refine Lib.wpList_append_own_string _ rfl _ _ 22 9 rfl B 5 i0 Tryd.underlying22 Tryd.underlying9 hi hz0 hz1 hz2 _ _ _ rfl hown s rfl ?c3 ?c4 ?c5 ?_)
  case c3 => unfold maxLen; omega
  case c4 => omega
  case c5 => have := hb1.size; omega
  intro v' w2 hown' hgrow _
  have hlt : b < w1.heap.size := by
    rcases Nat.lt_or_ge b w1.heap.size with h' | h'
    · exact h'
    · simp [Array.getElem?_eq_none h'] at hbk
  have hb2 : w2.heap[b]? = some (.cells #[.pointer (some ⟨b, 0, none⟩), v] 77 (0, 0)) := by
    rw [hgrow.block b hlt (fun e => hne e.symm)]
    exact hbk
  have d0 : w2.cell? ⟨b, 0, none⟩ = some (.pointer (some ⟨b, 0, none⟩)) := by rw [Lib.cell_of_heap hb2]; rfl
  have d1 : w2.cell? ⟨b, 1, none⟩ = some v := by rw [Lib.cell_of_heap hb2]; rfl
  have f1 : w2.frozen? ⟨b, 1, none⟩ = false := Lib.frozen_of_heap hb2 1
  obtain ⟨ao, n', cap, rfl⟩ : ∃ ao n' cap, v' = .slice ao n' cap := by
    rcases hown'.2 with ⟨hv, _⟩ | ⟨g, cap, cur, hv, _⟩
    · exact ⟨_, _, _, hv⟩
    · exact ⟨_, _, _, hv⟩
  go_wp2
  go_ret2
  refine ⟨rfl, ?_, ?_⟩
  · exact Lib.BuilderAt.put (T := 77) (e := 5) hB hb2 (bs' := bs ++ Lib.strCells s) (by simpa [Lib.strCells_length] using hown') (by decide)
  · exact (hb1.grown hgrow (by have := hb1.size; omega) (fun k hk => (hown.lt k hk).1)).setCell (p := ⟨b, 1, none⟩) hB _

end Go.Proofs.YtpkenccgjlhnlaaDoor

namespace Go.Proofs.YtpkenccgjlhnlaaDoor
open Go.RowKit

def dt (d : Int × Int) : List UInt8 := deedText d.1 d.2
def jt (ds : List (Int × Int)) : List UInt8 := ds.flatMap fun d => dt d ++ [10]
def goodTo (ds : List (Int × Int)) : Bool := ds.all fun d => !(dt d).isEmpty
/-- The text of a journal. -/
def journal (ds : List (Int × Int)) : List UInt8 := if goodTo ds then jt ds else []
theorem dt_few (d : Int × Int) : (dt d).length ≤ 7 := by
  unfold dt deedText
  split
  · rename_i hk
    split
    · rename_i hn
      have h2 := dec_few (i := d.2.toNat) (by omega)
      rw [Tw.str_size] at h2
      rcases hk with h | h | h
      all_goals
        rw [h]
        simp [deedWord]
        omega
    · simp
  · split
    · rename_i hk
      split
      · rcases hk with h | h | h
        all_goals
          rw [h]
          simp [deedWord]
      · simp
    · simp
theorem jt_succ {ds : List (Int × Int)} {j : Nat} {d : Int × Int} (h : ds[j]? = some d) : jt (ds.take (j + 1)) = jt (ds.take j) ++ (dt d ++ [10]) := by
  unfold jt
  rw [List.take_add_one, h, List.flatMap_append]
  simp
theorem good_succ {ds : List (Int × Int)} {j : Nat} {d : Int × Int} (h : ds[j]? = some d) (hg : goodTo (ds.take j) = true) (hd : dt d ≠ []) : goodTo (ds.take (j + 1)) = true := by
  unfold goodTo at *
  rw [List.take_add_one, h, List.all_append, hg]
  simp [hd]
theorem journal_bad {ds : List (Int × Int)} {j : Nat} {d : Int × Int} (h : ds[j]? = some d) (hd : dt d = []) : journal ds = [] := by
  unfold journal
  have : goodTo ds = false := by
    unfold goodTo
    rw [Bool.eq_false_iff]
    intro hall
    have := List.all_eq_true.1 hall d (List.mem_of_getElem? h)
    simp [hd] at this
  rw [this]
  rfl
theorem journal_good {ds : List (Int × Int)} (h : goodTo ds = true) : journal ds = jt ds := by unfold journal; rw [h]; rfl
theorem nil_of_size0 {s : ByteArray} (h : s.size = 0) : s = ⟨#[]⟩ := by
  apply ByteArray.ext
  exact Array.eq_empty_of_size_eq_zero h
theorem notEmpty0 {s : ByteArray} (h : 0 < s.size) : s.toList.isEmpty = false := by
  rw [Lib.toList_data]
  cases hl : s.data.toList with
  | nil => have := size_data s; rw [hl] at this; simp at this; omega
  | cons _ _ => rfl
theorem lit_size0 (a : Array UInt8) : (ByteArray.mk a).size = a.size := rfl
theorem str_nil_of {l : List UInt8} (h : (Tw.str l).size = 0) : l = [] := by
  rw [Tw.str_size] at h
  exact List.length_eq_zero_iff.1 h

set_option maxRecDepth 100000 in
set_option maxHeartbeats 3200000 in
theorem specJournal (v : Value) (ds : List (Int × Int)) (w : World) (h : DeedsAt w v ds) (hn : ds.length ≤ 1048576) :
    Calls Tryd.prog 32 #[v] w fun e w' => e = .returned (.string (Tw.str (journal ds))) ∧ Below w.heap.size w w' := by
  rcases h with ⟨rfl, rfl⟩ | ⟨a, cap, rfl, hl, hc⟩
  · go_enter Tryd.func32, Tryd.ntmps32
    go_wp2
    refine wp_loop_rounds 1 ?_
    rw [rounds_succ]
    go_wp2
    go_ret
    exact ⟨rfl, Below.refl _ _⟩
  · obtain ⟨n, hnn⟩ : ∃ n, ds.length = n := ⟨_, rfl⟩
    rw [hnn] at hn hl ⊢
    have HC := Lib.hid hc
    have HN := Lib.hid hnn
    clear hc hnn
    go_enter Tryd.func32, Tryd.ntmps32
    go_wp2
    go_loopw [3, 4] (fun o i wr => ∃ (j : Nat) (x : ByteArray), o = .string x ∧ i = .int .i64 j ∧ j ≤ n ∧ x.size ≤ 10 * j ∧ Hid (x = Tw.str (jt (ds.take j))) ∧ Hid (goodTo (ds.take j) = true) ∧ Below w.heap.size w wr) (fun _ i _ => n - (intOf i).toNat)
    case atStart => exact ⟨0, _, rfl, rfl, Nat.zero_le _, Nat.le_refl _, rfl, rfl, Below.refl _ _⟩
    case round =>
      obtain ⟨j, x, rfl, rfl, hj, hx, HX, HG, hb⟩ := hrel
      by_cases hlt : j < n
      · obtain ⟨d, hd⟩ : ∃ d, ds[j]? = some d := ⟨ds[j]'(by rw [HN.out]; exact hlt), List.getElem?_eq_getElem (by rw [HN.out]; exact hlt)⟩
        have c0 := cell_keep hb (HC.out j d hd).1
        have c1 := cell_keep hb (HC.out j d hd).2
        have g0 := (HC.out j d hd).1
        have g1 := (HC.out j d hd).2
        have G0 := Lib.hid g0
        have G1 := Lib.hid g1
        obtain ⟨t, ht⟩ : ∃ t, Tw.str (dt d) = t := ⟨_, rfl⟩
        have ht7 : t.size ≤ 7 := by rw [← ht, Tw.str_size]; exact dt_few d
        have hct : Hid (∀ W : World, Calls Tryd.prog 61 #[.agg #[.int .i64 d.1, .int .i64 d.2]] W fun e w' => e = .returned (.string t) ∧ Below W.heap.size W w') := fun W => ht ▸ specDeedText d.1 d.2 W
        have HD := Lib.hid hd
        have HT := Lib.hid ht
        have hk3 : (0 : Int) ≤ (j : Int) := by omega
        have hk4 : (j : Int) < (n : Int) := by omega
        clear hd ht g0 g1
        by_cases ht0 : t.size = 0
        · obtain rfl := nil_of_size0 ht0
          go_wp2_with (first
            | (go_at_call 61; refine (hct.out _).mono ?_; rintro e w1 ⟨rfl, hb1⟩))
          go_ret
          exact ⟨ret_str (by rw [journal_bad HD.out (str_nil_of (by rw [HT.out]; rfl))]; rfl), hb.trans (hb1.mono hb.size)⟩
        · have hne := notEmpty0 (s := t) (by omega)
          go_wp2_with (first
            | (go_at_call 61; first
                | (have hq := hb2; refine (hct.out _).mono ?_; rintro e w2 ⟨rfl, hb3'⟩; have hb3 := hb2.trans (hb3'.mono hb2.size))
                | (refine (hct.out _).mono ?_; rintro e w1 ⟨rfl, hb1⟩; have hb2 := hb.trans (hb1.mono hb.size); have e0 := cell_keep hb2 G0.out; have e1 := cell_keep hb2 G1.out)))
          go_roundw
          case rel =>
            refine ⟨j + 1, _, rfl, by go_num, by omega, by simp [lit_size0]; omega, ?_, ?_, hb3⟩
            · show _ = _
              rw [HX.out, ← HT.out, jt_succ HD.out]
              show Tw.str _ ++ Tw.str _ ++ Tw.str [10] = _
              rw [Tw.str_append, Tw.str_append, List.append_assoc]
            · refine good_succ HD.out HG.out ?_
              intro e
              have := HT.out
              rw [e] at this
              rw [← this] at ht0
              exact ht0 rfl
          case measure => simp [intOf]; omega
      · obtain rfl : j = n := by omega
        go_wp2
        go_ret
        have e : ds.take j = ds := List.take_of_length_le (by rw [HN.out]; exact Nat.le_refl _)
        refine ⟨ret_str ?_, hb⟩
        have hg := HG.out
        rw [e] at hg
        rw [HX.out, e, journal_good hg]

set_option maxRecDepth 100000 in
set_option maxHeartbeats 3200000 in
theorem implJournal (v : Value) (ds : List (Int × Int)) (w : World) (hw : WordsAt w) (h : DeedsAt w v ds) (hn : ds.length ≤ 1048576) :
    Calls Tryd.prog 31 #[v] w fun e w' => e = .returned (.string (Tw.str (journal ds))) ∧ Below w.heap.size w w' := by
  have hbu := Lib.fresh_isBuilder 77 5 w
  have hb0 : Below w.heap.size w (w.alloc (.cells #[.pointer none, .slice none 0 0] 77)) := (Below.refl _ _).alloc (Nat.le_refl _) _
  rcases h with ⟨rfl, rfl⟩ | ⟨a, cap, rfl, hl, hc⟩
  · go_enter Tryd.func31, Tryd.ntmps31
    go_wp2
    refine wp_loop_rounds 1 ?_
    rw [rounds_succ]
    go_wp2_with (first
      | (go_at_call 60; refine (Tryd.Builder_String_any w.heap.size w.heap.size [] _ hbu (by simp)).mono ?_; rintro e w6 ⟨rfl, hb6⟩))
    go_ret
    exact ⟨rfl, hb0.trans hb6⟩
  · obtain ⟨n, hnn⟩ : ∃ n, ds.length = n := ⟨_, rfl⟩
    rw [hnn] at hn hl ⊢
    have HC := Lib.hid hc
    have HN := Lib.hid hnn
    clear hc hnn
    go_enter Tryd.func31, Tryd.ntmps31
    go_wp2
    go_loopw [5, 6, 9] (fun _ _ i wr => ∃ j : Nat, i = .int .i64 j ∧ j ≤ n ∧ Lib.IsBuilder 77 5 w.heap.size w.heap.size (Lib.byteCells (jt (ds.take j))) wr ∧ (jt (ds.take j)).length ≤ 10 * j ∧ Hid (goodTo (ds.take j) = true) ∧ Below w.heap.size w wr ∧ w.heap.size ≤ wr.heap.size) (fun _ _ i _ => n - (intOf i).toNat)
    case atStart => exact ⟨0, rfl, Nat.zero_le _, hbu, Nat.le_refl _, rfl, hb0, by simp⟩
    case round =>
      obtain ⟨j, rfl, hj, hbuj, hjl, HG, hb, hsz⟩ := hrel
      by_cases hlt : j < n
      · obtain ⟨d, hd⟩ : ∃ d, ds[j]? = some d := ⟨ds[j]'(by rw [HN.out]; exact hlt), List.getElem?_eq_getElem (by rw [HN.out]; exact hlt)⟩
        have c0 := cell_keep hb (HC.out j d hd).1
        have c1 := cell_keep hb (HC.out j d hd).2
        obtain ⟨t, ht⟩ : ∃ t, Tw.str (dt d) = t := ⟨_, rfl⟩
        have ht7 : t.size ≤ 7 := by rw [← ht, Tw.str_size]; exact dt_few d
        have hct : Hid (∀ W : World, WordsAt W → Calls Tryd.prog 57 #[.agg #[.int .i64 d.1, .int .i64 d.2]] W fun e w' => e = .returned (.string t) ∧ Below W.heap.size W w') := fun W hW => ht ▸ implDeedText d.1 d.2 W hW
        obtain ⟨J, hJ⟩ : ∃ J, jt (ds.take j) = J := ⟨_, rfl⟩
        have hjs := jt_succ hd
        rw [hJ] at hbuj hjl hjs
        have HJ := Lib.hid hjs
        have HD := Lib.hid hd
        have HT := Lib.hid ht
        have hk3 : (0 : Int) ≤ (j : Int) := by omega
        have hk4 : (j : Int) < (n : Int) := by omega
        have hbA := hb.alloc hsz (.cells #[.int .i64 d.1, .int .i64 d.2] 27)
        have HBA := Lib.hid hbA
        clear hd ht hJ hjs hbA
        by_cases ht0 : t.size = 0
        · obtain rfl := nil_of_size0 ht0
          go_wp2_with (first
            | (go_at_call 57; refine (hct.out _ (hw.below' HBA.out)).mono ?_; rintro e w1 ⟨rfl, hb1⟩))
          go_ret
          exact ⟨ret_str (by rw [journal_bad HD.out (str_nil_of (by rw [HT.out]; rfl))]; rfl), HBA.out.trans (hb1.mono HBA.out.size)⟩
        · have hne := notEmpty0 (s := t) (by omega)
          go_wp2_with (first
            | (go_at_call 57; refine (hct.out _ (hw.below' HBA.out)).mono ?_; rintro e w1 ⟨rfl, hb1⟩; have hbu1 := isBuilderKept (isBuilderKept hbuj ((Below.refl _ _).alloc (Nat.le_refl _) (.cells #[.int .i64 d.1, .int .i64 d.2] 27))) hb1; have hb2 := HBA.out.trans (hb1.mono HBA.out.size); have hsz2 := hb2.size)
            | (go_at_call 58; refine (writeString_any w.heap.size w.heap.size _ t _ hbu1 (by rw [Lib.byteCells_length]; omega) hsz2).mono ?_; rintro e w3 ⟨rfl, hbu3, hb3'⟩; have hb3 := hb2.trans hb3'; have hsz3 := hb3.size)
            | (go_at_call 59; refine (writeByte_any w.heap.size w.heap.size _ 10 _ (.inr hbu3) (by rw [List.length_append, Lib.byteCells_length, Lib.byteCells_length, size_data]; omega) hsz3).mono ?_; rintro e w4 ⟨rfl, hbu4, hb4'⟩; have hb4 := hb3.trans hb4'))
          go_roundw
          case rel =>
            have ht' : t.data.toList = dt d := by rw [← HT.out, Tw.str_data]
            have e1 : Lib.byteCells J ++ Lib.byteCells t.data.toList ++ [.int .u8 10] = Lib.byteCells (jt (ds.take (j + 1))) := by
              rw [HJ.out, ht']
              simp [Lib.byteCells]
            rw [e1] at hbu4
            refine ⟨j + 1, by go_num, by omega, .inr hbu4, ?_, ?_, hb4, hb4.size⟩
            · rw [HJ.out, List.length_append, List.length_append]
              have := dt_few d
              simp
              omega
            · refine good_succ HD.out HG.out ?_
              intro e
              have := HT.out
              rw [e] at this
              rw [← this] at ht0
              exact ht0 rfl
          case measure => simp [intOf]; omega
      · obtain rfl : j = n := by omega
        go_wp2_with (first
          | (go_at_call 60; refine (Tryd.Builder_String_any w.heap.size w.heap.size _ _ hbuj hsz).mono ?_; rintro e w6 ⟨rfl, hb6⟩))
        go_ret
        have e : ds.take j = ds := List.take_of_length_le (by rw [HN.out]; exact Nat.le_refl _)
        have hg := HG.out
        rw [e] at hg
        refine ⟨ret_str ?_, hb.trans hb6⟩
        rw [e, journal_good hg]
        rfl


end Go.Proofs.YtpkenccgjlhnlaaDoor

namespace Go.Proofs.YtpkenccgjlhnlaaDoor
open Go.RowKit

theorem row_grown {X X' : World} {v : Value} {ds : List (Int × Int)} {row : Option Nat} (h : RowAt X v ds) (hg : X.grownBy X' row) (hne : v.ownBlock ≠ row) : RowAt X' v ds := by
  rcases h with h | ⟨g, cap, cur, rfl, hl, hr, hz, hc⟩
  · exact .inl h
  · exact .inr ⟨g, cap, cur, rfl, hl, (hg.block g (lt_at hr) hne).trans hr, hz, hc⟩
theorem row_at {w : World} {g n cap : Nat} {ds : List (Int × Int)} (h : RowAt w (.slice (some ⟨g, 0, none⟩) n cap) ds) {j : Nat} {d : Int × Int} (hd : ds[j]? = some d) : w.cell? ⟨g, j * 2, none⟩ = some (.int .i64 d.1) ∧ w.cell? ⟨g, j * 2 + 1, none⟩ = some (.int .i64 d.2) := ⟨(row_cells h hd).1, (row_cells h hd).2.1⟩
/-- Deeds as they are drawn. -/
def Drew (ds : List (Int × Int)) : Prop := ∀ d ∈ ds, (0 ≤ d.1 ∧ d.1 ≤ 11) ∧ -1 ≤ d.2 ∧ d.2 ≤ 100
theorem Drew.snoc {ds : List (Int × Int)} (h : Drew ds) {d : Int × Int} (hd : (0 ≤ d.1 ∧ d.1 ≤ 11) ∧ -1 ≤ d.2 ∧ d.2 ≤ 100) : Drew (ds ++ [d]) := by
  intro x hx
  rcases List.mem_append.1 hx with h1 | h1
  · exact h x h1
  · rw [List.mem_singleton.1 h1]
    exact hd
theorem own_leD {w : World} {base g n cap size : Nat} {e : TypeId} {xs : List Value} (h : w.ownsRow base e size (.slice (some ⟨g, 0, none⟩) n cap) n xs) : n ≤ cap := by
  rcases h.2 with ⟨h1, _⟩ | ⟨g', cap', cur, h1, _, _, hl, _⟩
  · cases h1
  · cases h1
    exact hl
theorem deeds_g {s : ByteArray} {w W : World} {R n p k : Nat} {v : Value} (h : Drawn w W R v n p k) (hp : p + k ≤ 80000) (hs : s.size ≤ 41) :
    Calls Tryd.prog 53 #[.pointer (some ⟨R, 0, none⟩), .string s] W fun e w' => ∃ (g cap : Nat) (ds : List (Int × Int)), e = .returned (.slice (some ⟨g, 0, none⟩) ds.length cap) ∧ w'.ownsRow W.heap.size 27 2 (.slice (some ⟨g, 0, none⟩) ds.length cap) ds.length (pairCells ds) ∧ ds.length ≤ 5 ∧ Drew ds ∧ Drawn w w' R v n p (k + 31) ∧ W.grownBy w' (some R) := by
  obtain ⟨p', hp', hr, hg⟩ := h
  refine (deeds_d s W W R n p' 0 v (Drawn.start hr) (by omega) hs).mono ?_
  rintro e w' ⟨g, cap, ds, rfl, h1, h2, h3, p2, hp2, hr2, hg2⟩
  exact ⟨g, cap, ds, rfl, h1, h2, h3, ⟨p2, by omega, hr2, grown_trans hg hg2⟩, hg2⟩
set_option maxRecDepth 100000 in
set_option maxHeartbeats 1600000 in
theorem written_d (w W : World) (R n p k : Nat) (v : Value) (h : Drawn w W R v n p k) (hp : p + k ≤ 70000) :
    Calls Tryd.prog 56 #[.pointer (some ⟨R, 0, none⟩)] W fun e w' => ∃ (g cap : Nat) (ds : List (Int × Int)), e = .returned (.slice (some ⟨g, 0, none⟩) ds.length cap) ∧ w'.ownsRow W.heap.size 27 2 (.slice (some ⟨g, 0, none⟩) ds.length cap) ds.length (pairCells ds) ∧ ds.length ≤ 5 ∧ Drew ds ∧ Drawn w w' R v n p (k + 91) := by
  obtain ⟨i0, hi0, hz0, hz1, hz2⟩ := info_parts deedInfo
  have hown0 := own_noneD W 27 W.heap.size (Nat.le_refl _)
  have HO := Lib.hid hown0
  have HD0 := Lib.hid (h.alloc (.cells #[] 27))
  have hlR := h.lt
  have H0 := Lib.hid h
  have hs0 : W.heap.size < (W.alloc (.cells #[] 27)).heap.size := by simp
  clear hown0 h
  go_enter Tryd.func56, Tryd.ntmps56
  go_wp2_with (first
    | (go_at_call 65; refine (walk_g HD0.out (by omega) (by omega) (by omega)).mono ?_; rintro e w2 ⟨s, rfl, hs, hd2, hg2⟩; have OWN2 := Lib.hid (HO.out.kept hg2 (.inr (fun h9 => by have h8 : W.heap.size = R := Option.some.inj h9; omega))); have HD2 := Lib.hid hd2; have hs2 : W.heap.size < w2.heap.size := Nat.lt_of_lt_of_le hs0 hg2.size; clear hd2 hg2)
    | (go_at_call 53; refine (deeds_g HD2.out (by omega) hs).mono ?_; rintro e w3 ⟨gL, cL, ls, rfl, hownL, hlL, hdL, hd3, hg3⟩; have RL := Lib.hid (row_own hownL rfl); have hgL := (hownL.lt gL rfl).1; have hcL := own_leD hownL; have HLS : Hid (Drew ls) := hdL; have HD3 := Lib.hid hd3; have OWN3 := Lib.hid (OWN2.out.kept hg3 (.inr (fun h9 => by have h8 : W.heap.size = R := Option.some.inj h9; omega))); have hs3 : W.heap.size < w3.heap.size := Nat.lt_of_lt_of_le hs2 hg3.size; clear hownL hdL hd3 hg3))
  obtain ⟨N, hN⟩ : ∃ N, ls.length = N := ⟨_, rfl⟩
  rw [hN] at hlL hcL RL ⊢
  have HN := Lib.hid hN
  clear hN
  go_loopw [3, 5] (fun o i wr => ∃ (g cap j : Nat) (ds : List (Int × Int)), o = .slice (some ⟨g, 0, none⟩) ds.length cap ∧ i = .int .i64 j ∧ j ≤ N ∧ ds.length ≤ j ∧ g ≠ gL ∧ gL < wr.heap.size ∧ Hid (wr.ownsRow W.heap.size 27 2 (.slice (some ⟨g, 0, none⟩) ds.length cap) ds.length (pairCells ds)) ∧ Hid (Drawn w wr R v n p (k + 91)) ∧ Hid (Drew ds) ∧ Hid (RowAt wr (.slice (some ⟨gL, 0, none⟩) N cL) ls) ∧ W.heap.size < wr.heap.size) (fun _ i _ => N - (intOf i).toNat)
  case atStart => exact ⟨_, _, 0, [], rfl, rfl, Nat.zero_le _, Nat.le_refl _, by omega, RL.out.lt rfl, OWN3.out, HD3.out.mono (by omega), by show ∀ d ∈ ([] : List (Int × Int)), _; simp, RL.out, hs3⟩
  case round =>
    obtain ⟨g, cap, j, ds, rfl, rfl, hj, hdj, hne, hgl, HOWN, HD, HK, HRL, hszr⟩ := hrel
    by_cases hlt : j < N
    · have hgb := (HOWN.out.lt g rfl).1
      obtain ⟨d, hd⟩ : ∃ d, ls[j]? = some d := ⟨ls[j]'(by rw [HN.out]; exact hlt), List.getElem?_eq_getElem (by rw [HN.out]; exact hlt)⟩
      obtain ⟨c0, c1⟩ := row_at HRL.out hd
      have HDD := Lib.hid hd
      have hk3 : (0 : Int) ≤ (j : Int) := by omega
      have hk4 : (j : Int) < (N : Int) := by omega
      obtain ⟨X, hX⟩ : ∃ X, Tw.str (deedText d.1 d.2) = X := ⟨_, rfl⟩
      have HT : Hid (∀ Y : World, Calls Tryd.prog 61 #[.agg #[.int .i64 d.1, .int .i64 d.2]] Y fun e w' => e = .returned (.string X) ∧ Below Y.heap.size Y w') := fun Y => hX ▸ specDeedText d.1 d.2 Y
      have hAT : Hid (∀ Y, Ext wr Y → Y.cell? ⟨gL, j * 2, none⟩ = some (.int .i64 d.1) ∧ Y.cell? ⟨gL, j * 2 + 1, none⟩ = some (.int .i64 d.2)) := fun Y hY => row_at (HRL.out.ext hY) HDD.out
      clear hd hX
      cases hem : X.toList.isEmpty
      · go_wp2_with (first
          | (go_at_call 61; refine (HT.out _).mono ?_; rintro e w4 ⟨rfl, hb4⟩; have E4 : Hid (Ext wr w4) := hb4; obtain ⟨e0, e1⟩ := hAT.out _ E4.out; have OWN4 := Lib.hid (own_below HOWN.out hb4); have hs4 : wr.heap.size ≤ w4.heap.size := hb4.size; clear hb4)
          | (at_builtin; refine wpList_append_lies _ rfl _ _ 41 rfl W.heap.size 27 i0 _ 2 16 Tryd.underlying41 hi0 hz0 hz1 hz2 rfl (by omega) _ ds.length (pairCells ds) rfl (OWN4.out.alloc _) ⟨w4.heap.size, 0, none⟩ 1 1 [.int .i64 d.1, .int .i64 d.2] rfl rfl (World.news_of_block (cs := #[.int .i64 d.1, .int .i64 d.2]) (t := 27) (fr := (0, 0)) (heap_alloc_new w4 _)) (by simp [Value.oneCell']) (by omega) (by unfold maxLen; omega) (by omega) (by simp; omega) (w4.heap.size + 1) (by simp) ?_; intro g5 cap5 w5 hown5 hgrow5 hat5 hlt5))
        go_roundw
        case rel =>
          have e1 : (ds ++ [d]).length = ds.length + 1 := by simp
          have e2 : pairCells (ds ++ [d]) = pairCells ds ++ [.int .i64 d.1, .int .i64 d.2] := by simp [pairCells]
          have hb5 : Below W.heap.size w4 w5 := ((Below.refl W.heap.size w4).alloc (by omega) _).grown hgrow5 (by simp; omega) (fun i hi => by have h8 : g = i := Option.some.inj hi; omega)
          have hne5 : g5 ≠ gL := by
            rcases hat5 with h9 | h9
            · have h8 : g = g5 := Option.some.inj h9
              omega
            · omega
          have hl5 : (w4.alloc (.cells #[.int .i64 d.1, .int .i64 d.2] 27)).heap.size ≤ w5.heap.size := hgrow5.size
          rw [World.size_alloc] at hl5
          refine ⟨g5, cap5, j + 1, ds ++ [d], by rw [e1], by go_num, by omega, by omega, hne5, by omega, ?_, (HD.out.below E4.out).belowB H0.out hb5, HK.out.snoc (HLS.out d (List.mem_of_getElem? HDD.out)), row_grown ((HRL.out.ext E4.out).ext ((Ext.refl w4).alloc _)) hgrow5 (fun h9 => by have h8 : gL = g := Option.some.inj h9; omega), by omega⟩
          show World.ownsRow _ _ _ _ _ _ _
          rw [e1, e2]
          exact hown5
        case measure => simp [intOf]; omega
      · go_wp2_with (first
          | (go_at_call 61; refine (HT.out _).mono ?_; rintro e w4 ⟨rfl, hb4⟩; have E4 : Hid (Ext wr w4) := hb4; have OWN4 := Lib.hid (own_below HOWN.out hb4); have hs4 : wr.heap.size ≤ w4.heap.size := hb4.size; clear hb4))
        go_roundw
        case rel => exact ⟨g, cap, j + 1, ds, rfl, by go_num, by omega, by omega, hne, by omega, OWN4.out, HD.out.below E4.out, HK.out, HRL.out.ext E4.out, by omega⟩
        case measure => simp [intOf]; omega
    · obtain rfl : N = j := by omega
      go_wp2_with fail
      go_ret
      exact ⟨g, cap, ds, rfl, HOWN.out, by omega, HK.out, HD.out⟩

set_option maxRecDepth 100000 in
set_option maxHeartbeats 1600000 in
theorem drawJournalText (v : Value) (n : Nat) (w : World) (h : CodeAt w v n) :
    Calls Tryd.prog 30 #[v] w fun e w' => ∃ (g cap : Nat) (ds : List (Int × Int)), e = .returned (.slice (some ⟨g, 0, none⟩) ds.length cap) ∧ RowAt w' (.slice (some ⟨g, 0, none⟩) ds.length cap) ds ∧ ds.length ≤ 6 ∧ Below w.heap.size w w' := by
  obtain ⟨i0, hi0, hz0, hz1, hz2⟩ := info_parts deedInfo
  go_enter Tryd.func30, Tryd.ntmps30
  go_wp2_with (first
    | (go_at_call 35; refine (open_any v n _ h).mono ?_; rintro e w1 ⟨rfl, ⟨v', n', hr⟩, hb1⟩; have hltR := (Drawn.start hr).lt)
    | (go_at_call 56; refine (written_d w1 w1 _ n' 0 0 v' (Drawn.start hr) (by omega)).mono ?_; rintro e w2 ⟨g, cap, ds, rfl, hown, hl, _, hd2⟩; have OWN2 := Lib.hid hown; have HD2 := Lib.hid hd2; have hg := (hown.lt g rfl).1; clear hown hd2)
    | (go_at_call 52; refine (odd_g HD2.out (by omega) (by omega) (by omega)).mono ?_; rintro e w3 ⟨b, rfl, hd3, hg3⟩; have OWN3 := Lib.hid (OWN2.out.kept hg3 (.inr (fun h9 => by have h8 : g = w.heap.size := Option.some.inj h9; omega))); have hb3 := hd3.below_base hb1 (Nat.le_refl _); have hs3 : w1.heap.size ≤ w3.heap.size := (by obtain ⟨_, _, _, h9⟩ := hd3; exact h9.size); cases b)
    | (at_builtin; refine wpList_append_lies _ rfl _ _ 41 rfl w1.heap.size 27 i0 _ 2 16 Tryd.underlying41 hi0 hz0 hz1 hz2 rfl (by omega) _ ds.length (pairCells ds) rfl (OWN3.out.alloc _) ⟨w3.heap.size, 0, none⟩ 1 1 [.int .i64 9, .int .i64 0] rfl rfl (World.news_of_block (cs := #[.int .i64 9, .int .i64 0]) (t := 27) (fr := (0, 0)) (heap_alloc_new w3 _)) (by simp [Value.oneCell']) (by omega) (by unfold maxLen; omega) (by omega) (by simp; omega) (w3.heap.size + 1) (by simp) ?_; intro g5 cap5 w5 hown5 hgrow5 hat5 hlt5))
  · go_ret
    exact ⟨g, cap, ds, rfl, row_own OWN3.out rfl, by omega, hb3⟩
  · go_ret
    have e1 : (ds ++ [((9 : Int), (0 : Int))]).length = ds.length + 1 := by simp
    have e2 : pairCells (ds ++ [((9 : Int), (0 : Int))]) = pairCells ds ++ [.int .i64 9, .int .i64 0] := by simp [pairCells]
    have hs1 := hb1.size
    refine ⟨g5, cap5, ds ++ [(9, 0)], by rw [e1]; rfl, ?_, by omega, (hb3.alloc (by omega) _).grown hgrow5 (by simp; omega) (fun i hi => by have h8 : g = i := Option.some.inj hi; omega)⟩
    rw [e1]
    rw [← e2] at hown5
    exact row_own hown5 e1

end Go.Proofs.YtpkenccgjlhnlaaDoor

namespace Go.Proofs.YtpkenccgjlhnlaaDoor
open Go.RowKit

def cutStep (sep : UInt8) (st : List (List UInt8) × List UInt8) (c : UInt8) : List (List UInt8) × List UInt8 := if c = sep then (st.1 ++ [st.2], []) else (st.1, st.2 ++ [c])
def cutState (sep : UInt8) (l : List UInt8) : List (List UInt8) × List UInt8 := l.foldl (cutStep sep) ([], [])
/-- What stands between the bytes sep of a text. -/
def cutAll (sep : UInt8) (l : List UInt8) : List (List UInt8) := (cutState sep l).1 ++ [(cutState sep l).2]
theorem cut_clean (sep : UInt8) : ∀ (l : List UInt8) (ps : List (List UInt8)) (cur : List UInt8), sep ∉ l → l.foldl (cutStep sep) (ps, cur) = (ps, cur ++ l)
  | [], ps, cur, _ => by simp
  | c :: l, ps, cur, h => by
    rw [List.foldl_cons]
    have hc : c ≠ sep := fun e => h (by rw [e]; exact List.mem_cons_self)
    unfold cutStep
    rw [if_neg hc]
    exact (cut_clean sep l ps (cur ++ [c]) (fun e => h (List.mem_cons_of_mem _ e))).trans (by simp)
theorem cutAll_one {sep : UInt8} {l : List UInt8} (h : sep ∉ l) : cutAll sep l = [l] := by
  unfold cutAll cutState
  rw [cut_clean sep l [] [] h]
  rfl
theorem cutAll_two {sep : UInt8} {a b : List UInt8} (ha : sep ∉ a) (hb : sep ∉ b) : cutAll sep (a ++ sep :: b) = [a, b] := by
  unfold cutAll cutState
  rw [List.foldl_append, cut_clean sep a [] [] ha, List.foldl_cons]
  have e : cutStep sep ([], [] ++ a) sep = ([a], []) := by unfold cutStep; rw [if_pos rfl]; rfl
  rw [e, cut_clean sep b [a] [] hb]
  rfl
theorem cutState_sep {sep : UInt8} {l : List UInt8} {k : Nat} (hk : k < l.length) (h : l[k] = sep) : cutState sep (l.take (k + 1)) = ((cutState sep (l.take k)).1 ++ [(cutState sep (l.take k)).2], []) := by
  unfold cutState
  rw [List.take_succ_eq_append_getElem hk, List.foldl_append, List.foldl_cons, List.foldl_nil]
  unfold cutStep
  rw [if_pos h]
theorem cutState_not {sep : UInt8} {l : List UInt8} {k : Nat} (hk : k < l.length) (h : l[k] ≠ sep) : cutState sep (l.take (k + 1)) = ((cutState sep (l.take k)).1, (cutState sep (l.take k)).2 ++ [l[k]]) := by
  unfold cutState
  rw [List.take_succ_eq_append_getElem hk, List.foldl_append, List.foldl_cons, List.foldl_nil]
  unfold cutStep
  rw [if_neg h]

theorem nil_of_sizeR {s : ByteArray} (h : s.size = 0) : s = ⟨#[]⟩ := by
  apply ByteArray.ext
  exact Array.eq_empty_of_size_eq_zero h
theorem notEmptyR {s : ByteArray} (h : 0 < s.size) : s.toList.isEmpty = false := by
  rw [Lib.toList_data]
  cases hl : s.data.toList with
  | nil => have := size_data s; rw [hl] at this; simp at this; omega
  | cons _ _ => rfl
/-- A text of digits: its number. -/
def numVal (l : List UInt8) : Nat := l.foldl (fun n c => 10 * n + (c.toNat - 48)) 0
def numOk (l : List UInt8) (d : Nat) : Bool := decide (1 ≤ l.length) && decide (l.length ≤ d) && !(decide (1 < l.length) && l.head? == some 48) && l.all fun c => decide (48 ≤ c.toNat) && decide (c.toNat ≤ 57)
theorem num_dec {n : Nat} (h : n < 100) : numOk (Lib.decDigits n) 2 = true ∧ numVal (Lib.decDigits n) = n ∧ (32 : UInt8) ∉ Lib.decDigits n ∧ Lib.decDigits n ≠ [] := by
  have h2 : (List.range 100).all (fun i => numOk (Lib.decDigits i) 2 && decide (numVal (Lib.decDigits i) = i) && !(Lib.decDigits i).contains 32 && !(Lib.decDigits i).isEmpty) = true := by decide +kernel
  have := List.all_eq_true.1 h2 n (List.mem_range.2 h)
  simp at this
  exact ⟨this.1.1.1, this.1.1.2, this.1.2, this.2⟩
theorem num_mono {l : List UInt8} {d e : Nat} (h : numOk l d = true) (hde : d ≤ e) : numOk l e = true := by
  unfold numOk at *
  simp at *
  exact ⟨⟨⟨h.1.1.1, by omega⟩, h.1.2⟩, h.2⟩
theorem dec_num {l : List UInt8} (h : numOk l 2 = true) : Lib.decDigits (numVal l) = l ∧ numVal l < 100 := by
  unfold numOk at h
  simp only [Bool.and_eq_true, decide_eq_true_eq] at h
  obtain ⟨⟨⟨h1, h2⟩, h3⟩, h4⟩ := h
  match l, h1, h2, h3, h4 with
  | [c], _, _, _, h4 =>
    simp at h4
    have e : numVal [c] = c.toNat - 48 := by simp [numVal]
    rw [e]
    refine ⟨?_, by omega⟩
    rw [dec_two (by omega), if_pos (by omega)]
    have : 48 + (c.toNat - 48) = c.toNat := by omega
    rw [this, UInt8.ofNat_toNat]
  | [a, b], _, _, h3, h4 =>
    simp at h4 h3
    have ha : a.toNat ≠ 48 := fun e => h3 (by rw [← UInt8.ofNat_toNat (x := a), e]; rfl)
    have e : numVal [a, b] = 10 * (a.toNat - 48) + (b.toNat - 48) := by simp [numVal]
    rw [e]
    refine ⟨?_, by omega⟩
    rw [dec_two (by omega), if_neg (by omega)]
    have e1 : 48 + (10 * (a.toNat - 48) + (b.toNat - 48)) / 10 = a.toNat := by omega
    have e2 : 48 + (10 * (a.toNat - 48) + (b.toNat - 48)) % 10 = b.toNat := by omega
    rw [e1, e2, UInt8.ofNat_toNat, UInt8.ofNat_toNat]

/-- The deeds that have a text. -/
def told (k n : Int) : Prop := ((k = 0 ∨ k = 2 ∨ k = 3) ∧ 0 ≤ n ∧ n ≤ 99) ∨ ((k = 1 ∨ k = 4 ∨ k = 5) ∧ n = 0)
theorem told_of {k n : Int} (h : deedText k n ≠ []) : told k n := by
  unfold deedText at h
  unfold told
  split at h
  · rename_i hk
    split at h
    · rename_i hn
      exact .inl ⟨hk, hn⟩
    · exact absurd rfl h
  · split at h
    · rename_i hk
      split at h
      · rename_i hn
        exact .inr ⟨hk, hn⟩
      · exact absurd rfl h
    · exact absurd rfl h
theorem text_told {k n : Int} (h : told k n) : deedText k n = if k = 0 ∨ k = 2 ∨ k = 3 then deedWord k.toNat ++ 32 :: Lib.decDigits n.toNat else deedWord k.toNat := by
  unfold deedText
  rcases h with ⟨h1, h2⟩ | ⟨h1, h2⟩
  · rw [if_pos h1, if_pos h1, if_pos h2]
  · have h3 : ¬ (k = 0 ∨ k = 2 ∨ k = 3) := by omega
    rw [if_neg h3, if_neg h3, if_pos h1, if_pos h2]
def headOf (k : Int) : UInt8 := [115, 100, 119, 111, 102, 98].getD k.toNat 0
theorem head_text {k n : Int} (h : told k n) : (deedText k n).head? = some (headOf k) := by
  rw [text_told h]
  have hk : k = 0 ∨ k = 1 ∨ k = 2 ∨ k = 3 ∨ k = 4 ∨ k = 5 := by unfold told at h; omega
  rcases hk with rfl | rfl | rfl | rfl | rfl | rfl <;> simp [deedWord, headOf]
theorem text_inj {k n k' n' : Int} (h : deedText k n = deedText k' n') (h0 : deedText k n ≠ []) : k = k' ∧ n = n' := by
  have t := told_of h0
  have t' := told_of (h ▸ h0)
  have e := head_text t
  rw [h, head_text t'] at e
  have hk : k = 0 ∨ k = 1 ∨ k = 2 ∨ k = 3 ∨ k = 4 ∨ k = 5 := by unfold told at t; omega
  have hk' : k' = 0 ∨ k' = 1 ∨ k' = 2 ∨ k' = 3 ∨ k' = 4 ∨ k' = 5 := by unfold told at t'; omega
  have ek : k = k' := by
    rcases hk with rfl | rfl | rfl | rfl | rfl | rfl <;> rcases hk' with rfl | rfl | rfl | rfl | rfl | rfl <;> first | rfl | (exfalso; revert e; decide)
  subst ek
  refine ⟨rfl, ?_⟩
  rcases t with ⟨h1, h2⟩ | ⟨h1, h2⟩
  · rcases t' with ⟨_, h3⟩ | ⟨h3, _⟩
    · rw [text_told (.inl ⟨h1, h2⟩), text_told (.inl ⟨h1, h3⟩), if_pos h1, if_pos h1] at h
      have h5 := List.append_cancel_left h
      simp only [List.cons.injEq, true_and] at h5
      have h6 := congrArg numVal h5
      rw [(num_dec (by omega)).2.1, (num_dec (by omega)).2.1] at h6
      omega
    · omega
  · rcases t' with ⟨h3, _⟩ | ⟨_, h3⟩
    · omega
    · omega
/-- The deed whose text a text is, and whether there is one. -/
noncomputable def readOf (s : List UInt8) : (Int × Int) × Bool :=
  open Classical in if h : ∃ d : Int × Int, s ≠ [] ∧ deedText d.1 d.2 = s then (h.choose, true) else ((0, 0), false)
theorem readOf_of {s : List UInt8} {k n : Int} (h0 : s ≠ []) (h : deedText k n = s) : readOf s = ((k, n), true) := by
  have hx : ∃ d : Int × Int, s ≠ [] ∧ deedText d.1 d.2 = s := ⟨(k, n), h0, h⟩
  unfold readOf
  rw [dif_pos hx]
  have h2 := hx.choose_spec.2
  have h3 := text_inj (h2.trans h.symm) (by rw [h2]; exact h0)
  exact Prod.ext (Prod.ext h3.1 h3.2) rfl
theorem readOf_none {s : List UInt8} (h : ∀ k n, s ≠ [] → deedText k n ≠ s) : readOf s = ((0, 0), false) := by
  unfold readOf
  rw [dif_neg]
  rintro ⟨d, h0, h1⟩
  exact h _ _ h0 h1
theorem readOf_text {s : List UInt8} (h : (readOf s).2 = true) : s ≠ [] ∧ deedText (readOf s).1.1 (readOf s).1.2 = s := by
  unfold readOf at *
  split at h
  · rename_i hx
    rw [dif_pos hx]
    exact hx.choose_spec
  · cases h
theorem readOf_not {s : List UInt8} (h : (readOf s).2 = false) : readOf s = ((0, 0), false) ∧ ∀ k n, s ≠ [] → deedText k n ≠ s := by
  have hn : ∀ k n, s ≠ [] → deedText k n ≠ s := fun k n h0 h1 => by
    rw [readOf_of h0 h1] at h
    cases h
  exact ⟨readOf_none hn, hn⟩

end Go.Proofs.YtpkenccgjlhnlaaDoor

namespace Go.Proofs.YtpkenccgjlhnlaaDoor
open Go.RowKit

def words (sep : UInt8) (s : ByteArray) : List ByteArray := (cutAll sep s.data.toList).map Tw.str
theorem cut_count (sep : UInt8) : ∀ (l : List UInt8) (ps : List (List UInt8)) (cur : List UInt8), (l.foldl (cutStep sep) (ps, cur)).1.length ≤ ps.length + l.length
  | [], ps, cur => by simp
  | c :: l, ps, cur => by
    rw [List.foldl_cons, show cutStep sep (ps, cur) c = if c = sep then (ps ++ [cur], []) else (ps, cur ++ [c]) from rfl]
    split
    · have := cut_count sep l (ps ++ [cur]) []
      simp at *
      omega
    · have := cut_count sep l ps (cur ++ [c])
      simp at *
      omega
theorem cutState_few (sep : UInt8) (l : List UInt8) : (cutState sep l).1.length ≤ l.length := by
  have := cut_count sep l [] []
  unfold cutState
  simpa using this
theorem words_few (sep : UInt8) (s : ByteArray) : (words sep s).length ≤ s.size + 1 := by
  unfold words cutAll
  have := cutState_few sep s.data.toList
  rw [size_data] at this
  simp
  omega
theorem cut_small (sep : UInt8) : ∀ (l : List UInt8) (ps : List (List UInt8)) (cur : List UInt8) (B : Nat), (∀ p ∈ ps, p.length ≤ B) → cur.length + l.length ≤ B → (∀ p ∈ (l.foldl (cutStep sep) (ps, cur)).1, p.length ≤ B) ∧ (l.foldl (cutStep sep) (ps, cur)).2.length ≤ B
  | [], ps, cur, B, hp, hc => ⟨hp, by simpa using hc⟩
  | c :: l, ps, cur, B, hp, hc => by
    rw [List.foldl_cons, show cutStep sep (ps, cur) c = if c = sep then (ps ++ [cur], []) else (ps, cur ++ [c]) from rfl]
    rw [List.length_cons] at hc
    split
    · refine cut_small sep l (ps ++ [cur]) [] B (fun p h => ?_) (by simp; omega)
      rcases List.mem_append.1 h with h | h
      · exact hp p h
      · rw [List.mem_singleton.1 h]
        omega
    · exact cut_small sep l ps (cur ++ [c]) B hp (by simp; omega)
theorem part_size {sep : UInt8} {l p : List UInt8} (h : p ∈ cutAll sep l) : p.length ≤ l.length := by
  have := cut_small sep l [] [] l.length (fun p h => by cases h) (by simp)
  unfold cutAll cutState at h
  rcases List.mem_append.1 h with h | h
  · exact this.1 p h
  · rw [List.mem_singleton.1 h]
    exact this.2
theorem piece_at {s : ByteArray} {f k : Nat} : s.extract f k = Tw.str ((s.data.toList.take k).drop f) := by
  rw [← Tw.str_of (s.extract f k), Lib.extract_data]
  congr 1
  rw [List.drop_take]
theorem drop_snoc {l : List UInt8} {f k : Nat} (hk : k < l.length) (hf : f ≤ k) : (l.take (k + 1)).drop f = (l.take k).drop f ++ [l[k]] := by
  rw [List.take_succ_eq_append_getElem hk, List.drop_append_of_le_length (by rw [List.length_take]; omega)]


end Go.Proofs.YtpkenccgjlhnlaaDoor

namespace Go.Proofs.YtpkenccgjlhnlaaDoor
open Go.RowKit

def digit (c : UInt8) : Bool := decide (48 ≤ c.toNat) && decide (c.toNat ≤ 57)
theorem num_bound {l : List UInt8} (h : l.all digit = true) (hl : l.length ≤ 4) : numVal l ≤ 9999 := by
  have hd : ∀ c : UInt8, digit c = true → c.toNat - 48 ≤ 9 := fun c hc => by
    unfold digit at hc
    simp at hc
    omega
  match l, h, hl with
  | [], _, _ => simp [numVal]
  | [a], h, _ =>
    simp at h
    have h1 := hd a h
    simp [numVal]
    omega
  | [a, b], h, _ =>
    simp at h
    have h1 := hd a h.1
    have h2 := hd b h.2
    simp [numVal]
    omega
  | [a, b, c], h, _ =>
    simp at h
    have h1 := hd a h.1
    have h2 := hd b h.2.1
    have h3 := hd c h.2.2
    simp [numVal]
    omega
  | [a, b, c, d], h, _ =>
    simp at h
    have h1 := hd a h.1
    have h2 := hd b h.2.1
    have h3 := hd c h.2.2.1
    have h4 := hd d h.2.2.2
    simp [numVal]
    omega
  | _ :: _ :: _ :: _ :: _ :: _, _, hl => exact absurd hl (by simp)
theorem num_snoc {l : List UInt8} {k : Nat} (hk : k < l.length) : numVal (l.take (k + 1)) = 10 * numVal (l.take k) + (l[k].toNat - 48) := by
  unfold numVal
  rw [List.take_succ_eq_append_getElem hk, List.foldl_append]
  rfl
theorem all_snoc {l : List UInt8} {k : Nat} (hk : k < l.length) (h : (l.take k).all digit = true) (hc : digit l[k] = true) : (l.take (k + 1)).all digit = true := by
  rw [List.take_succ_eq_append_getElem hk, List.all_append, h]
  simp [hc]
theorem all_not {l : List UInt8} {k : Nat} (hk : k < l.length) (hc : digit l[k] = false) : l.all digit = false := by
  rw [Bool.eq_false_iff]
  intro h
  have := List.all_eq_true.1 h l[k] (List.getElem_mem hk)
  rw [hc] at this
  cases this
theorem ok_is (l : List UInt8) (d : Nat) : numOk l d = (decide (1 ≤ l.length) && decide (l.length ≤ d) && !(decide (1 < l.length) && l.head? == some 48) && l.all digit) := rfl
theorem ok_nil (d : Nat) : numOk [] d = false := rfl
theorem ok_long {l : List UInt8} {d : Nat} (h : d < l.length) : numOk l d = false := by
  rw [ok_is, decide_eq_false (show ¬ l.length ≤ d by omega), Bool.and_false, Bool.false_and, Bool.false_and]
theorem ok_zero {l : List UInt8} {d : Nat} (h : 1 < l.length) (h0 : l[0] = 48) : numOk l d = false := by
  have e : l.head? = some 48 := by rw [List.head?_eq_getElem?, List.getElem?_eq_getElem (by omega), h0]
  rw [ok_is, e, decide_eq_true h]
  simp
theorem ok_bad {l : List UInt8} {d k : Nat} (hk : k < l.length) (hc : digit l[k] = false) : numOk l d = false := by
  rw [ok_is, all_not hk hc, Bool.and_false]
theorem ok_good {l : List UInt8} {d : Nat} (h1 : 0 < l.length) (h2 : l.length ≤ d) (h3 : 1 < l.length → l[0] ≠ 48) (h4 : l.all digit = true) : numOk l d = true := by
  rw [ok_is, decide_eq_true (show 1 ≤ l.length by omega), decide_eq_true h2, h4]
  by_cases h : 1 < l.length
  · have e : l.head? = some l[0] := by rw [List.head?_eq_getElem?, List.getElem?_eq_getElem (by omega)]
    rw [e]
    have := h3 h
    simp [this]
  · rw [decide_eq_false h]
    rfl
theorem digit_yes {c : UInt8} (h1 : (48 : Int) ≤ c.toNat) (h2 : (c.toNat : Int) ≤ 57) : digit c = true := by
  unfold digit
  rw [decide_eq_true (show 48 ≤ c.toNat by omega), decide_eq_true (show c.toNat ≤ 57 by omega)]
  rfl
theorem digit_low {c : UInt8} (h : (c.toNat : Int) < 48) : digit c = false := by
  unfold digit
  rw [decide_eq_false (show ¬ 48 ≤ c.toNat by omega), Bool.false_and]
theorem digit_high {c : UInt8} (h : (57 : Int) < c.toNat) : digit c = false := by
  unfold digit
  rw [decide_eq_false (show ¬ c.toNat ≤ 57 by omega), Bool.and_false]
/-- What readNumber returns. -/
def numRes (l : List UInt8) (d : Nat) : Int := if numOk l d then (numVal l : Int) else 0
def NumOut (l : List UInt8) (d : Nat) (w : World) (e : Ending) (w' : World) : Prop := e = .returned (.tuple #[.int .i64 (numRes l d), .bool (numOk l d)]) ∧ w = w'
theorem num_no {l : List UInt8} {d : Nat} (h : numOk l d = false) : Ending.returned (.tuple #[.int .i64 0, .bool false]) = .returned (.tuple #[.int .i64 (numRes l d), .bool (numOk l d)]) := by
  unfold numRes
  rw [h]
  rfl
theorem num_yes {l : List UInt8} {d m : Nat} (h : numOk l d = true) (hm : m = numVal l) : Ending.returned (.tuple #[.int .i64 (m : Int), .bool true]) = .returned (.tuple #[.int .i64 (numRes l d), .bool (numOk l d)]) := by
  unfold numRes
  rw [h, hm]
  rfl

set_option maxRecDepth 100000 in
set_option maxHeartbeats 800000 in
theorem num_loop (s : ByteArray) (d : Nat) (hd : d ≤ 4) (w : World) (h0 : 0 < s.size) (h1 : s.size ≤ d) (hz : (s[0].toNat : Int) = 48 → s.size = 1) :
    Calls Tryd.prog 86 #[.string s, .int .i64 d] w (NumOut s.data.toList d w) := by
  have hne := notEmptyR h0
  have hgt : ¬ (d : Int) < s.size := by omega
  have hH : Hid (1 < s.data.toList.length → s.data.toList[0]'(by rw [size_data]; exact h0) ≠ 48) := fun h e => by
    rw [size_data] at h
    have := hz (by rw [show s[0] = 48 from e]; rfl)
    omega
  have hcase : ((s[0].toNat : Int) == 48) = false ∨ (((s[0].toNat : Int) == 48) = true ∧ s.size = 1) := by
    cases hb : ((s[0].toNat : Int) == 48)
    · exact .inl rfl
    · exact .inr ⟨rfl, hz (beq_iff_eq.1 hb)⟩
  clear hz
  rcases hcase with hb | ⟨hb, hs1⟩
  all_goals
    try (have hs2 : ¬ (1 : Int) < s.size := by omega)
    try (have HS1 := Lib.hid hs1; clear hs1)
    go_enter Tryd.func86, Tryd.ntmps86
    go_wp2
    go_loop [6, 7] (fun n i => ∃ k m : Nat, k ≤ s.size ∧ i = .int .i64 k ∧ n = .int .i64 m ∧ m ≤ 9999 ∧ Hid (m = numVal (s.data.toList.take k)) ∧ Hid ((s.data.toList.take k).all digit = true)) (fun _ i => s.size - (intOf i).toNat)
    case atStart => exact ⟨0, 0, Nat.zero_le _, rfl, rfl, by omega, rfl, rfl⟩
    case round =>
      obtain ⟨k, m, hk, rfl, rfl, hm, HM, HA⟩ := hrel
      by_cases hlt : k < s.size
      · have hl : k < s.data.toList.length := by rw [size_data]; exact hlt
        by_cases hc1 : (s[k].toNat : Int) < 48
        · go_wp2
          go_ret2
          exact ⟨num_no (ok_bad hl (digit_low hc1)), rfl⟩
        · by_cases hc2 : (57 : Int) < s[k].toNat
          · go_wp2
            go_ret2
            exact ⟨num_no (ok_bad hl (digit_high hc2)), rfl⟩
          · have hc3 : (48 : Int) ≤ s[k].toNat := by omega
            have hc4 : (s[k].toNat : Int) ≤ 57 := by omega
            have ha := all_snoc hl HA.out (digit_yes hc3 hc4)
            have hv := num_snoc hl
            have hle := num_bound ha (by rw [List.length_take, size_data]; omega)
            have HV := Lib.hid hv
            have HA2 := Lib.hid ha
            have HLE := Lib.hid hle
            clear hv ha hle
            go_wp2
            go_round
            case rel =>
              have e : 10 * m + (s[k].toNat - 48) = numVal (s.data.toList.take (k + 1)) := by rw [HV.out, HM.out]; rfl
              refine ⟨k + 1, 10 * m + (s[k].toNat - 48), by omega, by go_num, ?_, by rw [e]; exact HLE.out, e, HA2.out⟩
              congr 1
              omega
            case measure => simp [intOf]; omega
      · obtain rfl : k = s.size := by omega
        go_wp2
        go_ret2
        have e : s.data.toList.take s.size = s.data.toList := List.take_of_length_le (by rw [size_data]; exact Nat.le_refl _)
        have hm2 := HM.out
        have ha2 := HA.out
        rw [e] at hm2 ha2
        exact ⟨num_yes (ok_good (by rw [size_data]; exact h0) (by rw [size_data]; exact h1) hH.out ha2) hm2, rfl⟩
theorem readNumber_any (s : ByteArray) (d : Nat) (hd : d ≤ 4) (w : World) (hs : s.size ≤ 9223372036854775807) :
    Calls Tryd.prog 86 #[.string s, .int .i64 d] w (NumOut s.data.toList d w) := by
  by_cases h0 : 0 < s.size
  · have hne := notEmptyR h0
    by_cases h1 : s.size ≤ d
    · by_cases hz : (s[0].toNat : Int) = 48 ∧ 1 < s.size
      · have HO := Lib.hid (ok_zero (l := s.data.toList) (d := d) (by rw [size_data]; exact hz.2) (by
          have := hz.1
          have e : s[0].toNat = 48 := by omega
          show s[0] = 48
          rw [← UInt8.ofNat_toNat (x := s[0]), e]
          rfl))
        have hb : ((s[0].toNat : Int) == 48) = true := beq_iff_eq.2 hz.1
        have hgt : ¬ (d : Int) < s.size := by omega
        have h2 : (1 : Int) < s.size := by have := hz.2; omega
        clear hz
        go_enter Tryd.func86, Tryd.ntmps86
        go_wp2
        go_ret2
        exact ⟨num_no HO.out, rfl⟩
      · exact num_loop s d hd w h0 h1 (fun e => by
          have : ¬ 1 < s.size := fun h => hz ⟨e, h⟩
          omega)
    · have HO := Lib.hid (ok_long (l := s.data.toList) (d := d) (by rw [size_data]; omega))
      have hgt : (d : Int) < s.size := by omega
      go_enter Tryd.func86, Tryd.ntmps86
      go_wp2
      go_ret2
      exact ⟨num_no HO.out, rfl⟩
  · obtain rfl : s = ⟨#[]⟩ := nil_of_sizeR (by omega)
    go_enter Tryd.func86, Tryd.ntmps86
    go_wp2
    go_ret2
    exact ⟨num_no (ok_nil d), rfl⟩


end Go.Proofs.YtpkenccgjlhnlaaDoor

namespace Go.Proofs.YtpkenccgjlhnlaaDoor
open Go.RowKit

/-- A text cut at a byte, once. -/
def Cutting (c : UInt8) (s a b : List UInt8) (f : Bool) : Prop := (f = true ∧ s = a ++ c :: b ∧ c ∉ a) ∨ (f = false ∧ a = s ∧ c ∉ s ∧ b = [])
theorem cutting (c : UInt8) (s : List UInt8) : Cutting c s (Lib.cut s [c]).1 (Lib.cut s [c]).2.1 (Lib.cut s [c]).2.2 := by
  unfold Lib.cut
  rw [Lib.index_one]
  split
  · rename_i h
    obtain ⟨o, ho⟩ : ∃ o : Nat, Lib.indexByte s c = o := ⟨(Lib.indexByte s c).toNat, by omega⟩
    obtain ⟨h1, h2⟩ := Lib.indexByte_some ho
    have hlt := (List.getElem?_eq_some_iff.1 h1).1
    refine .inl ⟨rfl, ?_, ?_⟩
    · rw [ho]
      show s = s.take o ++ c :: s.drop (o + 1)
      have e : s[o] = c := (List.getElem?_eq_some_iff.1 h1).2
      rw [← e, ← List.drop_eq_getElem_cons hlt, List.take_append_drop]
    · rw [ho]
      intro hm
      obtain ⟨k, hk, e⟩ := List.getElem_of_mem hm
      have hk2 : k < o := by rw [List.length_take] at hk; simp at hk; omega
      refine h2 k hk2 ?_
      rw [List.getElem?_eq_getElem (by omega)]
      rw [List.getElem_take] at e
      rw [e]
  · rename_i h
    have hge := Lib.index_ge s [c]
    rw [Lib.index_one] at hge
    refine .inr ⟨rfl, rfl, fun hm => ?_, rfl⟩
    obtain ⟨k, hk, e⟩ := List.getElem_of_mem hm
    exact Lib.indexByte_none (l := s) (c := c) (by omega) k (by rw [List.getElem?_eq_getElem hk, e])
theorem cut_same {c : UInt8} : ∀ {a b a' b' : List UInt8}, a ++ c :: b = a' ++ c :: b' → c ∉ a → c ∉ a' → a = a' ∧ b = b'
  | [], _, [], _, h, _, _ => by simpa using h
  | [], _, x :: a', _, h, _, h2 => by
    simp at h
    exact absurd (by rw [h.1]; exact List.mem_cons_self) h2
  | x :: a, _, [], _, h, h1, _ => by
    simp at h
    exact absurd (by rw [h.1]; exact List.mem_cons_self) h1
  | x :: a, b, y :: a', b', h, h1, h2 => by
    simp only [List.cons_append, List.cons.injEq] at h
    have := cut_same h.2 (fun e => h1 (List.mem_cons_of_mem _ e)) (fun e => h2 (List.mem_cons_of_mem _ e))
    exact ⟨by rw [h.1, this.1], this.2⟩
theorem word_clean {k : Nat} (hk : k < 6) : (32 : UInt8) ∉ deedWord k ∧ deedWord k ≠ [] := by
  obtain rfl | rfl | rfl | rfl | rfl | rfl : k = 0 ∨ k = 1 ∨ k = 2 ∨ k = 3 ∨ k = 4 ∨ k = 5 := by omega
  all_goals decide
theorem told_kind {k n : Int} (h : told k n) : 0 ≤ k ∧ k < 6 := by unfold told at h; omega
def numbered (k : Nat) : Bool := k == 0 || k == 2 || k == 3
theorem numbered_iff {k : Int} (h0 : 0 ≤ k) : numbered k.toNat = true ↔ (k = 0 ∨ k = 2 ∨ k = 3) := by
  unfold numbered
  simp
  omega
/-- Of a text that is a deed's text: how it is cut. -/
theorem text_cut {s a b : List UInt8} {f : Bool} (h : Cutting 32 s a b f) {k n : Int} (h0 : s ≠ []) (ht : deedText k n = s) :
    0 ≤ k ∧ k < 6 ∧ a = deedWord k.toNat ∧ f = numbered k.toNat ∧ (f = true → 0 ≤ n ∧ n ≤ 99 ∧ b = Lib.decDigits n.toNat) ∧ (f = false → n = 0) := by
  have t := told_of (ht ▸ h0)
  obtain ⟨hk0, hk6⟩ := told_kind t
  have hw := word_clean (k := k.toNat) (by omega)
  rw [text_told t] at ht
  refine ⟨hk0, hk6, ?_⟩
  split at ht
  · rename_i hk
    have hn : 0 ≤ n ∧ n ≤ 99 := by unfold told at t; omega
    rcases h with ⟨rfl, hs, ha⟩ | ⟨rfl, rfl, hs, _⟩
    · obtain ⟨e1, e2⟩ := cut_same (ht.trans hs) hw.1 ha
      exact ⟨e1.symm, ((numbered_iff hk0).2 hk).symm, fun _ => ⟨hn.1, hn.2, e2.symm⟩, fun h => by cases h⟩
    · exact absurd (by rw [← ht]; simp) hs
  · rename_i hk
    have hn : n = 0 := by unfold told at t; omega
    have hf : numbered k.toNat = false := by rw [Bool.eq_false_iff]; exact fun h => hk ((numbered_iff hk0).1 h)
    rcases h with ⟨rfl, hs, ha⟩ | ⟨rfl, rfl, hs, _⟩
    · exact absurd (by rw [ht, hs]; simp) hw.1
    · exact ⟨ht.symm, hf.symm, fun h => (by cases h), fun _ => hn⟩
theorem read_plain {s a b : List UInt8} (h : Cutting 32 s a b false) {k : Nat} (hk : k < 6) (hw : deedWord k = a) (hn : numbered k = false) : readOf s = (((k : Int), 0), true) := by
  rcases h with ⟨h, _⟩ | ⟨_, rfl, _⟩
  · cases h
  · have hc := word_clean hk
    rw [hw] at hc
    refine readOf_of hc.2 ?_
    rw [text_told (.inr ⟨?_, rfl⟩), if_neg ?_]
    · exact hw
    · intro hx
      have := (numbered_iff (k := (k : Int)) (by omega)).2 hx
      rw [Int.toNat_natCast, hn] at this
      cases this
    · have hx : ¬ ((k : Int) = 0 ∨ (k : Int) = 2 ∨ (k : Int) = 3) := fun hx => by
        have := (numbered_iff (k := (k : Int)) (by omega)).2 hx
        rw [Int.toNat_natCast, hn] at this
        cases this
      omega
theorem read_number {s a b : List UInt8} (h : Cutting 32 s a b true) {k : Nat} (hk : k < 6) (hw : deedWord k = a) (hn : numbered k = true) (hb : numOk b 2 = true) : readOf s = (((k : Int), (numVal b : Int)), true) := by
  rcases h with ⟨_, hs, _⟩ | ⟨h, _⟩
  · obtain ⟨hd, hlt⟩ := dec_num hb
    have hx := (numbered_iff (k := (k : Int)) (by omega)).1 (by rw [Int.toNat_natCast]; exact hn)
    refine readOf_of (by rw [hs]; simp) ?_
    rw [text_told (.inl ⟨hx, by omega⟩), if_pos hx, Int.toNat_natCast, Int.toNat_natCast, hd, hw, hs]
  · cases h
theorem read_bad {s a b : List UInt8} (h : Cutting 32 s a b true) (hb : numOk b 2 = false) : readOf s = ((0, 0), false) := by
  refine readOf_none fun k n h0 ht => ?_
  obtain ⟨_, _, _, _, h1, _⟩ := text_cut h h0 ht
  obtain ⟨hn0, hn9, rfl⟩ := h1 rfl
  rw [(num_dec (by omega)).1] at hb
  cases hb
theorem read_other {s a b : List UInt8} {f : Bool} (h : Cutting 32 s a b f) (hno : ∀ j, j < 6 → ¬ (deedWord j = a ∧ numbered j = f)) : readOf s = ((0, 0), false) := by
  refine readOf_none fun k n h0 ht => ?_
  obtain ⟨hk0, hk6, h1, h2, _⟩ := text_cut h h0 ht
  exact hno k.toNat (by omega) ⟨h1.symm, h2.symm⟩

/-- What ReadDeed returns. -/
def ReadOut (s : List UInt8) (w : World) (e : Ending) (w' : World) : Prop := e = .returned (.tuple #[.agg #[.int .i64 (readOf s).1.1, .int .i64 (readOf s).1.2], .bool (readOf s).2]) ∧ Below w.heap.size w w'
theorem read_ret {s : List UInt8} {k n : Int} {b : Bool} (h : readOf s = ((k, n), b)) : Ending.returned (.tuple #[.agg #[.int .i64 k, .int .i64 n], .bool b]) = .returned (.tuple #[.agg #[.int .i64 (readOf s).1.1, .int .i64 (readOf s).1.2], .bool (readOf s).2]) := by rw [h]

/-- The library's own variable holds some number. -/
def MaxAt (w : World) : Prop := ∃ m, w.cell? ⟨3, 0, none⟩ = some (.int .i64 m)
theorem MaxAt.below' {w w' : World} (h : MaxAt w) (hb : Below w.heap.size w w') : MaxAt w' := by
  obtain ⟨m, hm⟩ := h
  exact ⟨m, cell_keep hb hm⟩
theorem maxAt {w : World} (h : w.ShapedOpen Tryd.prog) : MaxAt w := Tryd.laysM145.s1_3 w h
def CutOut (c : UInt8) (s : ByteArray) (w : World) (e : Ending) (w' : World) : Prop := ∃ (a b : List UInt8) (f : Bool), e = .returned (.tuple #[.string (Tw.str a), .string (Tw.str b), .bool f]) ∧ Cutting c s.data.toList a b f ∧ Below w.heap.size w w'
theorem strCut_any (s : ByteArray) (c : UInt8) (w : World) (hm : MaxAt w) (hs : s.size ≤ 1048576) :
    Calls Tryd.prog 62 #[.string s, .string ⟨#[c]⟩] w (CutOut c s w) := by
  obtain ⟨m, hm⟩ := hm
  refine (Tryd.strings_Cut s ⟨#[c]⟩ m w (by omega) hm).mono ?_
  rintro e w' ⟨rfl, n, rfl⟩
  exact ⟨_, _, _, rfl, cutting c s.data.toList, below_drewN (Below.refl _ _) _⟩

theorem withNumber_is (k : Nat) (hk : k < 6) (w : World) (b : Bool) (hb : numbered k = b) :
    Calls Tryd.prog 81 #[.int .i64 k] w fun e w' => e = .returned (.bool b) ∧ w = w' := hb ▸ withNumber_any k hk w
set_option maxRecDepth 100000 in
set_option maxHeartbeats 1600000 in
theorem implReadDeed (s : ByteArray) (w : World) (hw : WordsAt w) (hm : MaxAt w) (hs : s.size ≤ 1048576) :
    Calls Tryd.prog 63 #[.string s] w (ReadOut s.data.toList w) := by
  obtain ⟨W, hW⟩ : ∃ W, W = w.alloc (.cells #[.int .i64 0, .int .i64 0] 27) := ⟨_, rfl⟩
  have hb0 : Below w.heap.size w W := by rw [hW]; exact (Below.refl _ _).alloc (Nat.le_refl _) _
  have hWs : W.heap.size = w.heap.size + 1 := by rw [hW]; simp
  have hr0 : W.heap[w.heap.size]? = some (.cells #[.int .i64 0, .int .i64 0] 27 (0, 0)) := by rw [hW]; exact heap_alloc_new _ _
  have hct := strCut_any s 32 W (hm.below' hb0) hs
  have hwd := hw.below' hb0
  have HCT := Lib.hid hct
  have HWD := Lib.hid hwd
  have HR0 := Lib.hid hr0
  have HW := Lib.hid hW
  clear hct hwd hr0 hW
  go_enter Tryd.func63, Tryd.ntmps63
  go_wp2_with fail
  rw [← HW.out]
  go_wp2_with (first
    | (go_at_call 62; refine HCT.out.mono ?_; rintro e w1 ⟨a, b, f, rfl, hcut, hb1⟩; have HCU := Lib.hid hcut; clear hcut))
  have hb2 : Below w.heap.size w w1 := hb0.trans (hb1.mono hb0.size)
  have hrow := (hb1.block w.heap.size (by omega)).trans HR0.out
  have r0 := cell_of_row _ _ 0 _ _ _ hrow
  have r1 := cell_of_row _ _ 1 _ _ _ hrow
  have f0 := frozen_of_row _ _ 0 _ _ hrow
  have f1 := frozen_of_row _ _ 1 _ _ hrow
  have HROW := Lib.hid hrow
  have hwd1 := HWD.out.below' hb1
  have HWD1 := Lib.hid hwd1
  obtain ⟨x, hx⟩ : ∃ x, Tw.str a = x := ⟨_, rfl⟩
  obtain ⟨y, hy⟩ : ∃ y, Tw.str b = y := ⟨_, rfl⟩
  have hyd : y.data.toList = b := by rw [← hy]; rfl
  have hyl : y.size ≤ 1048576 := by
    rw [← hy, Tw.str_size]
    rcases HCU.out with ⟨_, e, _⟩ | ⟨_, _, _, e⟩
    · have e2 := congrArg List.length e
      rw [size_data, List.length_append, List.length_cons] at e2
      omega
    · rw [e]
      simp
  have hnum := fun W => readNumber_any y 2 (by omega) W (by omega)
  rw [hyd] at hnum
  obtain ⟨nr, hnr⟩ : ∃ r, numRes b 2 = r := ⟨_, rfl⟩
  obtain ⟨no, hno⟩ : ∃ r, numOk b 2 = r := ⟨_, rfl⟩
  have hnum2 : Hid (∀ W : World, Calls Tryd.prog 86 #[.string y, .int .i64 2] W fun e w' => e = .returned (.tuple #[.int .i64 nr, .bool no]) ∧ W = w') := fun W => by
    have := hnum W
    unfold NumOut at this
    rwa [hnr, hno] at this
  have HNR := Lib.hid hnr
  have HNO := Lib.hid hno
  rw [hx, hy]
  have HX := Lib.hid hx
  clear hrow hwd1 hyd hnum hnr hno hx hy hb1 hb0 hWs
  go_loop [16] (fun i => ∃ k : Nat, k ≤ 6 ∧ i = .int .i64 k ∧ Hid (∀ j, j < k → ¬ (deedWord j = a ∧ numbered j = f))) (fun i => 6 - (intOf i).toNat)
  case atStart => exact ⟨0, by omega, rfl, fun j hj => absurd hj (by omega)⟩
  case round =>
    obtain ⟨k, hk, rfl, HK⟩ := hrel
    by_cases hlt : k < 6
    · have c := HWD1.out k hlt
      obtain ⟨z, hz⟩ : ∃ z, Tw.str (deedWord k) = z := ⟨_, rfl⟩
      rw [hz] at c
      have hk3 : (0 : Int) ≤ (k : Int) := by omega
      have hk4 : (k : Int) < 6 := by omega
      have hwn := fun W => withNumber_is k hlt W _ rfl
      have hiff : (z.toList == x.toList) = decide (deedWord k = a) := by
        rw [eq_bytes, ← hz, ← HX.out]
        refine decide_eq_decide.2 ⟨fun h => ?_, fun h => by rw [h]⟩
        exact (Tw.str_data _).symm.trans ((congrArg (fun b : ByteArray => b.data.toList) h).trans (Tw.str_data _))
      have HZ := Lib.hid hz
      clear hz
      cases hd : decide (deedWord k = a)
      · rw [hd] at hiff
        have HD := Lib.hid (of_decide_eq_false hd)
        clear hd hwn
        go_wp2_with fail
        go_round
        case rel =>
          refine ⟨k + 1, by omega, by go_num, fun j hj h9 => ?_⟩
          rcases Nat.lt_or_ge j k with h8 | h8
          · exact HK.out j h8 h9
          · obtain rfl : j = k := by omega
            exact HD.out h9.1
        case measure => simp [intOf]; omega
      · rw [hd] at hiff
        have HD := Lib.hid (of_decide_eq_true hd)
        obtain ⟨b', hb'⟩ : ∃ b', numbered k = b' := ⟨_, rfl⟩
        rw [hb'] at hwn
        have HWN := Lib.hid hwn
        have HB := Lib.hid hb'
        clear hd hwn hb'
        rcases (by cases f <;> cases b' <;> simp : (f = false ∧ b' = false) ∨ (f = true ∧ b' = true) ∨ f ≠ b') with ⟨rfl, rfl⟩ | ⟨rfl, rfl⟩ | hne
        · have q := pair_put HROW.out (.int .i64 (k : Int)) (.int .i64 0)
          have q0 := cell_of_row _ _ 0 _ _ _ q
          have q1 := cell_of_row _ _ 1 _ _ _ q
          clear q
          go_wp2_with (first
            | (go_at_call 81; refine (HWN.out _).mono ?_; rintro e w' ⟨rfl, rfl⟩))
          refine bodyPost_ret (v := .tuple #[.agg #[.int .i64 (k : Int), .int .i64 0], .bool true]) (by simp [results, Tryd.results63, go_sem, q0, q1]) rfl ⟨read_ret (read_plain HCU.out hlt HD.out HB.out), ?_⟩
          exact (hb2.setCell (Nat.le_refl _) _).setCell (Nat.le_refl _) _
        · cases no
          · have q := pair_put HROW.out (.int .i64 0) (.int .i64 0)
            have q0 := cell_of_row _ _ 0 _ _ _ q
            have q1 := cell_of_row _ _ 1 _ _ _ q
            clear q
            go_wp2_with (first
              | (go_at_call 81; refine (HWN.out _).mono ?_; rintro e w' ⟨rfl, rfl⟩)
              | (go_at_call 86; refine (hnum2.out _).mono ?_; rintro e w' ⟨rfl, rfl⟩))
            refine bodyPost_ret (v := .tuple #[.agg #[.int .i64 0, .int .i64 0], .bool false]) (by simp [results, Tryd.results63, go_sem, q0, q1]) rfl ⟨read_ret (read_bad HCU.out HNO.out), ?_⟩
            exact (hb2.setCell (Nat.le_refl _) _).setCell (Nat.le_refl _) _
          · have q := pair_put HROW.out (.int .i64 (k : Int)) (.int .i64 nr)
            have q0 := cell_of_row _ _ 0 _ _ _ q
            have q1 := cell_of_row _ _ 1 _ _ _ q
            clear q
            go_wp2_with (first
              | (go_at_call 81; refine (HWN.out _).mono ?_; rintro e w' ⟨rfl, rfl⟩)
              | (go_at_call 86; refine (hnum2.out _).mono ?_; rintro e w' ⟨rfl, rfl⟩))
            have e9 : (numVal b : Int) = nr := by
              rw [← HNR.out]
              unfold numRes
              rw [HNO.out]
              rfl
            refine bodyPost_ret (v := .tuple #[.agg #[.int .i64 (k : Int), .int .i64 nr], .bool true]) (by simp [results, Tryd.results63, go_sem, q0, q1]) rfl ⟨read_ret (e9 ▸ read_number HCU.out hlt HD.out HB.out HNO.out), ?_⟩
            exact (hb2.setCell (Nat.le_refl _) _).setCell (Nat.le_refl _) _
        · have hnew : Hid (∀ j, j < k + 1 → ¬ (deedWord j = a ∧ numbered j = f)) := fun j hj h9 => by
            rcases Nat.lt_or_ge j k with h8 | h8
            · exact HK.out j h8 h9
            · obtain rfl : j = k := by omega
              exact hne (h9.2.symm.trans HB.out)
          have hbb : (f = false ∧ b' = true) ∨ (f = true ∧ b' = false) := by
            cases f <;> cases b' <;> simp at hne ⊢
          clear hne
          rcases hbb with ⟨rfl, rfl⟩ | ⟨rfl, rfl⟩
          all_goals
            go_wp2_with (first
              | (go_at_call 81; refine (HWN.out _).mono ?_; rintro e w' ⟨rfl, rfl⟩))
            go_round
            case rel => exact ⟨k + 1, by omega, by go_num, hnew⟩
            case measure => simp [intOf]; omega
    · obtain rfl : k = 6 := by omega
      have q := pair_put HROW.out (.int .i64 0) (.int .i64 0)
      have q0 := cell_of_row _ _ 0 _ _ _ q
      have q1 := cell_of_row _ _ 1 _ _ _ q
      clear q
      go_wp2_with fail
      refine bodyPost_ret (v := .tuple #[.agg #[.int .i64 0, .int .i64 0], .bool false]) (by simp [results, Tryd.results63, go_sem, q0, q1]) rfl ⟨read_ret (read_other HCU.out HK.out), ?_⟩
      exact (hb2.setCell (Nat.le_refl _) _).setCell (Nat.le_refl _) _

end Go.Proofs.YtpkenccgjlhnlaaDoor

namespace Go.Proofs.YtpkenccgjlhnlaaDoor
open Go.RowKit

theorem data_nil {s : ByteArray} (h : s.data.toList = []) : s = ⟨#[]⟩ := nil_of_sizeR (by rw [← size_data, h]; rfl)
theorem str_back {l : List UInt8} {s : ByteArray} (h : Tw.str l = s) : l = s.data.toList := by rw [← h]; rfl


end Go.Proofs.YtpkenccgjlhnlaaDoor

namespace Go.Proofs.YtpkenccgjlhnlaaDoor
open Go.RowKit

/-- The deeds of the lines with which a text begins, and how many bytes these have. -/
noncomputable def rj : Nat → List UInt8 → List (Int × Int) × Nat
  | 0, _ => ([], 0)
  | f + 1, l => if (10 : UInt8) ∈ l then (if (readOf (l.takeWhile (· != 10))).2 = true then
      ((readOf (l.takeWhile (· != 10))).1 :: (rj f (l.drop ((l.takeWhile (· != 10)).length + 1))).1, (l.takeWhile (· != 10)).length + 1 + (rj f (l.drop ((l.takeWhile (· != 10)).length + 1))).2) else ([], 0)) else ([], 0)
theorem while_line : ∀ {a b : List UInt8}, (10 : UInt8) ∉ a → (a ++ 10 :: b).takeWhile (· != 10) = a
  | [], b, _ => by simp
  | x :: a, b, h => by
    have hx : x ≠ 10 := fun e => h (by rw [e]; exact List.mem_cons_self)
    have hb : (x != 10) = true := bne_iff_ne.2 hx
    rw [List.cons_append, List.takeWhile_cons, hb, if_pos rfl, while_line (fun e => h (List.mem_cons_of_mem _ e))]
theorem rj_none {f : Nat} {l : List UInt8} (h : (10 : UInt8) ∉ l) : rj f l = ([], 0) := by
  cases f with
  | zero => rfl
  | succ f => unfold rj; rw [if_neg h]
theorem rj_bad {f : Nat} {a b : List UInt8} (h : (10 : UInt8) ∉ a) (hr : (readOf a).2 = false) : rj f (a ++ 10 :: b) = ([], 0) := by
  cases f with
  | zero => rfl
  | succ f =>
    unfold rj
    rw [while_line h, hr, if_pos (by simp), if_neg (by simp)]
theorem rj_line {f : Nat} {a b : List UInt8} (h : (10 : UInt8) ∉ a) (hr : (readOf a).2 = true) : rj (f + 1) (a ++ 10 :: b) = ((readOf a).1 :: (rj f b).1, a.length + 1 + (rj f b).2) := by
  have hd : (a ++ 10 :: b).drop (a.length + 1) = b := by
    rw [show a ++ 10 :: b = (a ++ [10]) ++ b by simp, List.drop_left' (by simp)]
  conv => lhs; unfold rj
  rw [while_line h, hr, if_pos (by simp), if_pos rfl, hd]
noncomputable def journalOf (l : List UInt8) : List (Int × Int) × Nat := rj (l.length + 1) l
/-- Read up to a place. -/
def ReadTo (l : List UInt8) (ds : List (Int × Int)) (n : Nat) : Prop := ∃ f, l.length - n < f ∧ journalOf l = (ds ++ (rj f (l.drop n)).1, n + (rj f (l.drop n)).2)
theorem readTo_zero (l : List UInt8) : ReadTo l [] 0 := ⟨l.length + 1, by omega, by unfold journalOf; simp⟩
theorem readTo_line {l a b : List UInt8} {ds : List (Int × Int)} {n : Nat} (h : ReadTo l ds n) (hn : n ≤ l.length) (hl : l.drop n = a ++ 10 :: b) (ha : (10 : UInt8) ∉ a) (hr : (readOf a).2 = true) : ReadTo l (ds ++ [(readOf a).1]) (n + (a.length + 1)) := by
  obtain ⟨f, hf, e⟩ := h
  obtain ⟨g, rfl⟩ : ∃ g, f = g + 1 := ⟨f - 1, by omega⟩
  rw [hl, rj_line ha hr] at e
  have hb : l.drop (n + (a.length + 1)) = b := by
    rw [← List.drop_drop, hl, show a ++ 10 :: b = (a ++ [10]) ++ b by simp, List.drop_left' (by simp)]
  have hlen := congrArg List.length hl
  rw [List.length_drop, List.length_append, List.length_cons] at hlen
  refine ⟨g, by omega, ?_⟩
  rw [hb, e]
  simp
  omega
theorem readTo_bad {l a b : List UInt8} {ds : List (Int × Int)} {n : Nat} (h : ReadTo l ds n) (hl : l.drop n = a ++ 10 :: b) (ha : (10 : UInt8) ∉ a) (hr : (readOf a).2 = false) : journalOf l = (ds, n) := by
  obtain ⟨f, _, e⟩ := h
  rw [hl, rj_bad ha hr] at e
  simpa using e
theorem readTo_end {l : List UInt8} {ds : List (Int × Int)} {n : Nat} (h : ReadTo l ds n) (hl : (10 : UInt8) ∉ l.drop n) : journalOf l = (ds, n) := by
  obtain ⟨f, _, e⟩ := h
  rw [rj_none hl] at e
  simpa using e
def RjOut (w : World) (r : List (Int × Int) × Nat) (e : Ending) (w' : World) : Prop := ∃ v, e = .returned (.tuple #[v, .int .i64 (r.2 : Int)]) ∧ RowAt w' v r.1 ∧ Fresh w.heap.size v ∧ Below w.heap.size w w'
theorem rj_done {w W : World} {v : Value} {ds : List (Int × Int)} {n m : Nat} {r : List (Int × Int) × Nat} (hr : r = (ds, n)) (hown : W.ownsRow w.heap.size 27 2 v m (pairCells ds)) (hm : ds.length = m) (hb : Below w.heap.size w W) : RjOut w r (.returned (.tuple #[v, .int .i64 (n : Int)])) W := by
  subst hr
  exact ⟨_, rfl, row_own hown hm, fresh_own hown (Nat.le_refl _), hb⟩


set_option maxRecDepth 100000 in
set_option maxHeartbeats 1600000 in
theorem implReadJournal (s : ByteArray) (w : World) (hw : WordsAt w) (hm : MaxAt w) (hs : s.size ≤ 1048576) :
    Calls Tryd.prog 33 #[.string s] w (RjOut w (journalOf s.data.toList)) := by
  obtain ⟨i0, hi0, hz0, hz1, hz2⟩ := info_parts deedInfo
  have HO : Hid (w.ownsRow w.heap.size 27 2 (.slice none 0 0) 0 (pairCells [])) := ⟨rfl, .inl ⟨rfl, rfl⟩⟩
  go_enter Tryd.func33, Tryd.ntmps33
  go_wp2
  go_loopw [4, 5] (fun o r wr => ∃ (rd : Nat) (ds : List (Int × Int)), r = .int .i64 rd ∧ rd ≤ s.size ∧ ds.length ≤ rd ∧ wr.ownsRow w.heap.size 27 2 o ds.length (pairCells ds) ∧ Hid (ReadTo s.data.toList ds rd) ∧ Below w.heap.size w wr) (fun _ r _ => s.size - (intOf r).toNat)
  case atStart => exact ⟨0, [], rfl, Nat.zero_le _, Nat.le_refl _, HO.out, readTo_zero _, Below.refl _ _⟩
  case round =>
    obtain ⟨rd, ds, rfl, hk, hn, hown, HR, hb⟩ := hrel
    obtain ⟨p, hp⟩ : ∃ p, s.extract rd s.size = p := ⟨_, rfl⟩
    have hpl : p.data.toList = s.data.toList.drop rd := by rw [← hp, Lib.extract_to_end]
    have hpsz : p.size ≤ s.size := by rw [← size_data, hpl, List.length_drop, size_data]; omega
    have HPL := Lib.hid hpl
    have hrd0 : (0 : Int) ≤ (rd : Int) := by omega
    have HMR := Lib.hid (hm.below' (show Below w.heap.size w wr from hb))
    have HWR := Lib.hid (hw.below' (show Below w.heap.size w wr from hb))
    clear hpl
    go_upto_region 4 with (first
      | (go_at_call 62; refine (strCut_any p 10 _ HMR.out (by omega)).mono ?_; rintro e w1 ⟨a, b, f, rfl, hcut, hb1⟩; have HCU := Lib.hid hcut; have e1 : Ext wr w1 := hb1; clear hcut hb1))
    have hown1 := own_below hown e1
    have hbw1 := e1.below hb hb.size
    cases f
    · have HN : Hid ((10 : UInt8) ∉ s.data.toList.drop rd) := by
        show _ ∉ _
        rcases HCU.out with ⟨h9, _⟩ | ⟨_, _, h9, _⟩
        · cases h9
        · rw [← HPL.out]
          exact h9
      go_wp2_with fail
      go_ret2
      exact rj_done (readTo_end HR.out HN.out) hown1 rfl hbw1
    · obtain ⟨HLN, HA⟩ : Hid (s.data.toList.drop rd = a ++ 10 :: b) ∧ Hid ((10 : UInt8) ∉ a) := by
        rcases HCU.out with ⟨_, h8, h9⟩ | ⟨h9, _⟩
        · exact ⟨HPL.out ▸ h8, h9⟩
        · cases h9
      obtain ⟨x, hx⟩ : ∃ x, Tw.str a = x := ⟨_, rfl⟩
      have hxa : x.data.toList = a := by rw [← hx]; rfl
      have hxs : x.size + 1 + rd ≤ s.size := by
        have h9 := congrArg List.length HLN.out
        rw [List.length_drop, size_data, List.length_append, List.length_cons, ← hxa, size_data] at h9
        omega
      obtain ⟨k1, h1⟩ : ∃ k1, (readOf a).1.1 = k1 := ⟨_, rfl⟩
      obtain ⟨n1, h2⟩ : ∃ n1, (readOf a).1.2 = n1 := ⟨_, rfl⟩
      obtain ⟨b1, h3⟩ : ∃ b1, (readOf a).2 = b1 := ⟨_, rfl⟩
      have hrd := fun W hw hm => implReadDeed x W hw hm (by omega)
      unfold ReadOut at hrd
      rw [hxa, h1, h2, h3] at hrd
      have HRD := Lib.hid hrd
      have H3 := Lib.hid h3
      have H12 : Hid ((readOf a).1 = (k1, n1)) := Prod.ext h1 h2
      have HXL : Hid (a.length = x.size) := by show _ = _; rw [← hxa, size_data]
      clear hrd h1 h2 h3 hxa
      rw [hx]
      clear hx
      cases b1
      · go_wp2_with (first
          | (go_at_call 63; refine (HRD.out _ (HWR.out.below' e1) (HMR.out.below' e1)).mono ?_; rintro e w2 ⟨rfl, hb2⟩))
        go_ret2
        exact rj_done (readTo_bad HR.out HLN.out HA.out H3.out) ((own_below hown1 hb2).alloc _) rfl ((hbw1.trans (hb2.mono hbw1.size)).alloc (by have := hbw1.size; have := hb2.size; omega) _)
      · go_wp2_with (first
          | (go_at_call 63; refine (HRD.out _ (HWR.out.below' e1) (HMR.out.below' e1)).mono ?_; rintro e w2 ⟨rfl, hb2⟩; have hown2 := (own_below hown1 hb2).alloc (.cells #[.int .i64 k1, .int .i64 n1] 27); have hbw2 := (hbw1.trans (hb2.mono hbw1.size)).alloc (by have := hbw1.size; have := hb2.size; omega) (.cells #[.int .i64 k1, .int .i64 n1] 27))
          | (at_builtin; refine wpList_append_lies _ rfl _ _ 41 rfl w.heap.size 27 i0 _ 2 16 Tryd.underlying41 hi0 hz0 hz1 hz2 rfl (by omega) _ ds.length (pairCells ds) rfl (hown2.alloc _) ⟨w2.heap.size + 1, 0, none⟩ 1 1 [.int .i64 k1, .int .i64 n1] rfl rfl (World.news_of_block (cs := #[.int .i64 k1, .int .i64 n1]) (t := 27) (fr := (0, 0)) (heap_alloc2_new w2 _ _)) (by simp [Value.oneCell']) (by omega) (by unfold maxLen; omega) (by omega) (by have := hbw2.size; simp at this ⊢; omega) (w2.heap.size + 1 + 1) (by simp) ?_; intro g4 cap4 w4 hown4 hgrow4 hat4 hlt4))
        go_roundw
        case rel =>
          refine ⟨rd + (x.size + 1), ds ++ [(k1, n1)], by go_num, by omega, by rw [List.length_append, List.length_singleton]; omega, ?_, ?_, ?_⟩
          · rw [List.length_append, pairCells_append]
            exact hown4
          · have h9 := readTo_line HR.out (by rw [size_data]; omega) HLN.out HA.out H3.out
            rw [H12.out, HXL.out] at h9
            exact h9
          · exact (hbw2.alloc (by have := hbw2.size; omega) _).grown hgrow4 (by have := hbw2.size; simp at this ⊢; omega) (fun j hj => (hown.lt j hj).1)
        case measure => simp [intOf]; omega

end Go.Proofs.YtpkenccgjlhnlaaDoor

namespace Go.Proofs.YtpkenccgjlhnlaaDoor
open Go.RowKit

theorem dec_clean {n : Nat} (h : n < 100) : (10 : UInt8) ∉ Lib.decDigits n := by
  have h2 : (List.range 100).all (fun i => !(Lib.decDigits i).contains 10) = true := by decide +kernel
  have := List.all_eq_true.1 h2 n (List.mem_range.2 h)
  simpa using this
theorem word_line {k : Nat} (hk : k < 6) : (10 : UInt8) ∉ deedWord k := by
  have h2 : (List.range 6).all (fun i => !(deedWord i).contains 10) = true := by decide +kernel
  have := List.all_eq_true.1 h2 k (List.mem_range.2 hk)
  simpa using this
theorem text_line {k n : Int} (h : deedText k n ≠ []) : (10 : UInt8) ∉ deedText k n := by
  have ht := told_of h
  rw [text_told ht]
  unfold told at ht
  split
  · intro h9
    rcases List.mem_append.1 h9 with h1 | h1
    · exact word_line (by omega) h1
    · rcases List.mem_cons.1 h1 with h2 | h2
      · cases h2
      · exact dec_clean (by omega) h2
  · exact word_line (by omega)
theorem rj_journal : ∀ (ds : List (Int × Int)) (f : Nat), goodTo ds = true → ds.length < f → rj f (jt ds) = (ds, (jt ds).length)
  | [], f, _, _ => rj_none (by simp [jt])
  | d :: ds, f, hg, hf => by
    obtain ⟨g, rfl⟩ : ∃ g, f = g + 1 := ⟨f - 1, by omega⟩
    unfold goodTo at hg
    rw [List.all_cons, Bool.and_eq_true] at hg
    have hd : dt d ≠ [] := by
      have := hg.1
      simpa using this
    have e : jt (d :: ds) = dt d ++ 10 :: jt ds := by unfold jt; simp
    have hr : readOf (dt d) = (d, true) := readOf_of hd rfl
    have ih := rj_journal ds g hg.2 (by simp at hf; omega)
    rw [e, rj_line (show (10 : UInt8) ∉ dt d from text_line hd) (by rw [hr]), ih, hr]
    simp
    omega
theorem jt_long : ∀ (ds : List (Int × Int)), ds.length ≤ (jt ds).length
  | [] => Nat.zero_le _
  | d :: ds => by
    have := jt_long ds
    have e : jt (d :: ds) = (dt d ++ [10]) ++ jt ds := by unfold jt; simp
    rw [e]
    simp
    omega
theorem jt_short : ∀ (ds : List (Int × Int)), (jt ds).length ≤ 8 * ds.length
  | [] => Nat.zero_le _
  | d :: ds => by
    have := jt_short ds
    have h7 := dt_few d
    have e : jt (d :: ds) = (dt d ++ [10]) ++ jt ds := by unfold jt; simp
    rw [e]
    simp
    omega
theorem journal_short (ds : List (Int × Int)) : (journal ds).length ≤ 8 * ds.length := by
  unfold journal
  split
  · exact jt_short ds
  · exact Nat.zero_le _
/-- Journals are read. -/
theorem journal_read {ds : List (Int × Int)} (h : journal ds ≠ []) : journalOf (journal ds) = (ds, (journal ds).length) := by
  unfold journal at *
  split
  · rename_i hg
    unfold journalOf
    exact rj_journal ds _ hg (by have := jt_long ds; omega)
  · rename_i hg
    rw [if_neg hg] at h
    exact absurd rfl h
end Go.Proofs.YtpkenccgjlhnlaaDoor

namespace Go.Proofs.YtpkenccgjlhnlaaDoor
open Go.RowKit

set_option maxRecDepth 100000 in
set_option maxHeartbeats 1600000 in
theorem sameDeeds_yes (v u : Value) (ds : List (Int × Int)) (w : World) (h : DeedsAt w v ds) (k : DeedsAt w u ds) (hn : ds.length ≤ 1048576) (h0 : 0 < ds.length) :
    Calls Tryd.prog 34 #[v, u] w fun e w' => e = .returned (.bool true) ∧ Below w.heap.size w w' := by
  rcases h with ⟨rfl, rfl⟩ | ⟨a, cap, rfl, hl, hc⟩
  · simp at h0
  rcases k with ⟨rfl, rfl⟩ | ⟨b, cap', rfl, hl', hc'⟩
  · simp at h0
  clear h0
  obtain ⟨n, hnn⟩ : ∃ n, ds.length = n := ⟨_, rfl⟩
  rw [hnn] at hn hl hl' ⊢
  have HC := Lib.hid hc
  have HC' := Lib.hid hc'
  have HN := Lib.hid hnn
  clear hc hc' hnn
  go_enter Tryd.func34, Tryd.ntmps34
  go_wp2
  go_loopw [5] (fun i wr => ∃ j : Nat, i = .int .i64 j ∧ j ≤ n ∧ Below w.heap.size w wr) (fun i _ => n - (intOf i).toNat)
  case atStart => exact ⟨0, rfl, Nat.zero_le _, Below.refl _ _⟩
  case round =>
    obtain ⟨j, rfl, hj, hb⟩ := hrel
    by_cases hlt : j < n
    · obtain ⟨d, hd⟩ : ∃ d, ds[j]? = some d := ⟨ds[j]'(by rw [HN.out]; exact hlt), List.getElem?_eq_getElem (by rw [HN.out]; exact hlt)⟩
      have c0 := cell_keep hb (HC.out j d hd).1
      have c1 := cell_keep hb (HC.out j d hd).2
      have e0 := cell_keep hb (HC'.out j d hd).1
      have e1 := cell_keep hb (HC'.out j d hd).2
      have hk3 : (0 : Int) ≤ (j : Int) := by omega
      have hk4 : (j : Int) < (n : Int) := by omega
      clear hd
      go_wp2_with fail
      go_quiet (fail)
      go_wp2
      go_roundw
      case rel => exact ⟨j + 1, by go_num, by omega, below_drewN hb _⟩
      case measure => simp [intOf]; omega
    · obtain rfl : j = n := by omega
      go_wp2_with fail
      go_ret
      exact ⟨rfl, hb⟩
end Go.Proofs.YtpkenccgjlhnlaaDoor

namespace Go.Proofs.YtpkenccgjlhnlaaDoor
open Go.RowKit

set_option maxHeartbeats 800000 in
theorem word_yes (w : World) : Calls Tryd.prog 43 #[.string ⟨#[70, 76, 82]⟩] w fun e w' => e = .returned (.bool true) ∧ w = w' := by
  go_enter Tryd.func43, Tryd.ntmps43
  go_wp2
  refine wp_loop_rounds 4 ?_
  rw [rounds_succ]
  go_wp2
  rw [rounds_succ]
  go_wp2
  rw [rounds_succ]
  go_wp2
  rw [rounds_succ]
  go_wp2
  go_ret
  exact ⟨rfl, rfl⟩

set_option maxHeartbeats 800000 in
theorem word_no (w : World) : Calls Tryd.prog 43 #[.string ⟨#[88]⟩] w fun e w' => e = .returned (.bool false) ∧ w = w' := by
  go_enter Tryd.func43, Tryd.ntmps43
  go_wp2
  refine wp_loop_rounds 1 ?_
  rw [rounds_succ]
  go_wp2
  go_ret
  exact ⟨rfl, rfl⟩

set_option maxHeartbeats 800000 in
theorem alive_yes (w : World) : Calls Tryd.prog 13 #[] w fun e w' => e = .returned (.bool true) ∧ w = w' := by
  go_enter Tryd.func13, Tryd.ntmps13
  go_wp2_with (go_at_call 43; first
    | (have hq := st1; refine (word_no _).mono ?_; rintro e w' ⟨rfl, rfl⟩)
    | (refine (word_yes _).mono ?_; rintro e w' ⟨rfl, rfl⟩; have st1 := True.intro))
  go_ret
  exact ⟨rfl, rfl⟩

end Go.Proofs.YtpkenccgjlhnlaaDoor

namespace Go.Proofs.YtpkenccgjlhnlaaDoor
open Go.ChangeShapes Go.WideShapes Go.ChangeAt Go.RowKit Go.WideMaps Go.WideElems
open Go.ChangeMaps (open_string shut_string)

section
variable {H : Type} {enc : TypeId × Value → H} {P : Program}

theorem trodAll_stays (hl : laidOutB P = true) {W W' : World} {sp' : Nat → Bool} : ∀ {ts : List TypeId} {vs : List Value} {ds : List (DataW H)} {ps : List MemPlace},
    (∀ t ∈ ts, P.readableRec t = true ∧ t < P.types.size) → DataW.TrodAll enc P W 0 (fun _ => true) true ts vs ds ps → (∀ p ∈ ps, W.sameAt W' p) → (∀ p ∈ ps, sp' p.block = true) → DataW.TrodAll enc P W' 0 sp' true ts vs ds ps
  | [], _, _, _, _, h, _, _ => by
    obtain ⟨rfl, rfl, rfl⟩ := trodAll_nil h
    exact trodAll_mk0
  | t :: ts, _, _, _, hr, h, hsame, hs => by
    obtain ⟨v, vs', d, ds', p, q, rfl, rfl, rfl, h1, h2⟩ := trodAll_cons h
    exact trodAll_cons_mk (WideElems.Trod_stays hl (hr t (by simp)).1 (hr t (by simp)).2 h1 (fun x hx => hsame x (by simp [hx])) (fun x hx => hs x (by simp [hx])))
      (trodAll_stays hl (fun u hu => hr u (by simp [hu])) h2 (fun x hx => hsame x (by simp [hx])) (fun x hx => hs x (by simp [hx])))

theorem trodVars_stays (hl : laidOutB P = true) {W W' : World} {sp' : Nat → Bool} (hb : Below W.heap.size W W') : ∀ {ns : List String} {ds : List (DataW H)} {ps : List MemPlace},
    (∀ n ∈ ns, ∀ g t, P.globalNamed n = some g → (P.globals[g]?).map (·.type) = some t → P.readableRec t = true ∧ t < P.types.size) → DataW.TrodVars enc P W (fun _ => true) ns ds ps → (∀ p ∈ ps, W.sameAt W' p) → (∀ p ∈ ps, sp' p.block = true) →
    DataW.TrodVars enc P W' sp' ns ds ps
  | [], ds, _, _, h, _, _ => by
    cases ds with
    | nil => exact h
    | cons _ _ => exact h.elim
  | n :: ns, [], _, _, h, _, _ => h.elim
  | n :: ns, d :: ds, _, hr, h, hsame, hs => by
    obtain ⟨g, t, cs, fuel, p, q, h1, h2, h3, h4, h5, rfl⟩ := h
    have hg : g < W.heap.size := by
      have h3' := h3
      unfold World.var? at h3'
      rw [h1, Option.bind_some] at h3'
      rcases Nat.lt_or_ge g W.heap.size with hlt | hge
      · exact hlt
      · rw [Array.getElem?_eq_none hge] at h3'
        cases h3'
    obtain ⟨hr1, hr2⟩ := hr n (by simp) g t h1 h2
    have h4' := DataW.trod_stays (sp' := sp') (kids_book hl hr1) (book_sized hr1) (fun h => by cases h) ⟨hr2, book_self t⟩ h4 (fun x hx => hsame x (by simp [hx])) (fun x hx => hs x (by simp [hx]))
    exact ⟨g, t, cs, fuel, p, q, h1, h2, var?_below hb h1 hg h3, h4', trodVars_stays hl hb (fun m hm => hr m (by simp [hm])) h5 (fun x hx => hsame x (by simp [hx])) (fun x hx => hs x (by simp [hx])), rfl⟩

section
variable {H : Type} {enc : TypeId × Value → H} {P : Program} {W : World} {sp : Nat → Bool}
theorem trodVars_len0 {gs : List (DataW H)} {q : List MemPlace} (h : DataW.TrodVars enc P W sp [] gs q) : gs = [] := (trodVars_none h).1
theorem trodVars_len1 {n0 : String} {gs : List (DataW H)} {q : List MemPlace} (h : DataW.TrodVars enc P W sp [n0] gs q) : ∃ g0, gs = [g0] := by
  cases gs with
  | nil => exact h.elim
  | cons g0 gs =>
    obtain ⟨_, _, _, _, _, _, _, _, _, _, h', _⟩ := h
    exact ⟨g0, by rw [trodVars_len0 h']⟩
theorem trodVars_len2 {n0 n1 : String} {gs : List (DataW H)} {q : List MemPlace} (h : DataW.TrodVars enc P W sp [n0, n1] gs q) : ∃ g0 g1, gs = [g0, g1] := by
  cases gs with
  | nil => exact h.elim
  | cons g0 gs =>
    obtain ⟨_, _, _, _, _, _, _, _, _, _, h', _⟩ := h
    obtain ⟨g1, rfl⟩ := trodVars_len1 h'
    exact ⟨g0, g1, rfl⟩
theorem trodVars_len3 {n0 n1 n2 : String} {gs : List (DataW H)} {q : List MemPlace} (h : DataW.TrodVars enc P W sp [n0, n1, n2] gs q) : ∃ g0 g1 g2, gs = [g0, g1, g2] := by
  cases gs with
  | nil => exact h.elim
  | cons g0 gs =>
    obtain ⟨_, _, _, _, _, _, _, _, _, _, h', _⟩ := h
    obtain ⟨g1, g2, rfl⟩ := trodVars_len2 h'
    exact ⟨g0, g1, g2, rfl⟩
theorem trodVars_len4 {n0 n1 n2 n3 : String} {gs : List (DataW H)} {q : List MemPlace} (h : DataW.TrodVars enc P W sp [n0, n1, n2, n3] gs q) : ∃ g0 g1 g2 g3, gs = [g0, g1, g2, g3] := by
  cases gs with
  | nil => exact h.elim
  | cons g0 gs =>
    obtain ⟨_, _, _, _, _, _, _, _, _, _, h', _⟩ := h
    obtain ⟨g1, g2, g3, rfl⟩ := trodVars_len3 h'
    exact ⟨g0, g1, g2, g3, rfl⟩
end

/-- What a law's specification says: the call returns true, and all reads as before. -/
structure Plain (s : ChangeSpec) (ds gs : List (DataW H)) : Prop where
  res : (s.fn H (ds ++ gs)).results = [.lit (.bool true)]
  args : (s.fn H (ds ++ gs)).args = ds
  vars : (s.fn H (ds ++ gs)).vars = gs

def rowsOk (P : Program) (ts : List TypeId) : Bool := ts.all fun t => P.readableRec t && decide (t < P.types.size)
def varsOk (P : Program) (ns : List String) : Bool := ns.all fun n => ((P.globalNamed n).bind (P.globals[·]?)).all fun gl => P.readableRec gl.type && decide (gl.type < P.types.size)

theorem law_post {f : Func} {s : ChangeSpec} {W W' : World} {args : Array Value} {ds gs : List (DataW H)} {before : List MemPlace} (hl : laidOutB P = true) (ht : rowsOk P f.params.toList = true) (hv : varsOk P s.vars = true)
    {tb : TypeId} (hb1 : f.resultTypes = #[tb]) (hb2 : P.underlying tb = some .bool)
    (hW : DataW.Whole enc P f.params.toList s.vars false W args.toList ds gs before) (hs : Plain s ds gs) (hb : Below W.heap.size W W') :
    s.post enc P f false true false false W args (.bool true) W' := by
  have hlt : ∀ p ∈ before, p.block < W.heap.size := fun p hp => hW.lt p hp
  have hold : ∀ p ∈ before, (fun b => decide (b < W.heap.size)) p.block = true := fun p hp => by simpa using hlt p hp
  have hW' := hW
  obtain ⟨pa, pv, hA, hV, rfl, hz, hn⟩ := hW
  have hsame : ∀ p ∈ pa ++ pv, W.sameAt W' p := fun p hp => hb.same (hlt p hp)
  have htr : ∀ t ∈ f.params.toList, P.readableRec t = true ∧ t < P.types.size := fun t h => by
    have := List.all_eq_true.1 ht t h
    simpa using this
  have hvr : ∀ n ∈ s.vars, ∀ g t, P.globalNamed n = some g → (P.globals[g]?).map (·.type) = some t → P.readableRec t = true ∧ t < P.types.size := fun n h g t h1 h2 => by
    have := List.all_eq_true.1 hv n h
    rw [h1] at this
    cases hg : P.globals[g]? with
    | none => rw [hg] at h2; cases h2
    | some gl =>
      rw [hg] at h2
      obtain rfl : gl.type = t := Option.some.inj h2
      simpa [hg] using this
  have hargs : ∀ sp : Nat → Bool, (∀ p ∈ pa ++ pv, sp p.block = true) → DataW.TrodAll enc P W' 0 sp true f.params.toList args.toList (s.fn H (ds ++ gs)).args pa := fun sp hsp => by
    rw [hs.args]
    exact trodAll_stays hl htr hA (fun x hx => hsame x (by simp [hx])) (fun x hx => hsp x (by simp [hx]))
  have hvars : ∀ sp : Nat → Bool, (∀ p ∈ pa ++ pv, sp p.block = true) → DataW.TrodVars enc P W' sp s.vars (s.fn H (ds ++ gs)).vars pv := fun sp hsp => by
    rw [hs.vars]
    exact trodVars_stays hl hb hvr hV (fun x hx => hsame x (by simp [hx])) (fun x hx => hsp x (by simp [hx]))
  have hres : ∀ (b : Nat) (sp : Nat → Bool) (hd : Bool), DataW.TrodAll enc P W' b sp hd f.resultTypes.toList ((Value.bool true).resultList f.resultTypes.size) (s.fn H (ds ++ gs)).results [] := fun b sp hd => by
    rw [hs.res, hb1]
    exact trodAll_cons_mk (shut_bool hb2 _) trodAll_mk0
  refine ⟨ds, gs, pa ++ pv, [], pa, pv, hW', hres _ _ _, hargs _ hold, hvars _ hold, World.keptBut_mono (fun p hp => ⟨hp, ?_⟩) (hb.frame (· ∈ pa ++ pv)), fun h => by cases h⟩
  rw [List.mem_append] at hp
  exact Or.inr hp

/-- Out of the list of variables with what they hold: one of them. -/
theorem laid_one {W : World} {n : String} {d : DataW Unit} : ∀ {laid : List (String × DataW Unit)} {ps : List MemPlace}, DataW.LaidVars P W laid ps → (n, d) ∈ laid →
    ∃ g t cs fuel p, P.globalNamed n = some g ∧ (P.globals[g]?).map (·.type) = some t ∧ W.var? P n = some cs ∧ DataW.trod (fun _ => ()) P W 0 (fun _ => true) false fuel t cs.toList = some (d, p)
  | [], _, _, hm => by cases hm
  | (n', d') :: r, _, h, hm => by
    obtain ⟨g, t, cs, fuel, p, q, h1, h2, h3, h4, h5, _⟩ := h
    rcases List.mem_cons.1 hm with e | hm
    · cases e
      exact ⟨g, t, cs, fuel, p, h1, h2, h3, h4⟩
    · exact laid_one h5 hm

/-- An array of strings, cell for cell. -/
theorem cells_of_strs {w : World} {base : Nat} {sp : Nat → Bool} {held : Bool} {fuel : Nat} {t e : TypeId} {n : Nat} {cs : List Value} {zs : List (List UInt8)} {p : List MemPlace}
    (ht : P.underlying t = some (.array n e)) (he : P.underlying e = some .string) (hce : P.cellsOf e = 1)
    (h : DataW.trod enc P w base sp held fuel t cs = some (.agg (zs.map fun z => .lit (.string z)), p)) : ∀ i, i < n → cs[i]? = some (.string (Tw.str (zs.getD i []))) := by
  obtain ⟨xs, m, _, hx, _, hxl, hel⟩ := DataW.trod_array ht h
  simp only [Prod.mk.injEq, DataW.agg.injEq] at hx
  intro i hi
  have h1 := hel i hi
  rw [hce, Nat.mul_one] at h1
  have hx1 : xs[i]? = some (xs[i]'(by omega)) := List.getElem?_eq_getElem (by omega)
  rw [hx1] at h1
  obtain ⟨s, hc, hy, _⟩ := DataW.trod_string he h1
  have h2 : (xs.map (·.1))[i]? = some (DataW.lit (.string s.data.toList) : DataW H) := by simp [hx1, hy]
  rw [← hx.1] at h2
  simp only [List.getElem?_map, Option.map_eq_some_iff, DataW.lit.injEq, Lit.string.injEq] at h2
  obtain ⟨z, hz, rfl⟩ := h2
  have h3 := congrArg (·[0]?) hc
  simp only [List.getElem?_take, List.getElem?_drop] at h3
  simp at h3
  rw [h3, List.getD, hz, Option.getD_some, Tw.str_of]

end

theorem gWays : Tryd.prog.globalNamed "loop.example/turtlewalks/impl.wayLetters" = some 0 := by kernel_rfl
theorem gWaysType : (Tryd.prog.globals[0]?).map (·.type) = some 100 := by kernel_rfl
theorem cellsString : Tryd.prog.cellsOf 9 = 1 := by kernel_rfl
theorem waysAt {W : World} {laid : List (String × DataW Unit)} (hp : (laid.all fun x => x.2.handleName?.isNone) = true) (h : laidMetH Tryd.prog laid W)
    (hm : ("loop.example/turtlewalks/impl.wayLetters", Rows.laid_loop_example_turtlewalks_impl_wayLetters) ∈ laid) : WaysAt W := by
  rw [MakeChecks.laidMetH_plain _ _ _ hp] at h
  obtain ⟨_, h, _⟩ := h
  obtain ⟨g, t, cs, fuel, p, h1, h2, h3, h4⟩ := laid_one h hm
  obtain rfl := Option.some.inj (gWays.symm.trans h1)
  obtain rfl := Option.some.inj (gWaysType.symm.trans h2)
  intro i hi
  rw [World.var?_cell h1 h3 i]
  have := cells_of_strs (zs := wayList) Tryd.underlying100 Tryd.underlying9 cellsString h4 i hi
  simpa using this

theorem gDirs : Tryd.prog.globalNamed "loop.example/turtlewalks/impl.directions" = some 2 := by kernel_rfl
theorem gDirsType : (Tryd.prog.globals[2]?).map (·.type) = some 113 := by kernel_rfl
theorem cellsPair : Tryd.prog.cellsOf 63 = 2 := by kernel_rfl
theorem cellsInt : Tryd.prog.cellsOf 3 = 1 := by kernel_rfl
theorem cells_of_dirs {w : World} {base : Nat} {sp : Nat → Bool} {held : Bool} {fuel : Nat} {cs : List Value} {zs : List (List Int)} {p : List MemPlace}
    (h : DataW.trod (fun _ => ()) Tryd.prog w base sp held fuel 113 cs = some (.agg (zs.map fun z => .agg (z.map fun y => .lit (.int .i64 y))), p)) :
    ∀ i j, i < 4 → j < 2 → cs[i * 2 + j]? = some (.int .i64 ((zs.getD i []).getD j 0)) := by
  obtain ⟨xs, m, _, hx, _, hxl, hel⟩ := DataW.trod_array Tryd.underlying113 h
  simp only [Prod.mk.injEq, DataW.agg.injEq] at hx
  intro i j hi hj
  have h1 := hel i hi
  rw [cellsPair] at h1
  have hx1 : xs[i]? = some (xs[i]'(by omega)) := List.getElem?_eq_getElem (by omega)
  rw [hx1] at h1
  have h2 : (xs.map (·.1))[i]? = some (xs[i]'(by omega)).1 := by simp [hx1]
  rw [← hx.1] at h2
  simp only [List.getElem?_map, Option.map_eq_some_iff] at h2
  obtain ⟨z, hz, hz1⟩ := h2
  have h1' : DataW.trod (fun _ => ()) Tryd.prog w base sp held m 63 ((cs.drop (i * 2)).take 2) = some (.agg (z.map fun y => .lit (.int .i64 y)), (xs[i]'(by omega)).2) := by rw [h1, hz1]
  obtain ⟨ys, m2, _, hy, _, hyl, hel2⟩ := DataW.trod_array Tryd.underlying63 h1'
  simp only [Prod.mk.injEq, DataW.agg.injEq] at hy
  have h3 := hel2 j hj
  rw [cellsInt, Nat.mul_one] at h3
  have hy1 : ys[j]? = some (ys[j]'(by omega)) := List.getElem?_eq_getElem (by omega)
  rw [hy1] at h3
  obtain ⟨q, hc, hq, _⟩ := DataW.trod_int Tryd.underlying3 h3
  have h4 : (ys.map (·.1))[j]? = some (DataW.lit (.int .i64 q) : DataW Unit) := by simp [hy1, hq]
  rw [← hy.1] at h4
  simp only [List.getElem?_map, Option.map_eq_some_iff, DataW.lit.injEq, Lit.int.injEq, true_and] at h4
  obtain ⟨z', hz', rfl⟩ := h4
  have h5 := congrArg (·[0]?) hc
  simp only [List.getElem?_take, List.getElem?_drop] at h5
  simp [hj] at h5
  have e1 : zs.getD i [] = z := by simp [List.getD, hz]
  rw [h5, e1, List.getD, hz', Option.getD_some]
theorem dirsAt {W : World} {laid : List (String × DataW Unit)} (hp : (laid.all fun x => x.2.handleName?.isNone) = true) (h : laidMetH Tryd.prog laid W)
    (hm : ("loop.example/turtlewalks/impl.directions", Rows.laid_loop_example_turtlewalks_impl_directions) ∈ laid) : DirsAt W := by
  rw [MakeChecks.laidMetH_plain _ _ _ hp] at h
  obtain ⟨_, h, _⟩ := h
  obtain ⟨g, t, cs, fuel, p, h1, h2, h3, h4⟩ := laid_one h hm
  obtain rfl := Option.some.inj (gDirs.symm.trans h1)
  obtain rfl := Option.some.inj (gDirsType.symm.trans h2)
  have hc : ∀ i j, i < 4 → j < 2 → W.cell? ⟨2, i * 2 + j, none⟩ = some (.int .i64 (([[1, 0], [0, 1], [-1, 0], [0, -1]].getD i []).getD j 0)) := fun i j hi hj => by
    rw [World.var?_cell h1 h3 (i * 2 + j)]
    have := cells_of_dirs (zs := [[1, 0], [0, 1], [-1, 0], [0, -1]]) h4 i j hi hj
    rw [← Array.getElem?_toList]
    exact this
  exact ⟨hc 0 0 (by omega) (by omega), hc 0 1 (by omega) (by omega), hc 1 0 (by omega) (by omega), hc 1 1 (by omega) (by omega), hc 2 0 (by omega) (by omega), hc 2 1 (by omega) (by omega), hc 3 0 (by omega) (by omega), hc 3 1 (by omega) (by omega)⟩

end Go.Proofs.YtpkenccgjlhnlaaDoor

namespace Go.Proofs.YtpkenccgjlhnlaaDoor
open Go.ChangeShapes Go.WideShapes Go.ChangeAt Go.RowKit Go.WideMaps Go.WideElems

set_option maxRecDepth 100000 in
theorem open_code {H : Type} {enc : TypeId × Value → H} {W : World} {base : Nat} {spare : Nat → Bool} {held : Bool} {r : Reach} {b0 : Nat} {v : Value} {d : DataW H} {p : List MemPlace} (hv : Value.okWide Tryd.prog W r b0 22 v) (h : DataW.Trod enc Tryd.prog W base spare held 22 v d p) :
    ∃ n, CodeAt W v n := by
  obtain ⟨a0, l0, c0, rfl⟩ := okWide_slice Tryd.underlying22 hv
  obtain ⟨fuel, hf⟩ := h
  rcases Go.ChangeShapes.open_ints Tryd.underlying22 Tryd.underlying5 (by kernel_rfl) hf with ⟨hv1, _⟩ | ⟨a, len, cap, zs, hv1, _, hl, _, hlen, _, hc, hzs⟩
  · simp [Value.cells] at hv1
    obtain ⟨rfl, rfl, rfl⟩ := hv1
    exact ⟨0, .inl ⟨rfl, rfl⟩⟩
  · simp [Value.cells] at hv1
    obtain ⟨rfl, rfl, rfl⟩ := hv1
    refine ⟨l0, .inr ⟨a, c0, rfl, hl, fun j hj => ?_⟩⟩
    have hj2 : j < zs.length := by rw [hlen]; split <;> omega
    have hw := hzs _ (List.getElem_mem hj2)
    have hcj := hc j hj2
    rw [List.getD, List.getElem?_eq_getElem hj2, Option.getD_some] at hcj
    refine ⟨_, ?_, ?_, hcj⟩ <;> (have := hw; simp [Lit.wf, IntKind.min, IntKind.max, IntKind.signed, IntKind.bits] at this; omega)

end Go.Proofs.YtpkenccgjlhnlaaDoor

namespace Go.Proofs.YtpkenccgjlhnlaaDoor
open Go.ChangeShapes Go.WideShapes Go.ChangeAt Go.RowKit Go.WideMaps Go.WideElems

def wordsList : List (List UInt8) := [[115, 116, 101, 112], [100, 114, 111, 112], [119, 97, 121], [111, 110], [102, 105, 114, 115, 116], [98, 97, 99, 107]]
theorem gWords : Tryd.prog.globalNamed "loop.example/turtlewalks/impl.deedWords" = some 1 := by kernel_rfl
theorem gWordsType : (Tryd.prog.globals[1]?).map (·.type) = some 105 := by kernel_rfl
theorem cellsWord : Tryd.prog.cellsOf 9 = 1 := by kernel_rfl
set_option maxRecDepth 100000 in
theorem wordsAt {W : World} {laid : List (String × DataW Unit)} (hp : (laid.all fun x => x.2.handleName?.isNone) = true) (h : laidMetH Tryd.prog laid W)
    (hm : ("loop.example/turtlewalks/impl.deedWords", Rows.laid_loop_example_turtlewalks_impl_deedWords) ∈ laid) : WordsAt W := by
  rw [MakeChecks.laidMetH_plain _ _ _ hp] at h
  obtain ⟨_, h, _⟩ := h
  obtain ⟨g, t, cs, fuel, p, h1, h2, h3, h4⟩ := laid_one h hm
  obtain rfl := Option.some.inj (gWords.symm.trans h1)
  obtain rfl := Option.some.inj (gWordsType.symm.trans h2)
  intro i hi
  rw [World.var?_cell h1 h3 i]
  have := cells_of_strs (zs := wordsList) Tryd.underlying105 Tryd.underlying9 cellsWord h4 i hi
  rw [← Array.getElem?_toList, this]
  rfl

end Go.Proofs.YtpkenccgjlhnlaaDoor

namespace Go.Proofs.YtpkenccgjlhnlaaDoor.fnJournalText
open Go.ChangeShapes Go.WideShapes Go.ChangeAt Go.RowKit Go.WideMaps Go.WideElems
open Go.ChangeMaps (open_string shut_string)

set_option maxRecDepth 100000 in
set_option maxHeartbeats 1600000 in
theorem walk (v : Value) (n : Nat) (w : World) (hw : WordsAt w) (hx : MaxAt w) (h : CodeAt w v n) :
    Calls Tryd.prog 7 #[v] w fun e w' => e = .returned (.bool true) ∧ Below w.heap.size w w' := by
  have hdraw := drawJournalText v n w h
  obtain ⟨a, cap, rfl⟩ := code_value h
  have HD := Lib.hid hdraw
  clear hdraw h
  by_cases hn : n ≤ 1048576
  · have HWW := Lib.hid hw
    have HXX := Lib.hid hx
    clear hw hx
    go_enter Tryd.func7, Tryd.ntmps7
    go_upto_region 4 with (go_at_call 30; refine HD.out.mono ?_; rintro e w1 ⟨g, cp, ds, rfl, hk, hl, hb1⟩; have HK := Lib.hid hk; clear hk)
    obtain ⟨N, hN⟩ : ∃ N, ds.length = N := ⟨_, rfl⟩
    rw [hN] at HK hl ⊢
    have HN := Lib.hid hN
    obtain ⟨X, hX⟩ : ∃ X, Tw.str (journal ds) = X := ⟨_, rfl⟩
    have hXs : X.size ≤ 1048576 := by
      rw [← hX, Tw.str_size]
      have := journal_short ds
      omega
    have HX := Lib.hid hX
    have HJI : Hid (∀ Y, Ext w1 Y → Calls Tryd.prog 31 #[.slice (some ⟨g, 0, none⟩) N cp] Y fun e w' => e = .returned (.string X) ∧ Below Y.heap.size Y w') := fun Y hY => hX ▸ implJournal _ ds Y (HWW.out.below' (hb1.trans (Below.mono hY hb1.size))) (HK.out.ext hY).deeds (by omega)
    have HJS : Hid (∀ Y, Ext w1 Y → Calls Tryd.prog 32 #[.slice (some ⟨g, 0, none⟩) N cp] Y fun e w' => e = .returned (.string X) ∧ Below Y.heap.size Y w') := fun Y hY => hX ▸ specJournal _ ds Y (HK.out.ext hY).deeds (by omega)
    clear hN hX
    cases hem : X.toList.isEmpty
    · have hne : journal ds ≠ [] := fun e => by
        have h9 := HX.out
        rw [e] at h9
        rw [← h9, Lib.toList_data, Tw.str_data] at hem
        cases hem
      have hrd := journal_read hne
      have hN0 : 0 < N := by
        rcases Nat.eq_zero_or_pos N with h0 | h0
        · exfalso
          have e : ds = [] := List.length_eq_zero_iff.1 (HN.out.trans h0)
          rw [e] at hne
          exact hne rfl
        · exact h0
      have hsz : (journal ds).length = X.size := by rw [← HX.out, Tw.str_size]
      have hXd : X.data.toList = journal ds := by rw [← HX.out, Tw.str_data]
      have hrj : ∀ Y, Ext w1 Y → Calls Tryd.prog 33 #[.string X] Y fun e w' => ∃ x, e = .returned (.tuple #[x, .int .i64 (X.size : Int)]) ∧ RowAt w' x ds ∧ Below Y.heap.size Y w' := fun Y hY => by
        refine (implReadJournal X Y (HWW.out.below' (hb1.trans (Below.mono hY hb1.size))) (HXX.out.below' (hb1.trans (Below.mono hY hb1.size))) hXs).mono ?_
        rintro e w' ⟨x, rfl, hr, hf, hb⟩
        rw [hXd, hrd] at hr ⊢
        exact ⟨x, by rw [hsz], hr, hb⟩
      have HRJ := Lib.hid hrj
      clear hne hrd hsz hXd hrj
      go_wp2_with (first
        | (go_at_call 31; refine (HJI.out _ (Ext.refl _)).mono ?_; rintro e w2 ⟨rfl, hb2⟩; have E2 : Hid (Ext w1 w2) := hb2; clear hb2)
        | (go_at_call 32; refine (HJS.out _ E2.out).mono ?_; rintro e w3 ⟨rfl, hb3⟩; have E3 : Hid (Ext w1 w3) := Ext.call E2.out hb3; clear hb3)
        | (go_at_call 33; refine (HRJ.out _ E3.out).mono ?_; rintro e w4 ⟨x, rfl, hr4, hb4⟩; have E4 : Hid (Ext w1 w4) := Ext.call E3.out hb4; have R4 := Lib.hid hr4; clear hr4 hb4)
        | (go_at_call 34; refine (sameDeeds_yes _ _ ds _ R4.out.deeds (HK.out.ext E4.out).deeds (by rw [HN.out]; omega) (by rw [HN.out]; exact hN0)).mono ?_; rintro e w5 ⟨rfl, hb5⟩; have E5 : Hid (Ext w1 w5) := Ext.call E4.out hb5; clear hb5)
        | (go_at_call 13; refine (alive_yes _).mono ?_; rintro e w' ⟨rfl, rfl⟩))
      go_ret
      exact ⟨rfl, Ext.below hb1 E5.out hb1.size⟩
    · go_wp2_with (first
        | (go_at_call 31; refine (HJI.out _ (Ext.refl _)).mono ?_; rintro e w2 ⟨rfl, hb2⟩; have E2 : Hid (Ext w1 w2) := hb2; clear hb2)
        | (go_at_call 32; refine (HJS.out _ E2.out).mono ?_; rintro e w3 ⟨rfl, hb3⟩; have E3 : Hid (Ext w1 w3) := Ext.call E2.out hb3; clear hb3)
        | (go_at_call 13; refine (alive_yes _).mono ?_; rintro e w' ⟨rfl, rfl⟩))
      go_ret
      exact ⟨rfl, Ext.below hb1 E3.out hb1.size⟩
  · have hn' : 1048576 < n := by omega
    go_enter Tryd.func7, Tryd.ntmps7
    go_wp2_with fail
    go_ret
    exact ⟨rfl, Below.refl _ _⟩

set_option maxRecDepth 100000 in
theorem own : ownKnob Tryd.prog.godebug = none := by kernel_rfl
set_option maxRecDepth 100000 in
theorem laidOut : laidOutB Tryd.prog = true := by kernel_rfl
set_option maxRecDepth 100000 in
theorem rowed : rowsOk Tryd.prog Tryd.f7.params.toList = true := by kernel_rfl
set_option maxRecDepth 100000 in
theorem varred : varsOk Tryd.prog Rows.fnJournalTextSpec.vars = true := by kernel_rfl
set_option maxRecDepth 100000 in
theorem resType : Tryd.f7.resultTypes = #[4] := by kernel_rfl

set_option maxRecDepth 100000 in
theorem contract (H : Type) (enc : TypeId × Value → H) (W : World) (base : Nat) (args : Array Value) (ds gs : List (DataW H)) (before : List MemPlace)
    (hval : ∀ (j : Nat) t v, Tryd.f7.params[j]? = some t → args[j]? = some v → Value.okWide Tryd.prog W .any base t v)
    (hW : DataW.Whole enc Tryd.prog Tryd.f7.params.toList Rows.fnJournalTextSpec.vars false W args.toList ds gs before) (hL : laidMetH Tryd.prog Rows.fnJournalTextRow.laid W) (hSh : W.ShapedOpen Tryd.prog) :
    Calls Tryd.prog 7 args W fun e W' => ∃ v, e = .returned v ∧ Rows.fnJournalTextSpec.post enc Tryd.prog Tryd.f7 false true false false W args v W' := by
  have hW' := hW
  obtain ⟨p, q, hA0, hV, rfl, hfz, hnd⟩ := hW
  have hA : DataW.TrodAll enc Tryd.prog W 0 (fun _ => true) true Tryd.f7.params.toList args.toList ds p := hA0
  rw [Tryd.params7] at hA hval
  obtain ⟨v0, vs0, d0, ds0, p0, q0, hargs, rfl, rfl, h0, r0⟩ := trodAll_cons hA
  obtain ⟨rfl, rfl, rfl⟩ := trodAll_nil r0
  obtain rfl : args = #[v0] := by cases args; simp_all
  obtain ⟨g0, rfl⟩ := trodVars_len1 hV
  obtain ⟨n0, hcode0⟩ := open_code (hval 0 22 v0 rfl rfl) h0
  have t_words : WordsAt W := wordsAt (by kernel_rfl) hL (by simp [Rows.fnJournalTextRow])
  have t_max : MaxAt W := maxAt hSh
  refine (walk v0 n0 W t_words t_max hcode0).mono fun e W' ⟨he, hb⟩ => ?_
  subst he
  exact ⟨_, rfl, law_post laidOut rowed varred resType Tryd.underlying4 hW' ⟨rfl, rfl, rfl⟩ hb⟩

/-- A world for the witness: the settled one, the listed variables holding what their initialisers lay. -/
noncomputable def laidWorld (os : Os) : World := { World.holding Tryd.prog os ⟨#[], #[], []⟩ with heap := (((((World.holding Tryd.prog os ⟨#[], #[], []⟩).heap.modify 5 fun
      | .cells _ t frozen => .cells #[.int .u8 0, .int .u8 1, .int .u8 28, .int .u8 2, .int .u8 29, .int .u8 14, .int .u8 24, .int .u8 3, .int .u8 30, .int .u8 22, .int .u8 20, .int .u8 15, .int .u8 25, .int .u8 17, .int .u8 4, .int .u8 8, .int .u8 31, .int .u8 27, .int .u8 13, .int .u8 23, .int .u8 21, .int .u8 19, .int .u8 16, .int .u8 7, .int .u8 26, .int .u8 12, .int .u8 18, .int .u8 6, .int .u8 11, .int .u8 5, .int .u8 10, .int .u8 9] t frozen
      | o => o).modify 6 fun
      | .cells _ t frozen => .cells #[.int .u8 0, .int .u8 1, .int .u8 56, .int .u8 2, .int .u8 57, .int .u8 49, .int .u8 28, .int .u8 3, .int .u8 61, .int .u8 58, .int .u8 42, .int .u8 50, .int .u8 38, .int .u8 29, .int .u8 17, .int .u8 4, .int .u8 62, .int .u8 47, .int .u8 59, .int .u8 36, .int .u8 45, .int .u8 43, .int .u8 51, .int .u8 22, .int .u8 53, .int .u8 39, .int .u8 33, .int .u8 30, .int .u8 24, .int .u8 18, .int .u8 12, .int .u8 5, .int .u8 63, .int .u8 55, .int .u8 48, .int .u8 27, .int .u8 60, .int .u8 41, .int .u8 37, .int .u8 16, .int .u8 46, .int .u8 35, .int .u8 44, .int .u8 21, .int .u8 52, .int .u8 32, .int .u8 23, .int .u8 11, .int .u8 54, .int .u8 26, .int .u8 40, .int .u8 15, .int .u8 34, .int .u8 20, .int .u8 31, .int .u8 10, .int .u8 25, .int .u8 14, .int .u8 19, .int .u8 9, .int .u8 13, .int .u8 8, .int .u8 7, .int .u8 6] t frozen
      | o => o).modify 4 fun
      | .cells _ t frozen => .cells #[.int .u64 1, .int .u64 10, .int .u64 100, .int .u64 1000, .int .u64 10000, .int .u64 100000, .int .u64 1000000, .int .u64 10000000, .int .u64 100000000, .int .u64 1000000000, .int .u64 10000000000, .int .u64 100000000000, .int .u64 1000000000000, .int .u64 10000000000000, .int .u64 100000000000000, .int .u64 1000000000000000, .int .u64 10000000000000000, .int .u64 100000000000000000, .int .u64 1000000000000000000, .int .u64 10000000000000000000] t frozen
      | o => o).modify 1 fun
      | .cells _ t frozen => .cells #[.string ⟨#[115, 116, 101, 112]⟩, .string ⟨#[100, 114, 111, 112]⟩, .string ⟨#[119, 97, 121]⟩, .string ⟨#[111, 110]⟩, .string ⟨#[102, 105, 114, 115, 116]⟩, .string ⟨#[98, 97, 99, 107]⟩] t frozen
      | o => o) }
set_option maxRecDepth 100000 in
theorem laid_met (os : Os) : laidMet Tryd.prog Rows.fnJournalTextRow.laid ((laidWorld os).forCall (fun _ _ => 0) ⟨#[], #[.slice none 0 0], []⟩).memory := laidMet_of_run' 8 (by kernel_rfl) (by kernel_rfl)
set_option maxRecDepth 100000 in
theorem reads (os : Os) {H : Type} (enc : TypeId × Value → H) : ∃ places, DataW.whole enc Tryd.prog ((laidWorld os).forCall (fun _ _ => 0) ⟨#[], #[.slice none 0 0], []⟩).memory Tryd.f7.params.toList Rows.fnJournalTextSpec.vars false (#[.slice none 0 0] : Array Value).toList 8 = some ([.nil], [Rows.laid_loop_example_turtlewalks_impl_deedWords], places) := ⟨MemPlace.row ⟨1, 0, none⟩ 6, by kernel_rfl⟩

set_option maxRecDepth 100000 in
theorem lifted (os : Os) (started : os.Started) (H : Type) (enc : TypeId × Value → H) (F : Stop.Interp) :
    ReturnsInHanded {} Tryd.checked os 7 .any ((OpenSpec.ofChange Rows.fnJournalTextSpec).preRow enc Tryd.prog Tryd.f7 Rows.fnJournalTextRow.domain false Rows.fnJournalTextRow.laid) (((OpenSpec.ofChange Rows.fnJournalTextSpec).at F).post enc Tryd.prog Tryd.f7 false true false false) := by
  obtain ⟨places, hx⟩ := reads os enc
  refine returnsInHanded_of_row (C := Tryd.checked) (s := OpenSpec.ofChange Rows.fnJournalTextSpec) own started (by kernel_rfl) Tryd.func7
    (witness_row_at (enc := enc) (C := Tryd.checked) false (laidWorld os) #[.slice none 0 0] rfl (by kernel_rfl) (by kernel_rfl) (by kernel_rfl)
      (OpenSpec.preRow_of_cond 8 hx (by kernel_rfl) (fun k hk => by cases hk) (by kernel_rfl) (laid_met os))) ?_
  intro W base args ds gs before hval hW _ _ _ hL hSh _
  exact contract H enc W base args ds gs before hval hW hL hSh

set_option maxRecDepth 100000 in
theorem said : Rows.FnJournalTextSaid :=
  OpenClaim.holds_of_cond 7 Tryd.f7 rfl rfl rfl rfl rfl rfl rfl ⟨rfl, rfl, rfl, rfl, rfl⟩ rfl rfl rfl rfl rfl (by kernel_rfl) Tryd.func7 (by kernel_rfl)
    (of_decide_eq_true (by kernel_rfl)) (by unfold Func.isWrapper; first | (rw [if_pos (by decide +kernel)]; kernel_rfl) | (rw [if_neg (by decide +kernel)]; exact ⟨rfl, rfl⟩))
    (fun os started H enc _ F => by rw [OpenClaim.pre_eq_preRow]; exact lifted os started H enc F)

set_option maxRecDepth 100000 in
theorem plain (f : FuncId) (fn : Func) (hf : Tryd.pinned.checked.prog.funcNamed "loop.example/turtlewalks/laws.FnJournalText" = some f) (hfn : Tryd.pinned.checked.prog.funcs[f]? = some fn) :
    false = Tryd.pinned.checked.prog.looks [] ∧ ∀ (j : Nat) t, fn.params[j]? = some t → Tryd.pinned.checked.prog.wantsStandIn t = false := by
  obtain rfl : f = 7 := Option.some.inj ((show Tryd.prog.funcNamed "loop.example/turtlewalks/laws.FnJournalText" = some 7 by kernel_rfl).symm.trans hf) |>.symm
  obtain rfl : fn = Tryd.f7 := (Option.some.inj (Tryd.func7.symm.trans hfn)).symm
  refine ⟨by kernel_rfl, fun j t ht => ?_⟩
  rw [Tryd.params7] at ht
  have hm : t ∈ [22] := by simpa using Array.mem_of_getElem? ht
  have hall : ([22].all fun u => !Tryd.prog.wantsStandIn u) = true := by kernel_rfl
  exact (show Tryd.prog.wantsStandIn t = false by simpa using List.all_eq_true.1 hall t hm)

set_option maxRecDepth 100000 in
theorem card : Rows.FnJournalTextCardSaid :=
  Claim7.holds_tied_plain_at .later [] _ _ _ _ said (fun _ h => by cases h) (by kernel_rfl) (fun _ h => by cases h) fnJournalText_row_tie rfl ⟨rfl, rfl⟩ (by kernel_rfl) rfl plain (by kernel_rfl)

end Go.Proofs.YtpkenccgjlhnlaaDoor.fnJournalText
