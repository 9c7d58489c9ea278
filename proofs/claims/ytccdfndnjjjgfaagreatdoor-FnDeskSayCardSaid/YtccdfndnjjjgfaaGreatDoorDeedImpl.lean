/-
  Contract of the program's DeedText.
-/
import Derived.Test.YtccdfndnjjjgfaaGreatDoorDeed
namespace Go.Proofs.YtccdfndnjjjgfaaGreatDoor
open Go.RowKit

/-- The words of the deeds lie in their variable. -/
def WordsAt (w : World) : Prop := ∀ i, i < 6 → w.cell? ⟨0, i, none⟩ = some (.string (Tw.str (deedWord i)))
theorem WordsAt.lt {w : World} (h : WordsAt w) : 0 < w.heap.size := World.block_lt_of_cell? w _ (h 0 (by omega))
theorem WordsAt.below {w w' : World} {B : Nat} (h : WordsAt w) (hb : Below B w w') (hB : 0 < B) : WordsAt w' := fun i hi => (hb.cell (p := ⟨_, i, none⟩) hB).trans (h i hi)
theorem WordsAt.below' {w w' : World} (h : WordsAt w) (hb : Below w.heap.size w w') : WordsAt w' := h.below hb h.lt
theorem WordsAt.alloc {w : World} (h : WordsAt w) (o : Obj) : WordsAt (w.alloc o) := h.below ((Below.refl w.heap.size w).alloc (Nat.le_refl _) o) h.lt

theorem text_number {k n : Int} (hk : k = 0 ∨ k = 2 ∨ k = 3) (h0 : 0 ≤ n) (h1 : n ≤ 99) : Tw.str (deedText k n) = Tw.str (deedWord k.toNat) ++ (⟨#[32]⟩ : ByteArray) ++ Tw.str (Lib.decDigits n.toNat) := by
  have e : (⟨#[32]⟩ : ByteArray) = Tw.str [32] := rfl
  rw [e, Tw.str_append, Tw.str_append]
  unfold deedText
  rw [if_pos hk, if_pos ⟨h0, h1⟩]
  simp
theorem text_bad {k n : Int} (hk : k = 0 ∨ k = 2 ∨ k = 3) (h : ¬ (0 ≤ n ∧ n ≤ 99)) : Tw.str (deedText k n) = ⟨#[]⟩ := by
  unfold deedText
  rw [if_pos hk, if_neg h]
  rfl
theorem text_plain {k : Int} (hk : k = 1 ∨ k = 4 ∨ k = 5) : Tw.str (deedText k 0) = Tw.str (deedWord k.toNat) := by
  unfold deedText
  rw [if_neg (by omega), if_pos hk, if_pos rfl]
theorem text_odd {k n : Int} (hk : k = 1 ∨ k = 4 ∨ k = 5) (h : n ≠ 0) : Tw.str (deedText k n) = ⟨#[]⟩ := by
  unfold deedText
  rw [if_neg (by omega), if_pos hk, if_neg h]
  rfl
theorem text_none {k n : Int} (hk : k < 0 ∨ 6 ≤ k) : Tw.str (deedText k n) = ⟨#[]⟩ := by
  unfold deedText
  rw [if_neg (by omega), if_neg (by omega)]
  rfl

theorem itoa_to (n : Int) (h0 : 0 ≤ n) (h1 : n ≤ 99) (x : ByteArray) (hx : Tw.str (Lib.decDigits n.toNat) = x) (w : World) :
    Calls Tryz.prog 76 #[.int .i64 n] w fun e w' => e = .returned (.string x) ∧ w = w' := by
  obtain ⟨m, rfl⟩ := Int.eq_ofNat_of_zero_le h0
  subst hx
  refine (Tryz.strconv_Itoa_small m (by omega) w).mono ?_
  rintro e w' ⟨rfl, rfl⟩
  exact ⟨rfl, rfl⟩

theorem deed_below (k n : Int) (w : World) : Below w.heap.size w (w.alloc (.cells #[.int .i64 k, .int .i64 n] 53)) := (Below.refl _ _).alloc (Nat.le_refl _) _

set_option maxRecDepth 100000 in
set_option maxHeartbeats 800000 in
theorem impl_number0 (n : Int) (w : World) (hw : WordsAt w) (h0 : 0 ≤ n) (h1 : n ≤ 99) (x : ByteArray) (hx2 : x.size ≤ 2) (hx : Hid (Tw.str (Lib.decDigits n.toNat) = x)) :
    Calls Tryz.prog 35 #[.agg #[.int .i64 0, .int .i64 n]] w fun e w' => e = .returned (.string ((⟨#[115, 116, 101, 112]⟩ : ByteArray) ++ ⟨#[32]⟩ ++ x)) ∧ Below w.heap.size w w' := by
  have c : (w.alloc (.cells #[.int .i64 0, .int .i64 n] 53)).cell? ⟨0, 0, none⟩ = some (.string ⟨#[115, 116, 101, 112]⟩) := (hw.alloc (.cells #[.int .i64 0, .int .i64 n] 53)) 0 (by omega)
  have h0' : ¬ n < 0 := by omega
  have h1' : ¬ 99 < n := by omega
  clear hw
  go_enter Tryz.func35, Tryz.ntmps35
  go_wp2_with (first
    | (go_at_call 75; refine (withNumber_any 0 (by omega) _).mono ?_; rintro e w' ⟨rfl, rfl⟩)
    | (go_at_call 76; refine (itoa_to n h0 h1 x hx.out _).mono ?_; rintro e w' ⟨rfl, rfl⟩))
  go_ret
  exact ⟨rfl, deed_below _ _ _⟩

set_option maxRecDepth 100000 in
set_option maxHeartbeats 800000 in
theorem impl_bad0 (n : Int) (w : World) (hw : WordsAt w) (hn : n < 0 ∨ (¬ n < 0 ∧ 99 < n)) :
    Calls Tryz.prog 35 #[.agg #[.int .i64 0, .int .i64 n]] w fun e w' => e = .returned (.string ⟨#[]⟩) ∧ Below w.heap.size w w' := by
  have c : (w.alloc (.cells #[.int .i64 0, .int .i64 n] 53)).cell? ⟨0, 0, none⟩ = some (.string ⟨#[115, 116, 101, 112]⟩) := (hw.alloc (.cells #[.int .i64 0, .int .i64 n] 53)) 0 (by omega)
  clear hw
  rcases hn with hn | ⟨hn, hn2⟩
  all_goals
    go_enter Tryz.func35, Tryz.ntmps35
    go_wp2_with (first
      | (go_at_call 75; refine (withNumber_any 0 (by omega) _).mono ?_; rintro e w' ⟨rfl, rfl⟩))
    go_ret
    exact ⟨rfl, deed_below _ _ _⟩

set_option maxRecDepth 100000 in
set_option maxHeartbeats 800000 in
theorem impl_number2 (n : Int) (w : World) (hw : WordsAt w) (h0 : 0 ≤ n) (h1 : n ≤ 99) (x : ByteArray) (hx2 : x.size ≤ 2) (hx : Hid (Tw.str (Lib.decDigits n.toNat) = x)) :
    Calls Tryz.prog 35 #[.agg #[.int .i64 2, .int .i64 n]] w fun e w' => e = .returned (.string ((⟨#[119, 97, 121]⟩ : ByteArray) ++ ⟨#[32]⟩ ++ x)) ∧ Below w.heap.size w w' := by
  have c : (w.alloc (.cells #[.int .i64 2, .int .i64 n] 53)).cell? ⟨0, 2, none⟩ = some (.string ⟨#[119, 97, 121]⟩) := (hw.alloc (.cells #[.int .i64 2, .int .i64 n] 53)) 2 (by omega)
  have h0' : ¬ n < 0 := by omega
  have h1' : ¬ 99 < n := by omega
  clear hw
  go_enter Tryz.func35, Tryz.ntmps35
  go_wp2_with (first
    | (go_at_call 75; refine (withNumber_any 2 (by omega) _).mono ?_; rintro e w' ⟨rfl, rfl⟩)
    | (go_at_call 76; refine (itoa_to n h0 h1 x hx.out _).mono ?_; rintro e w' ⟨rfl, rfl⟩))
  go_ret
  exact ⟨rfl, deed_below _ _ _⟩

set_option maxRecDepth 100000 in
set_option maxHeartbeats 800000 in
theorem impl_bad2 (n : Int) (w : World) (hw : WordsAt w) (hn : n < 0 ∨ (¬ n < 0 ∧ 99 < n)) :
    Calls Tryz.prog 35 #[.agg #[.int .i64 2, .int .i64 n]] w fun e w' => e = .returned (.string ⟨#[]⟩) ∧ Below w.heap.size w w' := by
  have c : (w.alloc (.cells #[.int .i64 2, .int .i64 n] 53)).cell? ⟨0, 2, none⟩ = some (.string ⟨#[119, 97, 121]⟩) := (hw.alloc (.cells #[.int .i64 2, .int .i64 n] 53)) 2 (by omega)
  clear hw
  rcases hn with hn | ⟨hn, hn2⟩
  all_goals
    go_enter Tryz.func35, Tryz.ntmps35
    go_wp2_with (first
      | (go_at_call 75; refine (withNumber_any 2 (by omega) _).mono ?_; rintro e w' ⟨rfl, rfl⟩))
    go_ret
    exact ⟨rfl, deed_below _ _ _⟩

set_option maxRecDepth 100000 in
set_option maxHeartbeats 800000 in
theorem impl_number3 (n : Int) (w : World) (hw : WordsAt w) (h0 : 0 ≤ n) (h1 : n ≤ 99) (x : ByteArray) (hx2 : x.size ≤ 2) (hx : Hid (Tw.str (Lib.decDigits n.toNat) = x)) :
    Calls Tryz.prog 35 #[.agg #[.int .i64 3, .int .i64 n]] w fun e w' => e = .returned (.string ((⟨#[111, 110]⟩ : ByteArray) ++ ⟨#[32]⟩ ++ x)) ∧ Below w.heap.size w w' := by
  have c : (w.alloc (.cells #[.int .i64 3, .int .i64 n] 53)).cell? ⟨0, 3, none⟩ = some (.string ⟨#[111, 110]⟩) := (hw.alloc (.cells #[.int .i64 3, .int .i64 n] 53)) 3 (by omega)
  have h0' : ¬ n < 0 := by omega
  have h1' : ¬ 99 < n := by omega
  clear hw
  go_enter Tryz.func35, Tryz.ntmps35
  go_wp2_with (first
    | (go_at_call 75; refine (withNumber_any 3 (by omega) _).mono ?_; rintro e w' ⟨rfl, rfl⟩)
    | (go_at_call 76; refine (itoa_to n h0 h1 x hx.out _).mono ?_; rintro e w' ⟨rfl, rfl⟩))
  go_ret
  exact ⟨rfl, deed_below _ _ _⟩

set_option maxRecDepth 100000 in
set_option maxHeartbeats 800000 in
theorem impl_bad3 (n : Int) (w : World) (hw : WordsAt w) (hn : n < 0 ∨ (¬ n < 0 ∧ 99 < n)) :
    Calls Tryz.prog 35 #[.agg #[.int .i64 3, .int .i64 n]] w fun e w' => e = .returned (.string ⟨#[]⟩) ∧ Below w.heap.size w w' := by
  have c : (w.alloc (.cells #[.int .i64 3, .int .i64 n] 53)).cell? ⟨0, 3, none⟩ = some (.string ⟨#[111, 110]⟩) := (hw.alloc (.cells #[.int .i64 3, .int .i64 n] 53)) 3 (by omega)
  clear hw
  rcases hn with hn | ⟨hn, hn2⟩
  all_goals
    go_enter Tryz.func35, Tryz.ntmps35
    go_wp2_with (first
      | (go_at_call 75; refine (withNumber_any 3 (by omega) _).mono ?_; rintro e w' ⟨rfl, rfl⟩))
    go_ret
    exact ⟨rfl, deed_below _ _ _⟩

set_option maxRecDepth 100000 in
set_option maxHeartbeats 800000 in
theorem impl_plain1 (w : World) (hw : WordsAt w) :
    Calls Tryz.prog 35 #[.agg #[.int .i64 1, .int .i64 0]] w fun e w' => e = .returned (.string ⟨#[100, 114, 111, 112]⟩) ∧ Below w.heap.size w w' := by
  have c : (w.alloc (.cells #[.int .i64 1, .int .i64 0] 53)).cell? ⟨0, 1, none⟩ = some (.string ⟨#[100, 114, 111, 112]⟩) := (hw.alloc (.cells #[.int .i64 1, .int .i64 0] 53)) 1 (by omega)
  clear hw
  go_enter Tryz.func35, Tryz.ntmps35
  go_wp2_with (first
    | (go_at_call 75; refine (withNumber_any 1 (by omega) _).mono ?_; rintro e w' ⟨rfl, rfl⟩))
  go_ret
  exact ⟨rfl, deed_below _ _ _⟩

set_option maxRecDepth 100000 in
set_option maxHeartbeats 800000 in
theorem impl_odd1 (n : Int) (w : World) (hw : WordsAt w) (hn : (n == 0) = false) :
    Calls Tryz.prog 35 #[.agg #[.int .i64 1, .int .i64 n]] w fun e w' => e = .returned (.string ⟨#[]⟩) ∧ Below w.heap.size w w' := by
  have c : (w.alloc (.cells #[.int .i64 1, .int .i64 n] 53)).cell? ⟨0, 1, none⟩ = some (.string ⟨#[100, 114, 111, 112]⟩) := (hw.alloc (.cells #[.int .i64 1, .int .i64 n] 53)) 1 (by omega)
  clear hw
  go_enter Tryz.func35, Tryz.ntmps35
  go_wp2_with (first
    | (go_at_call 75; refine (withNumber_any 1 (by omega) _).mono ?_; rintro e w' ⟨rfl, rfl⟩))
  go_ret
  exact ⟨rfl, deed_below _ _ _⟩

set_option maxRecDepth 100000 in
set_option maxHeartbeats 800000 in
theorem impl_plain4 (w : World) (hw : WordsAt w) :
    Calls Tryz.prog 35 #[.agg #[.int .i64 4, .int .i64 0]] w fun e w' => e = .returned (.string ⟨#[102, 105, 114, 115, 116]⟩) ∧ Below w.heap.size w w' := by
  have c : (w.alloc (.cells #[.int .i64 4, .int .i64 0] 53)).cell? ⟨0, 4, none⟩ = some (.string ⟨#[102, 105, 114, 115, 116]⟩) := (hw.alloc (.cells #[.int .i64 4, .int .i64 0] 53)) 4 (by omega)
  clear hw
  go_enter Tryz.func35, Tryz.ntmps35
  go_wp2_with (first
    | (go_at_call 75; refine (withNumber_any 4 (by omega) _).mono ?_; rintro e w' ⟨rfl, rfl⟩))
  go_ret
  exact ⟨rfl, deed_below _ _ _⟩

set_option maxRecDepth 100000 in
set_option maxHeartbeats 800000 in
theorem impl_odd4 (n : Int) (w : World) (hw : WordsAt w) (hn : (n == 0) = false) :
    Calls Tryz.prog 35 #[.agg #[.int .i64 4, .int .i64 n]] w fun e w' => e = .returned (.string ⟨#[]⟩) ∧ Below w.heap.size w w' := by
  have c : (w.alloc (.cells #[.int .i64 4, .int .i64 n] 53)).cell? ⟨0, 4, none⟩ = some (.string ⟨#[102, 105, 114, 115, 116]⟩) := (hw.alloc (.cells #[.int .i64 4, .int .i64 n] 53)) 4 (by omega)
  clear hw
  go_enter Tryz.func35, Tryz.ntmps35
  go_wp2_with (first
    | (go_at_call 75; refine (withNumber_any 4 (by omega) _).mono ?_; rintro e w' ⟨rfl, rfl⟩))
  go_ret
  exact ⟨rfl, deed_below _ _ _⟩

set_option maxRecDepth 100000 in
set_option maxHeartbeats 800000 in
theorem impl_plain5 (w : World) (hw : WordsAt w) :
    Calls Tryz.prog 35 #[.agg #[.int .i64 5, .int .i64 0]] w fun e w' => e = .returned (.string ⟨#[98, 97, 99, 107]⟩) ∧ Below w.heap.size w w' := by
  have c : (w.alloc (.cells #[.int .i64 5, .int .i64 0] 53)).cell? ⟨0, 5, none⟩ = some (.string ⟨#[98, 97, 99, 107]⟩) := (hw.alloc (.cells #[.int .i64 5, .int .i64 0] 53)) 5 (by omega)
  clear hw
  go_enter Tryz.func35, Tryz.ntmps35
  go_wp2_with (first
    | (go_at_call 75; refine (withNumber_any 5 (by omega) _).mono ?_; rintro e w' ⟨rfl, rfl⟩))
  go_ret
  exact ⟨rfl, deed_below _ _ _⟩

set_option maxRecDepth 100000 in
set_option maxHeartbeats 800000 in
theorem impl_odd5 (n : Int) (w : World) (hw : WordsAt w) (hn : (n == 0) = false) :
    Calls Tryz.prog 35 #[.agg #[.int .i64 5, .int .i64 n]] w fun e w' => e = .returned (.string ⟨#[]⟩) ∧ Below w.heap.size w w' := by
  have c : (w.alloc (.cells #[.int .i64 5, .int .i64 n] 53)).cell? ⟨0, 5, none⟩ = some (.string ⟨#[98, 97, 99, 107]⟩) := (hw.alloc (.cells #[.int .i64 5, .int .i64 n] 53)) 5 (by omega)
  clear hw
  go_enter Tryz.func35, Tryz.ntmps35
  go_wp2_with (first
    | (go_at_call 75; refine (withNumber_any 5 (by omega) _).mono ?_; rintro e w' ⟨rfl, rfl⟩))
  go_ret
  exact ⟨rfl, deed_below _ _ _⟩

set_option maxRecDepth 100000 in
set_option maxHeartbeats 800000 in
theorem impl_none (k n : Int) (w : World) (hk : k < 0 ∨ (¬ k < 0 ∧ 6 ≤ k)) :
    Calls Tryz.prog 35 #[.agg #[.int .i64 k, .int .i64 n]] w fun e w' => e = .returned (.string ⟨#[]⟩) ∧ Below w.heap.size w w' := by
  rcases hk with hk | ⟨hk, hk2⟩
  all_goals
    go_enter Tryz.func35, Tryz.ntmps35
    go_wp2
    go_ret
    exact ⟨rfl, deed_below _ _ _⟩

theorem implDeedText (k n : Int) (w : World) (hw : WordsAt w) :
    Calls Tryz.prog 35 #[.agg #[.int .i64 k, .int .i64 n]] w fun e w' => e = .returned (.string (Tw.str (deedText k n))) ∧ Below w.heap.size w w' := by
  rcases (by omega : (k < 0 ∨ 6 ≤ k) ∨ (k = 0 ∨ k = 2 ∨ k = 3) ∨ (k = 1 ∨ k = 4 ∨ k = 5)) with hk | hk | hk
  · rw [text_none hk]
    exact impl_none k n w (by omega)
  · by_cases hn : 0 ≤ n ∧ n ≤ 99
    · rw [text_number hk hn.1 hn.2]
      have h2 : (Tw.str (Lib.decDigits n.toNat)).size ≤ 2 := dec_few (by omega)
      rcases hk with rfl | rfl | rfl
      · exact impl_number0 n w hw hn.1 hn.2 _ h2 (Lib.hid rfl)
      · exact impl_number2 n w hw hn.1 hn.2 _ h2 (Lib.hid rfl)
      · exact impl_number3 n w hw hn.1 hn.2 _ h2 (Lib.hid rfl)
    · rw [text_bad hk hn]
      rcases hk with rfl | rfl | rfl
      · exact impl_bad0 n w hw (by omega)
      · exact impl_bad2 n w hw (by omega)
      · exact impl_bad3 n w hw (by omega)
  · by_cases hn : n = 0
    · subst hn
      rw [text_plain hk]
      rcases hk with rfl | rfl | rfl
      · exact impl_plain1 w hw
      · exact impl_plain4 w hw
      · exact impl_plain5 w hw
    · rw [text_odd hk hn]
      rcases hk with rfl | rfl | rfl
      · exact impl_odd1 n w hw (beq_false_of_ne hn)
      · exact impl_odd4 n w hw (beq_false_of_ne hn)
      · exact impl_odd5 n w hw (beq_false_of_ne hn)

end Go.Proofs.YtccdfndnjjjgfaaGreatDoor
