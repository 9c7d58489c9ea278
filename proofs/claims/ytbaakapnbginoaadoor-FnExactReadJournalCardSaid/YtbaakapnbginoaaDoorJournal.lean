/-
  Contracts of JournalText (both), and of eqDeedS at equal lists.
-/
import Derived.Test.YtbaakapnbginoaaDoorDeeds
import Derived.Test.YtbaakapnbginoaaDoorDeedSpec
import Derived.Test.YtbaakapnbginoaaDoorBuilderStr
namespace Go.Proofs.YtbaakapnbginoaaDoor
open Go.RowKit

def dt (d : Int × Int) : List UInt8 := deedText d.1 d.2
def jt (ds : List (Int × Int)) : List UInt8 := ds.flatMap fun d => dt d ++ [10]
def goodTo (ds : List (Int × Int)) : Bool := ds.all fun d => !(dt d).isEmpty
/-- The text of a journal. -/
def journal (ds : List (Int × Int)) : List UInt8 := if goodTo ds then jt ds else []
theorem dt_few (d : Int × Int) : (dt d).length ≤ 7 := by
  unfold dt deedText
  split
  · rename_i hk
    split
    · rename_i hn
      have h2 := dec_few (i := d.2.toNat) (by omega)
      rw [Tw.str_size] at h2
      rcases hk with h | h | h
      all_goals
        rw [h]
        simp [deedWord]
        omega
    · simp
  · split
    · rename_i hk
      split
      · rcases hk with h | h | h
        all_goals
          rw [h]
          simp [deedWord]
      · simp
    · simp
theorem jt_succ {ds : List (Int × Int)} {j : Nat} {d : Int × Int} (h : ds[j]? = some d) : jt (ds.take (j + 1)) = jt (ds.take j) ++ (dt d ++ [10]) := by
  unfold jt
  rw [List.take_add_one, h, List.flatMap_append]
  simp
theorem good_succ {ds : List (Int × Int)} {j : Nat} {d : Int × Int} (h : ds[j]? = some d) (hg : goodTo (ds.take j) = true) (hd : dt d ≠ []) : goodTo (ds.take (j + 1)) = true := by
  unfold goodTo at *
  rw [List.take_add_one, h, List.all_append, hg]
  simp [hd]
theorem journal_bad {ds : List (Int × Int)} {j : Nat} {d : Int × Int} (h : ds[j]? = some d) (hd : dt d = []) : journal ds = [] := by
  unfold journal
  have : goodTo ds = false := by
    unfold goodTo
    rw [Bool.eq_false_iff]
    intro hall
    have := List.all_eq_true.1 hall d (List.mem_of_getElem? h)
    simp [hd] at this
  rw [this]
  rfl
theorem journal_good {ds : List (Int × Int)} (h : goodTo ds = true) : journal ds = jt ds := by unfold journal; rw [h]; rfl
theorem nil_of_size0 {s : ByteArray} (h : s.size = 0) : s = ⟨#[]⟩ := by
  apply ByteArray.ext
  exact Array.eq_empty_of_size_eq_zero h
theorem notEmpty0 {s : ByteArray} (h : 0 < s.size) : s.toList.isEmpty = false := by
  rw [Lib.toList_data]
  cases hl : s.data.toList with
  | nil => have := size_data s; rw [hl] at this; simp at this; omega
  | cons _ _ => rfl
theorem lit_size0 (a : Array UInt8) : (ByteArray.mk a).size = a.size := rfl
theorem str_nil_of {l : List UInt8} (h : (Tw.str l).size = 0) : l = [] := by
  rw [Tw.str_size] at h
  exact List.length_eq_zero_iff.1 h

set_option maxRecDepth 100000 in
set_option maxHeartbeats 3200000 in
theorem specJournal (v : Value) (ds : List (Int × Int)) (w : World) (h : DeedsAt w v ds) (hn : ds.length ≤ 1048576) :
    Calls Tryd.prog 58 #[v] w fun e w' => e = .returned (.string (Tw.str (journal ds))) ∧ Below w.heap.size w w' := by
  rcases h with ⟨rfl, rfl⟩ | ⟨a, cap, rfl, hl, hc⟩
  · go_enter Tryd.func58, Tryd.ntmps58
    go_wp2
    refine wp_loop_rounds 1 ?_
    rw [rounds_succ]
    go_wp2
    go_ret
    exact ⟨rfl, Below.refl _ _⟩
  · obtain ⟨n, hnn⟩ : ∃ n, ds.length = n := ⟨_, rfl⟩
    rw [hnn] at hn hl ⊢
    have HC := Lib.hid hc
    have HN := Lib.hid hnn
    clear hc hnn
    go_enter Tryd.func58, Tryd.ntmps58
    go_wp2
    go_loopw [3, 4] (fun o i wr => ∃ (j : Nat) (x : ByteArray), o = .string x ∧ i = .int .i64 j ∧ j ≤ n ∧ x.size ≤ 10 * j ∧ Hid (x = Tw.str (jt (ds.take j))) ∧ Hid (goodTo (ds.take j) = true) ∧ Below w.heap.size w wr) (fun _ i _ => n - (intOf i).toNat)
    case atStart => exact ⟨0, _, rfl, rfl, Nat.zero_le _, Nat.le_refl _, rfl, rfl, Below.refl _ _⟩
    case round =>
      obtain ⟨j, x, rfl, rfl, hj, hx, HX, HG, hb⟩ := hrel
      by_cases hlt : j < n
      · obtain ⟨d, hd⟩ : ∃ d, ds[j]? = some d := ⟨ds[j]'(by rw [HN.out]; exact hlt), List.getElem?_eq_getElem (by rw [HN.out]; exact hlt)⟩
        have c0 := cell_keep hb (HC.out j d hd).1
        have c1 := cell_keep hb (HC.out j d hd).2
        have g0 := (HC.out j d hd).1
        have g1 := (HC.out j d hd).2
        have G0 := Lib.hid g0
        have G1 := Lib.hid g1
        obtain ⟨t, ht⟩ : ∃ t, Tw.str (dt d) = t := ⟨_, rfl⟩
        have ht7 : t.size ≤ 7 := by rw [← ht, Tw.str_size]; exact dt_few d
        have hct : Hid (∀ W : World, Calls Tryd.prog 50 #[.agg #[.int .i64 d.1, .int .i64 d.2]] W fun e w' => e = .returned (.string t) ∧ Below W.heap.size W w') := fun W => ht ▸ specDeedText d.1 d.2 W
        have HD := Lib.hid hd
        have HT := Lib.hid ht
        have hk3 : (0 : Int) ≤ (j : Int) := by omega
        have hk4 : (j : Int) < (n : Int) := by omega
        clear hd ht g0 g1
        by_cases ht0 : t.size = 0
        · obtain rfl := nil_of_size0 ht0
          go_wp2_with (first
            | (go_at_call 50; refine (hct.out _).mono ?_; rintro e w1 ⟨rfl, hb1⟩))
          go_ret
          exact ⟨ret_str (by rw [journal_bad HD.out (str_nil_of (by rw [HT.out]; rfl))]; rfl), hb.trans (hb1.mono hb.size)⟩
        · have hne := notEmpty0 (s := t) (by omega)
          go_wp2_with (first
            | (go_at_call 50; first
                | (have hq := hb2; refine (hct.out _).mono ?_; rintro e w2 ⟨rfl, hb3'⟩; have hb3 := hb2.trans (hb3'.mono hb2.size))
                | (refine (hct.out _).mono ?_; rintro e w1 ⟨rfl, hb1⟩; have hb2 := hb.trans (hb1.mono hb.size); have e0 := cell_keep hb2 G0.out; have e1 := cell_keep hb2 G1.out)))
          go_roundw
          case rel =>
            refine ⟨j + 1, _, rfl, by go_num, by omega, by simp [lit_size0]; omega, ?_, ?_, hb3⟩
            · show _ = _
              rw [HX.out, ← HT.out, jt_succ HD.out]
              show Tw.str _ ++ Tw.str _ ++ Tw.str [10] = _
              rw [Tw.str_append, Tw.str_append, List.append_assoc]
            · refine good_succ HD.out HG.out ?_
              intro e
              have := HT.out
              rw [e] at this
              rw [← this] at ht0
              exact ht0 rfl
          case measure => simp [intOf]; omega
      · obtain rfl : j = n := by omega
        go_wp2
        go_ret
        have e : ds.take j = ds := List.take_of_length_le (by rw [HN.out]; exact Nat.le_refl _)
        refine ⟨ret_str ?_, hb⟩
        have hg := HG.out
        rw [e] at hg
        rw [HX.out, e, journal_good hg]

set_option maxRecDepth 100000 in
set_option maxHeartbeats 3200000 in
theorem implJournal (v : Value) (ds : List (Int × Int)) (w : World) (hw : WordsAt w) (h : DeedsAt w v ds) (hn : ds.length ≤ 1048576) :
    Calls Tryd.prog 57 #[v] w fun e w' => e = .returned (.string (Tw.str (journal ds))) ∧ Below w.heap.size w w' := by
  have hbu := Lib.fresh_isBuilder 104 5 w
  have hb0 : Below w.heap.size w (w.alloc (.cells #[.pointer none, .slice none 0 0] 104)) := (Below.refl _ _).alloc (Nat.le_refl _) _
  rcases h with ⟨rfl, rfl⟩ | ⟨a, cap, rfl, hl, hc⟩
  · go_enter Tryd.func57, Tryd.ntmps57
    go_wp2
    refine wp_loop_rounds 1 ?_
    rw [rounds_succ]
    go_wp2_with (first
      | (go_at_call 97; refine (Tryd.Builder_String_any w.heap.size w.heap.size [] _ hbu (by simp)).mono ?_; rintro e w6 ⟨rfl, hb6⟩))
    go_ret
    exact ⟨rfl, hb0.trans hb6⟩
  · obtain ⟨n, hnn⟩ : ∃ n, ds.length = n := ⟨_, rfl⟩
    rw [hnn] at hn hl ⊢
    have HC := Lib.hid hc
    have HN := Lib.hid hnn
    clear hc hnn
    go_enter Tryd.func57, Tryd.ntmps57
    go_wp2
    go_loopw [5, 6, 9] (fun _ _ i wr => ∃ j : Nat, i = .int .i64 j ∧ j ≤ n ∧ Lib.IsBuilder 104 5 w.heap.size w.heap.size (Lib.byteCells (jt (ds.take j))) wr ∧ (jt (ds.take j)).length ≤ 10 * j ∧ Hid (goodTo (ds.take j) = true) ∧ Below w.heap.size w wr ∧ w.heap.size ≤ wr.heap.size) (fun _ _ i _ => n - (intOf i).toNat)
    case atStart => exact ⟨0, rfl, Nat.zero_le _, hbu, Nat.le_refl _, rfl, hb0, by simp⟩
    case round =>
      obtain ⟨j, rfl, hj, hbuj, hjl, HG, hb, hsz⟩ := hrel
      by_cases hlt : j < n
      · obtain ⟨d, hd⟩ : ∃ d, ds[j]? = some d := ⟨ds[j]'(by rw [HN.out]; exact hlt), List.getElem?_eq_getElem (by rw [HN.out]; exact hlt)⟩
        have c0 := cell_keep hb (HC.out j d hd).1
        have c1 := cell_keep hb (HC.out j d hd).2
        obtain ⟨t, ht⟩ : ∃ t, Tw.str (dt d) = t := ⟨_, rfl⟩
        have ht7 : t.size ≤ 7 := by rw [← ht, Tw.str_size]; exact dt_few d
        have hct : Hid (∀ W : World, WordsAt W → Calls Tryd.prog 49 #[.agg #[.int .i64 d.1, .int .i64 d.2]] W fun e w' => e = .returned (.string t) ∧ Below W.heap.size W w') := fun W hW => ht ▸ implDeedText d.1 d.2 W hW
        obtain ⟨J, hJ⟩ : ∃ J, jt (ds.take j) = J := ⟨_, rfl⟩
        have hjs := jt_succ hd
        rw [hJ] at hbuj hjl hjs
        have HJ := Lib.hid hjs
        have HD := Lib.hid hd
        have HT := Lib.hid ht
        have hk3 : (0 : Int) ≤ (j : Int) := by omega
        have hk4 : (j : Int) < (n : Int) := by omega
        have hbA := hb.alloc hsz (.cells #[.int .i64 d.1, .int .i64 d.2] 23)
        have HBA := Lib.hid hbA
        clear hd ht hJ hjs hbA
        by_cases ht0 : t.size = 0
        · obtain rfl := nil_of_size0 ht0
          go_wp2_with (first
            | (go_at_call 49; refine (hct.out _ (hw.below' HBA.out)).mono ?_; rintro e w1 ⟨rfl, hb1⟩))
          go_ret
          exact ⟨ret_str (by rw [journal_bad HD.out (str_nil_of (by rw [HT.out]; rfl))]; rfl), HBA.out.trans (hb1.mono HBA.out.size)⟩
        · have hne := notEmpty0 (s := t) (by omega)
          go_wp2_with (first
            | (go_at_call 49; refine (hct.out _ (hw.below' HBA.out)).mono ?_; rintro e w1 ⟨rfl, hb1⟩; have hbu1 := isBuilderKept (isBuilderKept hbuj ((Below.refl _ _).alloc (Nat.le_refl _) (.cells #[.int .i64 d.1, .int .i64 d.2] 23))) hb1; have hb2 := HBA.out.trans (hb1.mono HBA.out.size); have hsz2 := hb2.size)
            | (go_at_call 95; refine (writeString_any w.heap.size w.heap.size _ t _ hbu1 (by rw [Lib.byteCells_length]; omega) hsz2).mono ?_; rintro e w3 ⟨rfl, hbu3, hb3'⟩; have hb3 := hb2.trans hb3'; have hsz3 := hb3.size)
            | (go_at_call 96; refine (writeByte_any w.heap.size w.heap.size _ 10 _ (.inr hbu3) (by rw [List.length_append, Lib.byteCells_length, Lib.byteCells_length, size_data]; omega) hsz3).mono ?_; rintro e w4 ⟨rfl, hbu4, hb4'⟩; have hb4 := hb3.trans hb4'))
          go_roundw
          case rel =>
            have ht' : t.data.toList = dt d := by rw [← HT.out, Tw.str_data]
            have e1 : Lib.byteCells J ++ Lib.byteCells t.data.toList ++ [.int .u8 10] = Lib.byteCells (jt (ds.take (j + 1))) := by
              rw [HJ.out, ht']
              simp [Lib.byteCells]
            rw [e1] at hbu4
            refine ⟨j + 1, by go_num, by omega, .inr hbu4, ?_, ?_, hb4, hb4.size⟩
            · rw [HJ.out, List.length_append, List.length_append]
              have := dt_few d
              simp
              omega
            · refine good_succ HD.out HG.out ?_
              intro e
              have := HT.out
              rw [e] at this
              rw [← this] at ht0
              exact ht0 rfl
          case measure => simp [intOf]; omega
      · obtain rfl : j = n := by omega
        go_wp2_with (first
          | (go_at_call 97; refine (Tryd.Builder_String_any w.heap.size w.heap.size _ _ hbuj hsz).mono ?_; rintro e w6 ⟨rfl, hb6⟩))
        go_ret
        have e : ds.take j = ds := List.take_of_length_le (by rw [HN.out]; exact Nat.le_refl _)
        have hg := HG.out
        rw [e] at hg
        refine ⟨ret_str ?_, hb.trans hb6⟩
        rw [e, journal_good hg]
        rfl

set_option maxRecDepth 100000 in
set_option maxHeartbeats 3200000 in
theorem eqDeeds_same (v u : Value) (ds : List (Int × Int)) (w : World) (h : DeedsAt w v ds) (k : DeedsAt w u ds) (hn : ds.length ≤ 1048576) (h0 : v ≠ .slice none 0 0) (k0 : u ≠ .slice none 0 0) :
    Calls Tryd.prog 19 #[v, u] w fun e w' => e = .returned (.bool true) ∧ Below w.heap.size w w' := by
  rcases h with ⟨rfl, rfl⟩ | ⟨a, cap, rfl, hl, hc⟩
  · exact absurd rfl h0
  rcases k with ⟨rfl, rfl⟩ | ⟨b, cap', rfl, hl', hc'⟩
  · exact absurd rfl k0
  clear h0 k0
  obtain ⟨n, hnn⟩ : ∃ n, ds.length = n := ⟨_, rfl⟩
  rw [hnn] at hn hl hl' ⊢
  have HC := Lib.hid hc
  have HC' := Lib.hid hc'
  have HN := Lib.hid hnn
  clear hc hc' hnn
  go_enter Tryd.func19, Tryd.ntmps19
  go_wp2
  go_loopw [5] (fun i wr => ∃ j : Nat, i = .int .i64 j ∧ j ≤ n ∧ Below w.heap.size w wr) (fun i _ => n - (intOf i).toNat)
  case atStart => exact ⟨0, rfl, Nat.zero_le _, Below.refl _ _⟩
  case round =>
    obtain ⟨j, rfl, hj, hb⟩ := hrel
    by_cases hlt : j < n
    · obtain ⟨d, hd⟩ : ∃ d, ds[j]? = some d := ⟨ds[j]'(by rw [HN.out]; exact hlt), List.getElem?_eq_getElem (by rw [HN.out]; exact hlt)⟩
      have c0 := cell_keep hb (HC.out j d hd).1
      have c1 := cell_keep hb (HC.out j d hd).2
      have e0 := cell_keep hb (HC'.out j d hd).1
      have e1 := cell_keep hb (HC'.out j d hd).2
      have hk3 : (0 : Int) ≤ (j : Int) := by omega
      have hk4 : (j : Int) < (n : Int) := by omega
      clear hd
      go_wp2_with fail
      go_region_held3 (fun w' => w'.cell? (a.add (j * 2)) = some (.int .i64 d.1) ∧ w'.cell? ⟨(a.add (j * 2)).block, (a.add (j * 2)).off + 1, none⟩ = some (.int .i64 d.2) ∧ w'.cell? (b.add (j * 2)) = some (.int .i64 d.1) ∧ w'.cell? ⟨(b.add (j * 2)).block, (b.add (j * 2)).off + 1, none⟩ = some (.int .i64 d.2))
        (first | exact ⟨c0, c1, e0, e1⟩ | exact ⟨cell_keep hb3 c0, cell_keep hb3 c1, cell_keep hb3 e0, cell_keep hb3 e1⟩)
        (first
          | (go_at_call 16; refine (eqDeed_same d.1 d.2 wr.drew).mono ?_; rintro e w3 ⟨rfl, hb3⟩))
      go_wp2
      go_roundw
      case rel => exact ⟨j + 1, by go_num, by omega, hb.drew.trans (hb3.mono hb.size)⟩
      case measure => simp [intOf]; omega
    · obtain rfl : j = n := by omega
      go_wp2
      go_ret
      exact ⟨rfl, hb⟩

end Go.Proofs.YtbaakapnbginoaaDoor
