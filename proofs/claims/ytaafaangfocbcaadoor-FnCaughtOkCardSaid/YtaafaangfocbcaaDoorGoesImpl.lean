/-
  Contracts of the program's GoesOn and CaughtOk.
-/
import Derived.Test.YtaafaangfocbcaaDoorGoes
import Derived.Test.YtaafaangfocbcaaDoorEnd
import Derived.Test.YtaafaangfocbcaaDoorBuilder
import Derived.Test.YtaafaangfocbcaaDoorShelf
import Derived.Deep.RegionHeld3
namespace Go.Proofs.YtaafaangfocbcaaDoor
open Go.RowKit Go.Maps Go.WideMaps

theorem builder_below {B b : Nat} {p : Value} {bs : List Value} {w w' : World} (h : Lib.BuilderAt 59 5 B b p bs w) (hb : Below w.heap.size w w') : Lib.BuilderAt 59 5 B b p bs w' := by
  have hlt := h.lt
  obtain ⟨hB, v, hk, hown, hne⟩ := h
  exact ⟨hB, v, (hb.block _ hlt).trans hk, own_below hown hb, hne⟩
theorem isBuilder_below {B b : Nat} {bs : List Value} {w w' : World} (h : Lib.IsBuilder 59 5 B b bs w) (hb : Below w.heap.size w w') : Lib.IsBuilder 59 5 B b bs w' := h.imp (fun h => builder_below h hb) (fun h => builder_below h hb)
theorem has_place {ps : List (Int × Int)} {q : Int × Int} (h : ∀ p ∈ ps, near p) (hq : near q) : Maps.has (placeSet ps) (placeKey q) = ps.contains q := by
  unfold placeSet
  rw [has_setOf _ _ _ (fun x hx => by
    obtain ⟨p, _, rfl⟩ := List.mem_map.1 hx
    exact isKey_place p), Bool.eq_iff_iff, any_same _ _ (isKey_place q), List.mem_map, List.contains_iff_mem]
  constructor
  · rintro ⟨p, hp, e⟩
    rwa [← placeKey_inj (h p hp) hq e]
  · intro hm
    exact ⟨q, hm, rfl⟩
theorem zeroUnit (W : World) : (zeroValue 56).run Tryd.prog W = .ok (.agg #[]) W := by kernel_rfl
theorem look_run {W : World} {m k : Nat} {D : DataW Unit} {key : Value} {kl : Lit} {b : Bool} (h : W.ownsMap Tryd.prog 52 unitElem m k D) (hkey : keyOf Tryd.prog 52 key = some kl) (hb : Maps.has D kl = b) :
    (Instr.lookup 55 (.map (some m)) key true).run Tryd.prog W = .ok (.tuple #[.agg #[], .bool b]) W := by
  obtain ⟨v, ps, hrun, hv⟩ := h.look_ok placeLaw Tryd.underlying55 (zeroUnit W) unitElem_mk hkey
  obtain ⟨rfl, _⟩ := unitElem_inv hv
  rw [hrun, hb]
theorem builder_alloc {B b : Nat} {bs : List Value} {w : World} (h : Lib.IsBuilder 59 5 B b bs w) (o : Obj) : Lib.IsBuilder 59 5 B b bs (w.alloc o) := isBuilder_below h ((Below.refl _ _).alloc (Nat.le_refl _) o)
theorem goesTo_more {l : List UInt8} {k : Nat} {c : UInt8} (hc : Tw.order[k]? = some c) (h : Tw.avoids (l ++ [c]) = true) : Tw.goesTo l (k + 1) = Tw.goesTo l k ++ [c] := by
  obtain ⟨hk, e⟩ := List.getElem?_eq_some_iff.1 hc
  have hk4 : k < 4 := hk
  rw [Tw.goesTo_succ l k hk4]
  simp [e, h]
theorem bytes_snoc (l : List UInt8) (c : UInt8) : Lib.byteCells (l ++ [c]) = Lib.byteCells l ++ [.int .u8 c.toNat] := by simp [Lib.byteCells]

theorem cell_alloc_old {w : World} {b j : Nat} (h : b < w.heap.size) (o : Obj) : (w.alloc o).cell? ⟨b, j, none⟩ = w.cell? ⟨b, j, none⟩ := ((Below.refl w.heap.size w).alloc (Nat.le_refl _) o).cell (p := ⟨b, j, none⟩) h
/-- What holds behind a step, if the room for the entry is laid before it or not. -/
theorem goes_step {w5 wr w' w3 : World} {m k b B bb : Nat} {D : DataW Unit} {bs : List Value} {x y : Value} (hw' : (∃ o, w' = wr.drew.alloc o) ∨ w' = wr.drew)
    (hm : wr.ownsMap Tryd.prog 52 (unitElem (H := Unit)) m k D) (hbu : Lib.IsBuilder 59 5 B bb bs wr) (hbr : Below w5.heap.size w5 wr) (hlt : b < wr.heap.size)
    (c0 : wr.cell? ⟨b, 0, none⟩ = some x) (c1 : wr.cell? ⟨b, 1, none⟩ = some y) (hb3 : Below w'.heap.size w' w3) :
    w3.ownsMap Tryd.prog 52 (unitElem (H := Unit)) m k D ∧ Lib.IsBuilder 59 5 B bb bs w3 ∧ Below w5.heap.size w5 w3 ∧ w5.heap.size ≤ w3.heap.size ∧ b < w3.heap.size ∧ w3.cell? ⟨b, 0, none⟩ = some x ∧ w3.cell? ⟨b, 1, none⟩ = some y := by
  have hs := hbr.size
  have h3 : Below wr.heap.size wr w3 := by
    rcases hw' with ⟨o, rfl⟩ | rfl
    · exact ((Below.refl wr.heap.size wr).drew.alloc (Nat.le_refl _) o).trans (hb3.mono (by simp))
    · exact (Below.refl wr.heap.size wr).drew.trans hb3
  have h3s := h3.size
  exact ⟨hm.kept (grown_of_below h3 none) (by simp), isBuilder_below hbu h3, hbr.trans (h3.mono hs), Nat.le_trans hs h3s, by omega, (h3.cell (p := ⟨b, 0, none⟩) hlt).trans c0, (h3.cell (p := ⟨b, 1, none⟩) hlt).trans c1⟩

set_option maxRecDepth 100000 in
set_option maxHeartbeats 6400000 in
theorem implGoesOn_yes (s : ByteArray) (w : World) (hw : DirsAt w) (hav : Tw.avoids s.data.toList = true) (h40 : s.size < 40) :
    Calls Tryd.prog 18 #[.string s] w fun e w' => e = .returned (.string (Tw.str (Tw.goesOn s.data.toList))) ∧ Below w.heap.size w w' := by
  have hs : s.size ≤ 1048576 := by omega
  have hmm := @run_makeMap Tryd.prog
  have HOK := Lib.hid (Tw.avoids_ok hav)
  have HAV := Lib.hid hav
  clear hav
  obtain ⟨ps, hps⟩ : ∃ ps, Tw.places s.data.toList = ps := ⟨_, rfl⟩
  obtain ⟨n, hn⟩ : ∃ n, ps.length = n := ⟨_, rfl⟩
  have hn41 : n ≤ 41 := by rw [← hn, ← hps, Tw.places_length, size_data]; omega
  have hnear : ∀ p ∈ ps, near p := by rw [← hps]; exact places_near _ (by rw [size_data]; omega)
  have HPS := Lib.hid hps
  have HN := Lib.hid hn
  clear hps hn
  go_enter Tryd.func18, Tryd.ntmps18
  go_wp2_with (first
    | (go_at_call 12; refine (implAvoidsOk_is _ _ hs hw true HAV.out).mono ?_; rintro e w1 ⟨rfl, hb1⟩)
    | (go_at_call 46; refine (implPlacesOf _ _ ((hw.below' hb1).alloc _) HOK.out).mono ?_; rw [HPS.out]; rintro e w2 ⟨v, rfl, ⟨g, cap, rfl, hown⟩, hb2⟩))
  rw [HN.out] at hown
  have hg := hown.lt g rfl
  obtain ⟨m, hm⟩ : ∃ m, w1.heap.size = m := ⟨_, rfl⟩
  have hb1s := hb1.size
  have hb2s := hb2.size
  rw [show (w1.alloc (Obj.map #[] 0)).heap.size = m + 1 by rw [← hm]; simp] at hg hb2s
  have hmap : w2.ownsMap Tryd.prog 52 (unitElem (H := Unit)) m 0 (placeSet []) := by
    rw [placeSet_nil, ← hm]
    exact (World.ownsMap_made _ _ _ _).kept (grown_of_below hb2 none) (by simp)
  have hb12 : Below w.heap.size w w2 := (hb1.alloc hb1.size _).trans (hb2.mono (by simp; omega))
  have hwm : w.heap.size ≤ m := by omega
  have hown' : w2.ownsRow (m + 1) 52 2 (.slice (some ⟨g, 0, none⟩) n cap) n (pairCells ps) := by
    have h := hown
    rw [show (w1.alloc (Obj.map #[] 0)).heap.size = m + 1 by rw [← hm]; simp] at h
    exact h
  rw [hm, HN.out]
  clear hown hb1 hb2 hm hb1s
  go_wp2_with fail
  go_loopw [5, 24] (fun _ i wr => ∃ k : Nat, k ≤ n ∧ i = .int .i64 k ∧ wr.ownsMap Tryd.prog 52 (unitElem (H := Unit)) m k (placeSet (ps.take k)) ∧ wr.ownsRow (m + 1) 52 2 (.slice (some ⟨g, 0, none⟩) n cap) n (pairCells ps) ∧ Below w.heap.size w wr ∧ m + 1 ≤ wr.heap.size)
    (fun _ i _ => n - (intOf i).toNat)
  case atStart => exact ⟨0, Nat.zero_le _, rfl, hmap, hown', hb12, by omega⟩
  case round =>
    obtain ⟨k, hk, rfl, hmapk, hownk, hb, hsz⟩ := hrel
    by_cases hlt : k < n
    · obtain ⟨p, hp⟩ : ∃ p, ps[k]? = some p := ⟨ps[k]'(by rw [HN.out]; exact hlt), List.getElem?_eq_getElem (by rw [HN.out]; exact hlt)⟩
      have hnp := hnear p (List.mem_of_getElem? hp)
      obtain ⟨d0, d1⟩ := place_cells hownk hp
      have HKEY := Lib.hid (keyOf_place p hnp)
      have HP := Lib.hid hp
      clear hp
      go_wp2_with (first
        | (at_mapUpdate; refine wpList_mapUpdate_own _ rfl _ _ _ 55 rfl 52 56 placeLaw Tryd.underlying55 (unitElem (H := Unit)) m k _ rfl (hmapk.alloc _) (by unfold maxLen; omega) _ _ _ rfl rfl HKEY.out _ [] unitElem_mk ?_; intro w3 hmap3 hgrow3))
      have s3 := hgrow3.size
      go_roundw
      case rel =>
        refine ⟨k + 1, by omega, by go_num, ?_, ?_, ?_, ?_⟩
        · rw [List.take_add_one, HP.out]
          rw [show (ps.take k ++ (some p).toList) = ps.take k ++ [p] from rfl, placeSet_snoc]
          exact hmap3
        · exact (hownk.alloc _).kept hgrow3 (by simp [Value.ownBlock]; omega)
        · exact (hb.alloc hb.size _).grown hgrow3 (by simp; omega) (fun j hj => by cases hj; exact hwm)
        · simp at s3; omega
      case measure => simp [intOf]; omega
    · obtain rfl : k = n := by omega
      rw [List.take_of_length_le (by rw [HN.out]; exact Nat.le_refl _)] at hmapk
      go_wp2_with (first
        | (go_at_call 50; refine (implEndOf _ _ (hw.below' hb) HOK.out).mono ?_; rintro e w4 ⟨rfl, hb4⟩))
      have hs4 := hb4.size
      have hsr := hb.size
      have hb05 : Below w.heap.size w w4 := hb.trans (hb4.mono hsr)
      have hd4 := hw.below' hb05
      have hmap4 := hmapk.kept (grown_of_below hb4 none) (by simp)
      obtain ⟨q, hq⟩ : ∃ q, Tw.endOf s.data.toList = q := ⟨_, rfl⟩
      have hq1 : q = Tw.placeAt s.data.toList s.size := by rw [← hq, ← size_data, Tw.placeAt_all]
      have hqr := Tw.placeAt_range s.data.toList s.size
      rw [← hq1] at hqr
      rw [hq]
      have HQ := Lib.hid hq
      clear hq hq1 hmapk hownk hmap hown' hb4 hb12
      go_wp2_with fail
      obtain ⟨w5, h5⟩ : ∃ w5, w4.alloc (.cells #[.int .i64 q.1, .int .i64 q.2] 52) = w5 := ⟨_, rfl⟩
      have hmap5 : w5.ownsMap Tryd.prog 52 (unitElem (H := Unit)) m k (placeSet ps) := by
        rw [← h5]
        exact hmap4.alloc _
      have hrow5 : w5.heap[w4.heap.size]? = some (.cells #[.int .i64 q.1, .int .i64 q.2] 52 (0, 0)) := by
        rw [← h5]
        exact heap_alloc_new w4 _
      have hsz5 : w5.heap.size = w4.heap.size + 1 := by rw [← h5]; simp
      have hb5 : Below w.heap.size w w5 := by
        rw [← h5]
        exact hb05.alloc (by omega) _
      rw [h5, ← hsz5]
      have hlt5 : w4.heap.size < w5.heap.size := by omega
      obtain ⟨b, hbb⟩ : ∃ b, w4.heap.size = b := ⟨_, rfl⟩
      rw [hbb] at hrow5 hlt5 hs4 ⊢
      have hbu := Lib.fresh_isBuilder 59 5 w5
      have hd5 := hw.below' hb5
      have HROW := Lib.hid hrow5
      have hmb : m < w5.heap.size := hmap5.lt
      clear h5 hmap4 hb05 hd4 hsz5 hbb hrow5 hb hs4 hsr
      go_loopw [8] (fun i wr => ∃ j : Nat, j ≤ 4 ∧ i = .int .i64 j ∧ Below w5.heap.size w5 wr ∧ w5.heap.size ≤ wr.heap.size ∧ Lib.IsBuilder 59 5 w5.heap.size w5.heap.size (Lib.byteCells (Tw.goesTo s.data.toList j)) wr)
        (fun i _ => 4 - (intOf i).toNat)
      case atStart => exact ⟨0, Nat.zero_le _, rfl, (Below.refl _ _).alloc (Nat.le_refl _) _, by simp, hbu⟩
      case round =>
        obtain ⟨j, hj, rfl, hbr, hszr, hbuj⟩ := hrel
        by_cases hlt4 : j < 4
        · obtain ⟨c, hc, hj4⟩ : ∃ c, Tw.order[j]? = some c ∧ ((j = 0 ∧ c = 101) ∨ (j = 1 ∧ c = 110) ∨ (j = 2 ∧ c = 115) ∨ (j = 3 ∧ c = 119)) := by
            obtain rfl | rfl | rfl | rfl : j = 0 ∨ j = 1 ∨ j = 2 ∨ j = 3 := by omega
            · exact ⟨101, rfl, by simp⟩
            · exact ⟨110, rfl, by simp⟩
            · exact ⟨115, rfl, by simp⟩
            · exact ⟨119, rfl, by simp⟩
          have hdc : 0 ≤ Tw.dir c := by
            rcases hj4 with ⟨_, rfl⟩ | ⟨_, rfl⟩ | ⟨_, rfl⟩ | ⟨_, rfl⟩ <;> decide
          have hd3 := (Tw.dir_range c).2
          have hr2 : near (q.1 + Tw.east (Tw.dir c), q.2 + Tw.north (Tw.dir c)) := by
            unfold near Tw.east Tw.north
            split <;> split <;> omega
          have hx2 : -1000000 ≤ q.1 ∧ q.1 ≤ 1000000 := ⟨by omega, by omega⟩
          have hy2 : -1000000 ≤ q.2 ∧ q.2 ≤ 1000000 := ⟨by omega, by omega⟩
          have hrowr : wr.heap[b]? = some (.cells #[.int .i64 q.1, .int .i64 q.2] 52 (0, 0)) := (hbr.block _ hlt5).trans HROW.out
          have hmapr : wr.ownsMap Tryd.prog 52 (unitElem (H := Unit)) m k (placeSet ps) := hmap5.kept (grown_of_below hbr none) (by simp)
          have hdr := hd5.below' hbr
          have c0 : wr.cell? ⟨b, 0, none⟩ = some (.int .i64 q.1) := cell_of_row _ _ _ _ _ _ hrowr
          have c1 : wr.cell? ⟨b, 1, none⟩ = some (.int .i64 q.2) := cell_of_row _ _ _ _ _ _ hrowr
          have hgl := Tw.goesTo_len s.data.toList j
          have ha := Tw.avoids_snoc (c := c) HAV.out (by rw [size_data]; exact h40) hdc
          rw [HPS.out, HQ.out, step_eq, ← has_place hnear hr2] at ha
          have HKEY := Lib.hid (keyOf_place _ hr2)
          have HC := Lib.hid hc
          have HA := Lib.hid ha
          have HROWR := Lib.hid hrowr
          clear hc ha hrowr
          have hlt0 : b < wr.heap.size := by omega
          cases hhas : Maps.has (placeSet ps) (placeKey (q.1 + Tw.east (Tw.dir c), q.2 + Tw.north (Tw.dir c)))
          all_goals
            have HHAS := Lib.hid hhas
            clear hhas
            rw [HHAS.out] at HA
          · rcases hj4 with ⟨rfl, rfl⟩ | ⟨rfl, rfl⟩ | ⟨rfl, rfl⟩ | ⟨rfl, rfl⟩
            · go_wp2_with fail
              go_region_held3 (fun w' => w'.cell? ⟨b, 0, none⟩ = some (.int .i64 q.1) ∧ w'.cell? ⟨b, 1, none⟩ = some (.int .i64 q.2) ∧ (Instr.lookup 55 (.map (some m)) (.agg #[.int .i64 (q.1 + Tw.east (Tw.dir 101)), .int .i64 (q.2 + Tw.north (Tw.dir 101))]) true).run Tryd.prog w' = .ok (.tuple #[.agg #[], .bool false]) w')
                (first
                  | (refine ⟨c0, c1, look_run hmapr.drew HKEY.out HHAS.out⟩)
                  | (refine ⟨(cell_alloc_old hlt0 _).trans c0, (cell_alloc_old hlt0 _).trans c1, look_run (hmapr.drew.alloc _) HKEY.out HHAS.out⟩)
                  | (refine ⟨k0, k1, look_run hmap3 HKEY.out HHAS.out⟩)
                  | (refine ⟨(cell_alloc_old hlt3 _).trans k0, (cell_alloc_old hlt3 _).trans k1, look_run (hmap3.alloc _) HKEY.out HHAS.out⟩))
                (first
                  | (go_at_call 51; refine (dirOf_any 101 _).mono ?_; rintro e w' ⟨rfl, rfl⟩)
                  | (go_at_call 52; refine (stepped_any q.1 q.2 _ _ (by first | exact hdr.drew | exact hdr.drew.alloc _) hdc hd3 hx2 hy2).mono ?_; rintro e w3 ⟨rfl, hb3⟩; obtain ⟨hmap3, hbu3, hB3, hsz3, hlt3, k0, k1⟩ := goes_step (by first | exact .inr rfl | exact .inl ⟨_, rfl⟩) hmapr hbuj hbr hlt0 c0 c1 hb3))
              all_goals
                go_wp2_with (first
                  | (go_at_call 53; first | (refine (writeByte_any w5.heap.size w5.heap.size _ 101 _ hbu3 (by simp [Lib.byteCells]; omega) hsz3).mono ?_; rintro e w6 ⟨rfl, hbu6, hb6⟩; have hb7 := hB3.trans hb6) | (refine (writeByte_any w5.heap.size w5.heap.size _ 101 _ (builder_alloc hbu3 _) (by simp [Lib.byteCells]; omega) (by simp; omega)).mono ?_; rintro e w6 ⟨rfl, hbu6, hb6⟩; have hb7 := (hB3.alloc hsz3 _).trans hb6)))
                go_roundw
                case rel => exact ⟨_ + 1, by omega, rfl, hb7, hb7.size, by rw [goesTo_more HC.out HA.out, bytes_snoc]; exact .inr hbu6⟩
                case measure => simp [intOf]
            · go_wp2_with fail
              go_region_held3 (fun w' => w'.cell? ⟨b, 0, none⟩ = some (.int .i64 q.1) ∧ w'.cell? ⟨b, 1, none⟩ = some (.int .i64 q.2) ∧ (Instr.lookup 55 (.map (some m)) (.agg #[.int .i64 (q.1 + Tw.east (Tw.dir 110)), .int .i64 (q.2 + Tw.north (Tw.dir 110))]) true).run Tryd.prog w' = .ok (.tuple #[.agg #[], .bool false]) w')
                (first
                  | (refine ⟨c0, c1, look_run hmapr.drew HKEY.out HHAS.out⟩)
                  | (refine ⟨(cell_alloc_old hlt0 _).trans c0, (cell_alloc_old hlt0 _).trans c1, look_run (hmapr.drew.alloc _) HKEY.out HHAS.out⟩)
                  | (refine ⟨k0, k1, look_run hmap3 HKEY.out HHAS.out⟩)
                  | (refine ⟨(cell_alloc_old hlt3 _).trans k0, (cell_alloc_old hlt3 _).trans k1, look_run (hmap3.alloc _) HKEY.out HHAS.out⟩))
                (first
                  | (go_at_call 51; refine (dirOf_any 110 _).mono ?_; rintro e w' ⟨rfl, rfl⟩)
                  | (go_at_call 52; refine (stepped_any q.1 q.2 _ _ (by first | exact hdr.drew | exact hdr.drew.alloc _) hdc hd3 hx2 hy2).mono ?_; rintro e w3 ⟨rfl, hb3⟩; obtain ⟨hmap3, hbu3, hB3, hsz3, hlt3, k0, k1⟩ := goes_step (by first | exact .inr rfl | exact .inl ⟨_, rfl⟩) hmapr hbuj hbr hlt0 c0 c1 hb3))
              all_goals
                go_wp2_with (first
                  | (go_at_call 53; first | (refine (writeByte_any w5.heap.size w5.heap.size _ 110 _ hbu3 (by simp [Lib.byteCells]; omega) hsz3).mono ?_; rintro e w6 ⟨rfl, hbu6, hb6⟩; have hb7 := hB3.trans hb6) | (refine (writeByte_any w5.heap.size w5.heap.size _ 110 _ (builder_alloc hbu3 _) (by simp [Lib.byteCells]; omega) (by simp; omega)).mono ?_; rintro e w6 ⟨rfl, hbu6, hb6⟩; have hb7 := (hB3.alloc hsz3 _).trans hb6)))
                go_roundw
                case rel => exact ⟨_ + 1, by omega, rfl, hb7, hb7.size, by rw [goesTo_more HC.out HA.out, bytes_snoc]; exact .inr hbu6⟩
                case measure => simp [intOf]
            · go_wp2_with fail
              go_region_held3 (fun w' => w'.cell? ⟨b, 0, none⟩ = some (.int .i64 q.1) ∧ w'.cell? ⟨b, 1, none⟩ = some (.int .i64 q.2) ∧ (Instr.lookup 55 (.map (some m)) (.agg #[.int .i64 (q.1 + Tw.east (Tw.dir 115)), .int .i64 (q.2 + Tw.north (Tw.dir 115))]) true).run Tryd.prog w' = .ok (.tuple #[.agg #[], .bool false]) w')
                (first
                  | (refine ⟨c0, c1, look_run hmapr.drew HKEY.out HHAS.out⟩)
                  | (refine ⟨(cell_alloc_old hlt0 _).trans c0, (cell_alloc_old hlt0 _).trans c1, look_run (hmapr.drew.alloc _) HKEY.out HHAS.out⟩)
                  | (refine ⟨k0, k1, look_run hmap3 HKEY.out HHAS.out⟩)
                  | (refine ⟨(cell_alloc_old hlt3 _).trans k0, (cell_alloc_old hlt3 _).trans k1, look_run (hmap3.alloc _) HKEY.out HHAS.out⟩))
                (first
                  | (go_at_call 51; refine (dirOf_any 115 _).mono ?_; rintro e w' ⟨rfl, rfl⟩)
                  | (go_at_call 52; refine (stepped_any q.1 q.2 _ _ (by first | exact hdr.drew | exact hdr.drew.alloc _) hdc hd3 hx2 hy2).mono ?_; rintro e w3 ⟨rfl, hb3⟩; obtain ⟨hmap3, hbu3, hB3, hsz3, hlt3, k0, k1⟩ := goes_step (by first | exact .inr rfl | exact .inl ⟨_, rfl⟩) hmapr hbuj hbr hlt0 c0 c1 hb3))
              all_goals
                go_wp2_with (first
                  | (go_at_call 53; first | (refine (writeByte_any w5.heap.size w5.heap.size _ 115 _ hbu3 (by simp [Lib.byteCells]; omega) hsz3).mono ?_; rintro e w6 ⟨rfl, hbu6, hb6⟩; have hb7 := hB3.trans hb6) | (refine (writeByte_any w5.heap.size w5.heap.size _ 115 _ (builder_alloc hbu3 _) (by simp [Lib.byteCells]; omega) (by simp; omega)).mono ?_; rintro e w6 ⟨rfl, hbu6, hb6⟩; have hb7 := (hB3.alloc hsz3 _).trans hb6)))
                go_roundw
                case rel => exact ⟨_ + 1, by omega, rfl, hb7, hb7.size, by rw [goesTo_more HC.out HA.out, bytes_snoc]; exact .inr hbu6⟩
                case measure => simp [intOf]
            · go_wp2_with fail
              go_region_held3 (fun w' => w'.cell? ⟨b, 0, none⟩ = some (.int .i64 q.1) ∧ w'.cell? ⟨b, 1, none⟩ = some (.int .i64 q.2) ∧ (Instr.lookup 55 (.map (some m)) (.agg #[.int .i64 (q.1 + Tw.east (Tw.dir 119)), .int .i64 (q.2 + Tw.north (Tw.dir 119))]) true).run Tryd.prog w' = .ok (.tuple #[.agg #[], .bool false]) w')
                (first
                  | (refine ⟨c0, c1, look_run hmapr.drew HKEY.out HHAS.out⟩)
                  | (refine ⟨(cell_alloc_old hlt0 _).trans c0, (cell_alloc_old hlt0 _).trans c1, look_run (hmapr.drew.alloc _) HKEY.out HHAS.out⟩)
                  | (refine ⟨k0, k1, look_run hmap3 HKEY.out HHAS.out⟩)
                  | (refine ⟨(cell_alloc_old hlt3 _).trans k0, (cell_alloc_old hlt3 _).trans k1, look_run (hmap3.alloc _) HKEY.out HHAS.out⟩))
                (first
                  | (go_at_call 51; refine (dirOf_any 119 _).mono ?_; rintro e w' ⟨rfl, rfl⟩)
                  | (go_at_call 52; refine (stepped_any q.1 q.2 _ _ (by first | exact hdr.drew | exact hdr.drew.alloc _) hdc hd3 hx2 hy2).mono ?_; rintro e w3 ⟨rfl, hb3⟩; obtain ⟨hmap3, hbu3, hB3, hsz3, hlt3, k0, k1⟩ := goes_step (by first | exact .inr rfl | exact .inl ⟨_, rfl⟩) hmapr hbuj hbr hlt0 c0 c1 hb3))
              all_goals
                go_wp2_with (first
                  | (go_at_call 53; first | (refine (writeByte_any w5.heap.size w5.heap.size _ 119 _ hbu3 (by simp [Lib.byteCells]; omega) hsz3).mono ?_; rintro e w6 ⟨rfl, hbu6, hb6⟩; have hb7 := hB3.trans hb6) | (refine (writeByte_any w5.heap.size w5.heap.size _ 119 _ (builder_alloc hbu3 _) (by simp [Lib.byteCells]; omega) (by simp; omega)).mono ?_; rintro e w6 ⟨rfl, hbu6, hb6⟩; have hb7 := (hB3.alloc hsz3 _).trans hb6)))
                go_roundw
                case rel => exact ⟨_ + 1, by omega, rfl, hb7, hb7.size, by rw [goesTo_more HC.out HA.out, bytes_snoc]; exact .inr hbu6⟩
                case measure => simp [intOf]
          · rcases hj4 with ⟨rfl, rfl⟩ | ⟨rfl, rfl⟩ | ⟨rfl, rfl⟩ | ⟨rfl, rfl⟩
            · go_wp2_with fail
              go_region_held3 (fun w' => w'.cell? ⟨b, 0, none⟩ = some (.int .i64 q.1) ∧ w'.cell? ⟨b, 1, none⟩ = some (.int .i64 q.2) ∧ (Instr.lookup 55 (.map (some m)) (.agg #[.int .i64 (q.1 + Tw.east (Tw.dir 101)), .int .i64 (q.2 + Tw.north (Tw.dir 101))]) true).run Tryd.prog w' = .ok (.tuple #[.agg #[], .bool true]) w')
                (first
                  | (refine ⟨c0, c1, look_run hmapr.drew HKEY.out HHAS.out⟩)
                  | (refine ⟨(cell_alloc_old hlt0 _).trans c0, (cell_alloc_old hlt0 _).trans c1, look_run (hmapr.drew.alloc _) HKEY.out HHAS.out⟩)
                  | (refine ⟨k0, k1, look_run hmap3 HKEY.out HHAS.out⟩)
                  | (refine ⟨(cell_alloc_old hlt3 _).trans k0, (cell_alloc_old hlt3 _).trans k1, look_run (hmap3.alloc _) HKEY.out HHAS.out⟩))
                (first
                  | (go_at_call 51; refine (dirOf_any 101 _).mono ?_; rintro e w' ⟨rfl, rfl⟩)
                  | (go_at_call 52; refine (stepped_any q.1 q.2 _ _ (by first | exact hdr.drew | exact hdr.drew.alloc _) hdc hd3 hx2 hy2).mono ?_; rintro e w3 ⟨rfl, hb3⟩; obtain ⟨hmap3, hbu3, hB3, hsz3, hlt3, k0, k1⟩ := goes_step (by first | exact .inr rfl | exact .inl ⟨_, rfl⟩) hmapr hbuj hbr hlt0 c0 c1 hb3))
              all_goals
                go_wp2
                go_roundw
                case rel =>
                  first
                    | exact ⟨_ + 1, by omega, rfl, hB3, hB3.size, by rw [goesTo_not HC.out HA.out]; exact hbu3⟩
                    | exact ⟨_ + 1, by omega, rfl, hB3.alloc hsz3 _, by simp; omega, by rw [goesTo_not HC.out HA.out]; exact builder_alloc hbu3 _⟩
                case measure => simp [intOf]
            · go_wp2_with fail
              go_region_held3 (fun w' => w'.cell? ⟨b, 0, none⟩ = some (.int .i64 q.1) ∧ w'.cell? ⟨b, 1, none⟩ = some (.int .i64 q.2) ∧ (Instr.lookup 55 (.map (some m)) (.agg #[.int .i64 (q.1 + Tw.east (Tw.dir 110)), .int .i64 (q.2 + Tw.north (Tw.dir 110))]) true).run Tryd.prog w' = .ok (.tuple #[.agg #[], .bool true]) w')
                (first
                  | (refine ⟨c0, c1, look_run hmapr.drew HKEY.out HHAS.out⟩)
                  | (refine ⟨(cell_alloc_old hlt0 _).trans c0, (cell_alloc_old hlt0 _).trans c1, look_run (hmapr.drew.alloc _) HKEY.out HHAS.out⟩)
                  | (refine ⟨k0, k1, look_run hmap3 HKEY.out HHAS.out⟩)
                  | (refine ⟨(cell_alloc_old hlt3 _).trans k0, (cell_alloc_old hlt3 _).trans k1, look_run (hmap3.alloc _) HKEY.out HHAS.out⟩))
                (first
                  | (go_at_call 51; refine (dirOf_any 110 _).mono ?_; rintro e w' ⟨rfl, rfl⟩)
                  | (go_at_call 52; refine (stepped_any q.1 q.2 _ _ (by first | exact hdr.drew | exact hdr.drew.alloc _) hdc hd3 hx2 hy2).mono ?_; rintro e w3 ⟨rfl, hb3⟩; obtain ⟨hmap3, hbu3, hB3, hsz3, hlt3, k0, k1⟩ := goes_step (by first | exact .inr rfl | exact .inl ⟨_, rfl⟩) hmapr hbuj hbr hlt0 c0 c1 hb3))
              all_goals
                go_wp2
                go_roundw
                case rel =>
                  first
                    | exact ⟨_ + 1, by omega, rfl, hB3, hB3.size, by rw [goesTo_not HC.out HA.out]; exact hbu3⟩
                    | exact ⟨_ + 1, by omega, rfl, hB3.alloc hsz3 _, by simp; omega, by rw [goesTo_not HC.out HA.out]; exact builder_alloc hbu3 _⟩
                case measure => simp [intOf]
            · go_wp2_with fail
              go_region_held3 (fun w' => w'.cell? ⟨b, 0, none⟩ = some (.int .i64 q.1) ∧ w'.cell? ⟨b, 1, none⟩ = some (.int .i64 q.2) ∧ (Instr.lookup 55 (.map (some m)) (.agg #[.int .i64 (q.1 + Tw.east (Tw.dir 115)), .int .i64 (q.2 + Tw.north (Tw.dir 115))]) true).run Tryd.prog w' = .ok (.tuple #[.agg #[], .bool true]) w')
                (first
                  | (refine ⟨c0, c1, look_run hmapr.drew HKEY.out HHAS.out⟩)
                  | (refine ⟨(cell_alloc_old hlt0 _).trans c0, (cell_alloc_old hlt0 _).trans c1, look_run (hmapr.drew.alloc _) HKEY.out HHAS.out⟩)
                  | (refine ⟨k0, k1, look_run hmap3 HKEY.out HHAS.out⟩)
                  | (refine ⟨(cell_alloc_old hlt3 _).trans k0, (cell_alloc_old hlt3 _).trans k1, look_run (hmap3.alloc _) HKEY.out HHAS.out⟩))
                (first
                  | (go_at_call 51; refine (dirOf_any 115 _).mono ?_; rintro e w' ⟨rfl, rfl⟩)
                  | (go_at_call 52; refine (stepped_any q.1 q.2 _ _ (by first | exact hdr.drew | exact hdr.drew.alloc _) hdc hd3 hx2 hy2).mono ?_; rintro e w3 ⟨rfl, hb3⟩; obtain ⟨hmap3, hbu3, hB3, hsz3, hlt3, k0, k1⟩ := goes_step (by first | exact .inr rfl | exact .inl ⟨_, rfl⟩) hmapr hbuj hbr hlt0 c0 c1 hb3))
              all_goals
                go_wp2
                go_roundw
                case rel =>
                  first
                    | exact ⟨_ + 1, by omega, rfl, hB3, hB3.size, by rw [goesTo_not HC.out HA.out]; exact hbu3⟩
                    | exact ⟨_ + 1, by omega, rfl, hB3.alloc hsz3 _, by simp; omega, by rw [goesTo_not HC.out HA.out]; exact builder_alloc hbu3 _⟩
                case measure => simp [intOf]
            · go_wp2_with fail
              go_region_held3 (fun w' => w'.cell? ⟨b, 0, none⟩ = some (.int .i64 q.1) ∧ w'.cell? ⟨b, 1, none⟩ = some (.int .i64 q.2) ∧ (Instr.lookup 55 (.map (some m)) (.agg #[.int .i64 (q.1 + Tw.east (Tw.dir 119)), .int .i64 (q.2 + Tw.north (Tw.dir 119))]) true).run Tryd.prog w' = .ok (.tuple #[.agg #[], .bool true]) w')
                (first
                  | (refine ⟨c0, c1, look_run hmapr.drew HKEY.out HHAS.out⟩)
                  | (refine ⟨(cell_alloc_old hlt0 _).trans c0, (cell_alloc_old hlt0 _).trans c1, look_run (hmapr.drew.alloc _) HKEY.out HHAS.out⟩)
                  | (refine ⟨k0, k1, look_run hmap3 HKEY.out HHAS.out⟩)
                  | (refine ⟨(cell_alloc_old hlt3 _).trans k0, (cell_alloc_old hlt3 _).trans k1, look_run (hmap3.alloc _) HKEY.out HHAS.out⟩))
                (first
                  | (go_at_call 51; refine (dirOf_any 119 _).mono ?_; rintro e w' ⟨rfl, rfl⟩)
                  | (go_at_call 52; refine (stepped_any q.1 q.2 _ _ (by first | exact hdr.drew | exact hdr.drew.alloc _) hdc hd3 hx2 hy2).mono ?_; rintro e w3 ⟨rfl, hb3⟩; obtain ⟨hmap3, hbu3, hB3, hsz3, hlt3, k0, k1⟩ := goes_step (by first | exact .inr rfl | exact .inl ⟨_, rfl⟩) hmapr hbuj hbr hlt0 c0 c1 hb3))
              all_goals
                go_wp2
                go_roundw
                case rel =>
                  first
                    | exact ⟨_ + 1, by omega, rfl, hB3, hB3.size, by rw [goesTo_not HC.out HA.out]; exact hbu3⟩
                    | exact ⟨_ + 1, by omega, rfl, hB3.alloc hsz3 _, by simp; omega, by rw [goesTo_not HC.out HA.out]; exact builder_alloc hbu3 _⟩
                case measure => simp [intOf]
        · obtain rfl : j = 4 := by omega
          go_wp2_with (first
            | (go_at_call 54; refine (Tryd.Builder_String_any w5.heap.size w5.heap.size _ _ hbuj hszr).mono ?_; rintro e w6 ⟨rfl, hb6⟩))
          go_ret
          refine ⟨ret_str (by rw [goes_yes HAV.out (by rw [size_data]; exact h40)]; rfl), ?_⟩
          have hbx := hbr.trans hb6
          exact hb5.trans (hbx.mono hb5.size)

set_option maxHeartbeats 800000 in
theorem implGoesOn (s : ByteArray) (w : World) (hs : s.size ≤ 1048576) (hw : DirsAt w) :
    Calls Tryd.prog 18 #[.string s] w fun e w' => e = .returned (.string (Tw.str (Tw.goesOn s.data.toList))) ∧ Below w.heap.size w w' := by
  cases hav : Tw.avoids s.data.toList
  · have HAV := Lib.hid hav
    have HN := Lib.hid (goes_no hav)
    clear hav
    go_enter Tryd.func18, Tryd.ntmps18
    go_wp2_with (first | (go_at_call 12; refine (implAvoidsOk_is _ _ hs hw false HAV.out).mono ?_; rintro e w1 ⟨rfl, hb1⟩))
    go_ret
    exact ⟨ret_str (by rw [HN.out]; rfl), hb1⟩
  · by_cases h40 : s.size < 40
    · exact implGoesOn_yes s w hw hav h40
    · have h40' : 40 ≤ s.size := by omega
      have HAV := Lib.hid hav
      have HN := Lib.hid (goes_full (l := s.data.toList) (by rw [size_data]; exact h40'))
      clear hav h40
      go_enter Tryd.func18, Tryd.ntmps18
      go_wp2_with (first | (go_at_call 12; refine (implAvoidsOk_is _ _ hs hw true HAV.out).mono ?_; rintro e w1 ⟨rfl, hb1⟩))
      go_ret
      exact ⟨ret_str (by rw [HN.out]; rfl), hb1⟩

set_option maxHeartbeats 800000 in
theorem implCaughtOk (s : ByteArray) (w : World) (hs : s.size ≤ 1048576) (hw : DirsAt w) :
    Calls Tryd.prog 24 #[.string s] w fun e w' => e = .returned (.bool (Tw.caught s.data.toList)) ∧ Below w.heap.size w w' := by
  cases hav : Tw.avoids s.data.toList
  · have HAV := Lib.hid hav
    clear hav
    go_enter Tryd.func24, Tryd.ntmps24
    go_wp2_with (first | (go_at_call 12; refine (implAvoidsOk_is _ _ hs hw false HAV.out).mono ?_; rintro e w1 ⟨rfl, hb1⟩))
    go_ret
    exact ⟨ret_bool (by simp [Tw.caught, HAV.out]), hb1⟩
  · by_cases h40 : s.size < 40
    · have HG := Lib.hid (fun (W : World) (hW : DirsAt W) => implGoesOn_yes s W hW hav h40)
      have HAV := Lib.hid hav
      clear hav
      obtain ⟨b, hb⟩ : ∃ b, (Tw.goesOn s.data.toList).isEmpty = b := ⟨_, rfl⟩
      have HB := Lib.hid (caught_eq _ b hb)
      obtain ⟨t, ht⟩ : ∃ t, Tw.str (Tw.goesOn s.data.toList) = t := ⟨_, rfl⟩
      have htb : t.toList.isEmpty = b := by rw [Lib.toList_data, ← ht, Tw.str_data]; exact hb
      rw [ht] at HG
      clear ht hb
      go_enter Tryd.func24, Tryd.ntmps24
      go_wp2_with (first
        | (go_at_call 12; refine (implAvoidsOk_is _ _ hs hw true HAV.out).mono ?_; rintro e w1 ⟨rfl, hb1⟩)
        | (go_at_call 18; refine (HG.out _ (hw.below' hb1)).mono ?_; rintro e w2 ⟨rfl, hb2⟩))
      go_ret
      refine ⟨ret_bool ?_, hb1.trans (hb2.mono hb1.size)⟩
      rw [HB.out, HAV.out, size_data]
      simp [h40]
    · have HAV := Lib.hid hav
      clear hav
      go_enter Tryd.func24, Tryd.ntmps24
      go_wp2_with (first | (go_at_call 12; refine (implAvoidsOk_is _ _ hs hw true HAV.out).mono ?_; rintro e w1 ⟨rfl, hb1⟩))
      go_ret
      exact ⟨ret_bool (by rw [Tw.caught, size_data]; simp; omega), hb1⟩

end Go.Proofs.YtaafaangfocbcaaDoor
