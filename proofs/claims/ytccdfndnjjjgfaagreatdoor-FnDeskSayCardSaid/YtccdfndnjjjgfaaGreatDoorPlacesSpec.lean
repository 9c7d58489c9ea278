/-
  The contract of the reference's PlacesOf: a row of slices, a block of two numbers a place.
-/
import Derived.Test.YtccdfndnjjjgfaaGreatDoorPlacesOf
import Derived.BigQuiet
import Derived.Deep.QuietTactic
namespace Go.Proofs.YtccdfndnjjjgfaaGreatDoor
open Go.RowKit

def rowVal (b : Nat) : Value := .slice (some ⟨b, 0, none⟩) 2 2
def pairBlock (p : Int × Int) : Obj := .cells #[.int .i64 p.1, .int .i64 p.2] 3
/-- A slice of slices: the places, each in a block of its own. -/
def RowsIn (w : World) (base : Nat) (v : Value) (ps : List (Int × Int)) : Prop :=
  ∃ g cap, ∃ bs : List Nat, v = .slice (some ⟨g, 0, none⟩) ps.length cap ∧ bs.length = ps.length ∧ w.ownsRow base 77 1 v ps.length (bs.map rowVal) ∧
    ∀ (i : Nat) (p : Int × Int) (b : Nat), ps[i]? = some p → bs[i]? = some b → w.heap[b]? = some (pairBlock p)

theorem rowsInfo : (Tryz.prog.info? 77).map (fun i => (i.zero, i.size, i.bytes)) = some (some (.slice none 0 0), 1, 24) := by kernel_rfl

theorem own_block {w : World} {base : Nat} {e : TypeId} {size n : Nat} {g : Nat} {len cap : Nat} {xs : List Value} (h : w.ownsRow base e size (.slice (some ⟨g, 0, none⟩) len cap) n xs) : ∃ cur, w.heap[g]? = some (.cells cur e (0, 0)) := by
  rcases h.2 with ⟨h', _⟩ | ⟨g', cap', cur, h', _, hh, _⟩
  · cases h'
  · cases h'
    exact ⟨cur, hh⟩
theorem pair_ne {w : World} {base size n g len cap b : Nat} {xs : List Value} {p : Int × Int} (h : w.ownsRow base 77 size (.slice (some ⟨g, 0, none⟩) len cap) n xs) (hb : w.heap[b]? = some (pairBlock p)) : g ≠ b := by
  rintro rfl
  obtain ⟨cur, hc⟩ := own_block h
  rw [hb] at hc
  simp [pairBlock] at hc
theorem lt_of_heap {w : World} {b : Nat} {o : Obj} (h : w.heap[b]? = some o) : b < w.heap.size := (Array.getElem?_eq_some_iff.1 h).1
theorem pair_cells {w : World} {b : Nat} {p : Int × Int} (h : w.heap[b]? = some (pairBlock p)) : w.cell? ⟨b, 0, none⟩ = some (.int .i64 p.1) ∧ w.cell? ⟨b, 1, none⟩ = some (.int .i64 p.2) :=
  ⟨cell_of_row w b 0 _ _ _ h, cell_of_row w b 1 _ _ _ h⟩
theorem row_cell {w : World} {base g n cap : Nat} {bs : List Nat} (h : w.ownsRow base 77 1 (.slice (some ⟨g, 0, none⟩) n cap) n (bs.map rowVal)) {i b : Nat} (hb : bs[i]? = some b) :
    w.cell? ⟨g, i, none⟩ = some (rowVal b) := by
  have a1 := h.cells (g := g) rfl i (rowVal b) (by simp [hb])
  have ha : ∀ j, (⟨g, 0, none⟩ : Addr).add j = ⟨g, j, none⟩ := fun j => by unfold Addr.add; split <;> simp_all
  rwa [ha] at a1

theorem rows_step {wr wE wN w2 : World} {base g n cap : Nat} {xs : List Value} {ps : List (Int × Int)} {bs : List Nat} {q : Int × Int} {O : Obj}
    (HB : ∀ (i : Nat) (p : Int × Int) (b : Nat), ps[i]? = some p → bs[i]? = some b → wr.heap[b]? = some (pairBlock p)) (hown : wr.ownsRow base 77 1 (.slice (some ⟨g, 0, none⟩) n cap) n xs)
    (hbE : Below wr.drew.heap.size wr.drew wE) (hbN : Below wE.heap.size wE wN) (hgr : ((wN.alloc (pairBlock q)).alloc O).grownBy w2 (some g)) (hl : bs.length = ps.length) :
    ∀ (i : Nat) (p : Int × Int) (b : Nat), (ps ++ [q])[i]? = some p → (bs ++ [wN.heap.size])[i]? = some b → w2.heap[b]? = some (pairBlock p) := by
  intro i p b hp hb
  have s1 : wr.heap.size ≤ wE.heap.size := hbE.size
  have s2 := hbN.size
  have s3 : g < wr.heap.size := (hown.lt g rfl).2
  by_cases hi : i < ps.length
  · rw [List.getElem?_append_left hi] at hp
    rw [List.getElem?_append_left (by omega)] at hb
    have old := HB i p b hp hb
    have ne := pair_ne hown old
    have lt := lt_of_heap old
    rw [hgr.block b (by simp; omega) (by simp; omega), Below.heap_alloc _ _ _ (by simp; omega), Below.heap_alloc _ _ _ (by omega), hbN.block b (by omega), hbE.block b lt]
    exact old
  · have hi2 : i = ps.length := by
      have := (List.getElem?_eq_some_iff.1 hp).1
      simp at this
      omega
    subst hi2
    rw [List.getElem?_append_right (Nat.le_refl _)] at hp
    rw [List.getElem?_append_right (by omega)] at hb
    simp at hp
    simp [hl] at hb
    subst hp
    subst hb
    rw [hgr.block _ (by simp; omega) (by simp; omega)]
    exact heap_alloc2_old _ _ _

set_option maxRecDepth 100000 in
set_option maxHeartbeats 3200000 in
theorem specPlacesOf (s : ByteArray) (w : World) (hs : s.size ≤ 1048576) (hok : Tw.walkOk s.data.toList = true) :
    Calls Tryz.prog 50 #[.string s] w fun e w' => ∃ v, e = .returned v ∧ RowsIn w' w.heap.size v (Tw.places s.data.toList) ∧ Below w.heap.size w w' := by
  have HOK := Lib.hid hok
  clear hok
  have h40 : s.size ≤ 40 := by have := Tw.walkOk_len HOK.out; rwa [size_data] at this
  obtain ⟨i0, hi0, hz0, hz1, hz2⟩ := info_parts rowsInfo
  go_enter Tryz.func50, Tryz.ntmps50
  go_wp2_with (first
    | (go_at_call 65; refine (specWalkOk_is _ _ hs true HOK.out).mono ?_; rintro e w' ⟨rfl, rfl⟩))
  go_loopw [3, 4, 5, 6] (fun v i _ _ wr => ∃ k : Nat, k ≤ s.size ∧ i = .int .i64 k ∧ ∃ g cap, ∃ bs : List Nat, v = .slice (some ⟨g, 0, none⟩) (k + 1) cap ∧ bs.length = k + 1 ∧ wr.ownsRow w.heap.size 77 1 (.slice (some ⟨g, 0, none⟩) (k + 1) cap) (k + 1) (bs.map rowVal) ∧
      Hid (∀ (i : Nat) (p : Int × Int) (b : Nat), (Tw.placesTo s.data.toList k)[i]? = some p → bs[i]? = some b → wr.heap[b]? = some (pairBlock p)) ∧ Below w.heap.size w wr)
    (fun _ i _ _ _ => s.size - (intOf i).toNat)
  case atStart =>
    refine ⟨0, Nat.zero_le _, rfl, _, _, [w.heap.size], rfl, rfl, ?_, ?_, ?_⟩
    · exact ⟨rfl, .inr ⟨w.heap.size + 1, 1, #[rowVal w.heap.size], rfl, Nat.le_succ _, heap_alloc2_new w _ _, Nat.le_refl _, by decide, rfl, rfl⟩⟩
    · show ∀ (i : Nat) (p : Int × Int) (b : Nat), _
      intro i p b hp hbb
      cases i with
      | zero =>
        simp at hbb
        subst hbb
        rw [Tw.placesTo_get? _ _ _ (by omega), Tw.placeAt_zero] at hp
        cases hp
        exact heap_alloc2_old w _ _
      | succ i => simp at hbb
    · exact ((Below.refl _ _).alloc (Nat.le_refl _) _).alloc (by simp) _
  case round =>
    obtain ⟨k, hk, rfl, g, cap, bs, rfl, hbl, hown, HB, hb⟩ := hrel
    by_cases hlt : k < s.size
    · have hd : 0 ≤ Tw.dir s[k] := Tw.walkOk_dir HOK.out (k := k) (by rw [size_data]; exact hlt)
      have hd3 := (Tw.dir_range s[k]).2
      obtain ⟨p, hp⟩ : ∃ p, p = Tw.placeAt s.data.toList k := ⟨_, rfl⟩
      have hr := Tw.placeAt_range s.data.toList k
      rw [← hp] at hr
      obtain ⟨b, hbk⟩ : ∃ b, bs[k]? = some b := ⟨bs[k]'(by omega), List.getElem?_eq_getElem (by omega)⟩
      have hpair := HB.out k p b (by rw [hp]; exact Tw.placesTo_get? _ _ _ (by omega)) hbk
      have HP := Lib.hid hp
      clear hp
      have hcell := row_cell hown hbk
      obtain ⟨hc0, hc1⟩ := pair_cells hpair
      have hne := pair_ne hown hpair
      have hlb := lt_of_heap hpair
      unfold rowVal at hcell
      have HPAIR := Lib.hid hpair
      have HBK := Lib.hid hbk
      have HBL := Lib.hid hbl
      clear hpair hbk hbl
      go_wp2_with (first
        | (go_at_call 104; refine (look_any _ _).mono ?_; rintro e w' ⟨rfl, rfl⟩))
      have hx2 : -1000000 ≤ p.1 ∧ p.1 ≤ 1000000 := ⟨by omega, by omega⟩
      have hy2 : -1000000 ≤ p.2 ∧ p.2 ≤ 1000000 := ⟨by omega, by omega⟩
      have he1 := Tw.east_range (Tw.dir s[k])
      have hn1 := Tw.north_range (Tw.dir s[k])
      have hs2 := hb.size
      have hgb := (hown.lt g rfl)
      have wx := IntWalk.i64_in (p.1 + Tw.east (Tw.dir s[k])) ⟨by omega, by omega⟩
      have wy := IntWalk.i64_in (p.2 + Tw.north (Tw.dir s[k])) ⟨by omega, by omega⟩
      go_region_held3 (fun w' => w'.cell? ⟨b, 0, none⟩ = some (.int .i64 p.1) ∧ w'.cell? ⟨b, 1, none⟩ = some (.int .i64 p.2))
        (first | go_keep | (refine ⟨?_, ?_⟩ <;> (rw [hbN.cell (by simp; omega)]; go_keep)) | (refine ⟨?_, ?_⟩ <;> (rw [hbE.cell (by simp; omega)]; go_keep)) | (refine ⟨?_, ?_⟩ <;> (rw [hgrow2.cell_far _ (by simp; omega) (by simp only [Value.ownBlock, ne_eq, Option.some.injEq]; omega)]; go_keep)))
        (first
          | (go_at_call 105; refine (l1East_below _ _ hd hd3).mono ?_; rintro e wE ⟨rfl, hbE⟩; have hsE : wr.heap.size ≤ wE.heap.size := hbE.size; have hownE := own_below (w := wr.drew) hown.drew hbE)
          | (go_at_call 106; refine (l1North_below _ _ hd hd3).mono ?_; rintro e wN ⟨rfl, hbN⟩; have hsN : wE.heap.size ≤ wN.heap.size := hbN.size; have hownN := own_below hownE hbN)
          | (refine step_append_lies _ (by rfl) _ _ _ (by rfl) w.heap.size 77 i0 _ 1 24 Tryz.underlying75 hi0 hz0 hz1 hz2 rfl (by omega) _ (k + 1) _ (by rfl) ((hownN.alloc _).alloc _) ⟨wN.heap.size + 1, 0, none⟩ 1 1 [rowVal wN.heap.size] (by rfl) (by rfl) (World.news_of_block (cs := #[rowVal wN.heap.size]) (t := 77) (fr := (0, 0)) (heap_alloc2_new wN _ _)) (by simp [Value.oneCell', rowVal]) (by omega) (by unfold maxLen; omega) (by omega) (by simp; omega) (wN.heap.size + 2) (by simp) ?_; intro gg cap2 w2 hown2 hgrow2 hat2 hlt2))
      go_wp2
      go_roundw
      case rel =>
        have e2 : Tw.placeAt s.data.toList (k + 1) = (p.1 + Tw.east (Tw.dir s[k]), p.2 + Tw.north (Tw.dir s[k])) := by
          rw [Tw.placeAt_succ _ _ (by rw [size_data]; exact hlt), ← HP.out]
          rfl
        refine ⟨k + 1, by omega, by go_num, gg, cap2, bs ++ [wN.heap.size], rfl, by rw [List.length_append, HBL.out]; rfl, ?_, ?_, ?_⟩
        · rw [List.map_append]
          exact hown2
        · show ∀ (i : Nat) (p : Int × Int) (b : Nat), _
          rw [Tw.placesTo_succ, e2]
          exact rows_step HB.out hown hbE hbN hgrow2 (by rw [HBL.out, Tw.placesTo_length])
        · have hb4 : Below w.heap.size w wN := (hb.drew.trans (hbE.mono hb.size)).trans (hbN.mono (by omega))
          exact ((hb4.alloc hb4.size _).alloc (by have := hb4.size; simp; omega) _).grown hgrow2 (by have := hb4.size; simp; omega) (fun j hj => by cases hj; exact hgb.1)
      case measure => simp [intOf]; omega
    · obtain rfl : k = s.size := by omega
      go_wp2
      go_ret
      have e : Tw.places s.data.toList = Tw.placesTo s.data.toList s.size := by unfold Tw.places; rw [size_data]
      refine ⟨.slice (some ⟨g, 0, none⟩) (s.size + 1) cap, rfl, ⟨g, cap, bs, ?_, ?_, ?_, ?_⟩, hb⟩
      · rw [e, Tw.placesTo_length]
      · rw [e, Tw.placesTo_length, hbl]
      · rw [e, Tw.placesTo_length]
        exact hown
      · rw [e]
        exact HB.out

set_option maxHeartbeats 800000 in
theorem specPlacesOf_no (s : ByteArray) (w : World) (hs : s.size ≤ 1048576) (hok : Tw.walkOk s.data.toList = false) :
    Calls Tryz.prog 50 #[.string s] w fun e w' => (∃ a c, e = .returned (.slice a 0 c)) ∧ Below w.heap.size w w' := by
  have HOK := Lib.hid hok
  clear hok
  go_enter Tryz.func50, Tryz.ntmps50
  go_wp2_with (first
    | (go_at_call 65; refine (specWalkOk_is _ _ hs false HOK.out).mono ?_; rintro e w' ⟨rfl, rfl⟩))
  go_ret
  exact ⟨⟨_, _, rfl⟩, (Below.refl _ _).alloc (Nat.le_refl _) _⟩

/-- What the rows of a slice of slices hold. -/
def RowsHold (w : World) (ps : List (Int × Int)) (bs : List Nat) : Prop := ∀ (i : Nat) (p : Int × Int) (b : Nat), ps[i]? = some p → bs[i]? = some b → w.heap[b]? = some (pairBlock p)
theorem specPlacesOf_n (s : ByteArray) (w : World) (hs : s.size ≤ 1048576) (hok : Tw.walkOk s.data.toList = true) (ps : List (Int × Int)) (n : Nat) (hps : Tw.places s.data.toList = ps) (hn : ps.length = n) :
    Calls Tryz.prog 50 #[.string s] w fun e w' => ∃ g cap bs, e = .returned (.slice (some ⟨g, 0, none⟩) n cap) ∧ bs.length = n ∧ w'.ownsRow w.heap.size 77 1 (.slice (some ⟨g, 0, none⟩) n cap) n (bs.map rowVal) ∧ RowsHold w' ps bs ∧ Below w.heap.size w w' := by
  refine (specPlacesOf s w hs hok).mono ?_
  rintro e w' ⟨v, rfl, ⟨g, cap, bs, rfl, hbl, hown, hrows⟩, hb⟩
  subst hps
  subst hn
  exact ⟨g, cap, bs, rfl, hbl, hown, hrows, hb⟩

end Go.Proofs.YtccdfndnjjjgfaaGreatDoor
