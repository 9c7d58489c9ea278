/-
  The reference's SimpleOk: some truth, and nothing that was there has turned.
-/
import Derived.Test.YtccdfndnjjjgfaaGreatDoorPlacesOf
import Derived.Maps.OwnSet
import Derived.Maps.Views
import Derived.DeepKeys4
import Derived.WideKeyArr2
import Derived.Test.YtccdfndnjjjgfaaGreatDoorPlacesSpec
import Derived.BigQuiet
import Derived.Deep.QuietTactic
import Derived.Test.YtccdfndnjjjgfaaGreatDoorClosed
import Derived.Test.YtccdfndnjjjgfaaGreatDoorDeedImpl
import Derived.Test.YtccdfndnjjjgfaaGreatDoorNumber
import Derived.Lib.ItoaLen
import Derived.Test.YtccdfndnjjjgfaaGreatDoorReadPure
import Derived.Test.YtccdfndnjjjgfaaGreatDoorDeskDone
import Derived.Test.YtccdfndnjjjgfaaGreatDoorReadNum
import Derived.Test.YtccdfndnjjjgfaaGreatDoorDeeds
import Derived.Lib.IndexLaws
import Derived.Lib.IndexBytes
import Derived.Laws.AppendOwnNone
import Derived.Test.YtccdfndnjjjgfaaGreatDoorDeskRun
import Derived.Test.YtccdfndnjjjgfaaGreatDoorShapeLaw
import Derived.Test.YtccdfndnjjjgfaaGreatDoorArea
import Derived.Test.YtccdfndnjjjgfaaGreatDoorTurning
import Derived.Test.YtccdfndnjjjgfaaGreatDoorHilbTop
import Derived.Lib.SplitLaws
import Derived.Test.YtccdfndnjjjgfaaGreatDoorShelf
import Derived.Lib.AppendIntMem
import Derived.Deep.AppendLies
import Derived.Laws.OwnMore

namespace Go.Proofs.YtccdfndnjjjgfaaGreatDoor
open Go.RowKit Go.Maps Go.WideMaps

theorem laidKeys : laidOutB Tryz.prog = true := by kernel_rfl
theorem placeRow : (130 : TypeId) < Tryz.prog.types.size := of_decide_eq_true (by kernel_rfl)
theorem placeWide : (match Tryz.prog.underlying 130 with | some (.array _ _) | some (.struct _) => true | _ => false) = true := by rw [Tryz.underlying130]
set_option maxRecDepth 100000 in
theorem placeLaw : Keyed Tryz.prog 130 := Keyed.of_law (deep_law_laid laidKeys (m := 2) (by omega) placeRow (by kernel_rfl) placeWide)
theorem placeKeyType : Tryz.prog.keyType 130 = true := by kernel_rfl
theorem placeCells : Tryz.prog.cellsOf 130 = 2 := by kernel_rfl
theorem intCells : Tryz.prog.cellsOf 3 = 1 := by kernel_rfl
theorem typesMore : ∃ m, Tryz.prog.types.size + 1 = m + 1 + 1 := ⟨Tryz.prog.types.size - 1, by
  have h : (130 : Nat) < Tryz.prog.types.size := placeRow
  omega⟩

def placeVal (p : Int × Int) : Value := .agg #[.int .i64 p.1, .int .i64 p.2]
def placeKey (p : Int × Int) : Lit := .string (keyBytes [.int .i64 p.1, .int .i64 p.2])
/-- Both numbers of a place are small. -/
def near (p : Int × Int) : Prop := -1000000 ≤ p.1 ∧ p.1 ≤ 1000000 ∧ -1000000 ≤ p.2 ∧ p.2 ≤ 1000000

theorem keyOf_place (p : Int × Int) (h : near p) : keyOf Tryz.prog 130 (placeVal p) = some (placeKey p) := by
  obtain ⟨h1, h2, h3, h4⟩ := h
  have w1 : (Lit.int .i64 p.1).wf = true := WalkArith.wf_i64 (by omega)
  have w2 : (Lit.int .i64 p.2).wf = true := WalkArith.wf_i64 (by omega)
  obtain ⟨m, hm⟩ := typesMore
  unfold keyOf placeVal
  simp only [Tryz.underlying130]
  rw [if_pos (by simp [placeKeyType, Value.formed, Tryz.underlying130, placeCells]), hm]
  simp [Program.keyLits, Tryz.underlying130, placeCells, intCells, Tryz.underlying3, List.range_succ, w1, w2, placeKey, Value.cells]

theorem isKey_place (p : Int × Int) : WideAt.IsKeyLit (placeKey p) := True.intro

theorem placeKey_inj {p q : Int × Int} (hp : near p) (hq : near q) (h : placeKey p = placeKey q) : p = q := by
  have h1 := keyOf_place p hp
  have h2 := keyOf_place q hq
  rw [h] at h1
  have := placeLaw.inj h1 h2
  simp [placeVal] at this
  exact Prod.ext this.1 this.2

/-- The set of some places, as the map reads. -/
def placeSet (ps : List (Int × Int)) : DataW Unit := setOf (.agg []) (ps.map placeKey)
theorem placeSet_nil : placeSet [] = .map [] := by simp [placeSet, setOf]
theorem placeSet_snoc (ps : List (Int × Int)) (p : Int × Int) : placeSet (ps ++ [p]) = (placeSet ps).put (placeKey p) (.agg []) := by
  unfold placeSet
  rw [List.map_append]
  exact setOf_snoc _ _ _

theorem any_same (acc : List Lit) (x : Lit) (hx : WideAt.IsKeyLit x) : (acc.any fun y => y.sameKey x) = true ↔ x ∈ acc := by
  rw [List.any_eq_true]
  constructor
  · rintro ⟨y, hy, h⟩
    rw [← WideAt.sameKey_eq h]
    exact hy
  · intro h
    exact ⟨x, h, WideAt.sameKey_self hx⟩
theorem fold_le : ∀ (xs acc : List Lit), (xs.foldl addKey acc).length ≤ acc.length + xs.length
  | [], acc => Nat.le_refl _
  | x :: xs, acc => by
    have h := fold_le xs (addKey acc x)
    have h2 : (addKey acc x).length ≤ acc.length + 1 := by unfold addKey; split <;> simp
    simp only [List.foldl_cons, List.length_cons]
    omega
theorem fold_eq : ∀ (xs acc : List Lit), (∀ x ∈ xs, WideAt.IsKeyLit x) → ((xs.foldl addKey acc).length = acc.length + xs.length ↔ xs.Nodup ∧ ∀ x ∈ xs, x ∉ acc)
  | [], acc, _ => by simp
  | x :: xs, acc, h => by
    have hk := h x (by simp)
    have hi := fold_eq xs (acc ++ [x]) (fun y hy => h y (by simp [hy]))
    simp only [List.foldl_cons, List.length_cons]
    by_cases hx : x ∈ acc
    · have e : addKey acc x = acc := by unfold addKey; rw [if_pos ((any_same acc x hk).2 hx)]
      have hl := fold_le xs acc
      rw [e]
      constructor
      · intro h'
        omega
      · intro h'
        exact absurd hx (h'.2 x (by simp))
    · have e : addKey acc x = acc ++ [x] := by unfold addKey; rw [if_neg (fun h' => hx ((any_same acc x hk).1 h'))]
      rw [e]
      simp only [List.length_append, List.length_cons, List.length_nil] at hi
      rw [show acc.length + (xs.length + 1) = acc.length + (0 + 1) + xs.length from by omega, hi, List.nodup_cons]
      constructor
      · rintro ⟨h1, h2⟩
        refine ⟨⟨fun hxx => h2 x hxx (by simp), h1⟩, fun y hy => ?_⟩
        rcases List.mem_cons.1 hy with rfl | hy
        · exact hx
        · exact fun hya => h2 y hy (by simp [hya])
      · rintro ⟨⟨h1, h2⟩, h3⟩
        refine ⟨h2, fun y hy hya => ?_⟩
        rcases List.mem_append.1 hya with hya | hya
        · exact h3 y (by simp [hy]) hya
        · rw [List.mem_singleton.1 hya] at hy
          exact h1 hy

theorem nodup_keys (ps : List (Int × Int)) (h : ∀ p ∈ ps, near p) : (ps.map placeKey).Nodup ↔ ps.Nodup := by
  rw [List.nodup_iff_pairwise_ne, List.nodup_iff_pairwise_ne, List.pairwise_map]
  constructor
  · intro h'
    exact h'.imp fun hne e => hne (by rw [e])
  · intro h'
    exact h'.imp_of_mem fun ha hb hne e => hne (placeKey_inj (h _ ha) (h _ hb) e)

theorem placeSet_size (ps : List (Int × Int)) (h : ∀ p ∈ ps, near p) : ((Maps.size (placeSet ps) : Int) == (ps.length : Int)) = Tw.noTwice ps := by
  have h1 := fold_eq (ps.map placeKey) [] (fun x hx => by
    obtain ⟨p, _, rfl⟩ := List.mem_map.1 hx
    exact isKey_place p)
  have h2 : Maps.size (placeSet ps) = ((ps.map placeKey).foldl addKey []).length := size_setOf _ _ (fun x hx => by
    obtain ⟨p, _, rfl⟩ := List.mem_map.1 hx
    exact isKey_place p)
  simp only [List.length_nil, Nat.zero_add, List.length_map, List.not_mem_nil, not_false_eq_true, implies_true, and_true] at h1
  rw [nodup_keys ps h] at h1
  unfold Tw.noTwice
  rw [h2, Bool.eq_iff_iff, beq_iff_eq, decide_eq_true_iff, ← h1]
  omega

theorem run_makeMap_n {P : Program} (t k e : TypeId) (kd : IntKind) (n : Int) (ht : P.underlying t = some (.map k e)) (w : World) :
    (Instr.makeMap t (some (.int kd n))).run P w = .ok (.map (some w.heap.size)) (w.alloc (.map #[] 0)) := by
  simp [Instr.makeMap, run_underlying ht]
  rfl

set_option maxRecDepth 100000 in
set_option maxHeartbeats 3200000 in
theorem allDifferent_any (w : World) (g n cap : Nat) (ps : List (Int × Int)) (hn : ps.length = n) (h1 : 1 ≤ n) (h99 : n ≤ 1000) (hnear : ∀ p ∈ ps, near p) (hg : g < w.heap.size)
    (hc : ∀ (i : Nat) (p : Int × Int), ps[i]? = some p → w.cell? ⟨g, i * 2, none⟩ = some (.int .i64 p.1) ∧ w.cell? ⟨g, i * 2 + 1, none⟩ = some (.int .i64 p.2)) :
    Calls Tryz.prog 148 #[.slice (some ⟨g, 0, none⟩) n cap] w fun e w' => e = .returned (.bool (Tw.noTwice ps)) ∧ Below w.heap.size w w' := by
  have hmk := fun (kd : IntKind) (m : Int) (W : World) => run_makeMap_n (P := Tryz.prog) 157 130 170 kd m Tryz.underlying157 W
  have HN := Lib.hid hn
  clear hn
  have HC := Lib.hid hc
  clear hc
  go_enter Tryz.func148, Tryz.ntmps148
  go_wp2
  go_loopw [5, 11] (fun _ i wr => ∃ k : Nat, k ≤ n ∧ i = .int .i64 k ∧ wr.ownsMap Tryz.prog 130 unitElem w.heap.size k (placeSet (ps.take k)) ∧ Below w.heap.size w wr ∧ w.heap.size + 1 ≤ wr.heap.size)
    (fun _ i _ => n - (intOf i).toNat)
  case atStart => exact ⟨0, Nat.zero_le _, rfl, by rw [List.take_zero, placeSet_nil]; exact World.ownsMap_made _ _ _ _, (Below.refl _ _).alloc (Nat.le_refl _) _, by simp⟩
  case round =>
    obtain ⟨k, hk, rfl, hown, hb, hsz⟩ := hrel
    by_cases hlt : k < n
    · obtain ⟨p, hp⟩ : ∃ p, ps[k]? = some p := ⟨ps[k]'(by rw [HN.out]; exact hlt), List.getElem?_eq_getElem (by rw [HN.out]; exact hlt)⟩
      have hnp := hnear p (List.mem_of_getElem? hp)
      obtain ⟨c0, c1⟩ := HC.out k p hp
      have d0 : wr.cell? ⟨g, k * 2, none⟩ = some (.int .i64 p.1) := (hb.cell (p := ⟨_, _, none⟩) hg).trans c0
      have d1 : wr.cell? ⟨g, k * 2 + 1, none⟩ = some (.int .i64 p.2) := (hb.cell (p := ⟨_, _, none⟩) hg).trans c1
      clear c0 c1
      have HKEY := Lib.hid (keyOf_place p hnp)
      have HP := Lib.hid hp
      clear hp
      go_wp2_with (first
        | (at_mapUpdate; refine wpList_mapUpdate_own _ rfl _ _ _ 157 rfl 130 170 placeLaw Tryz.underlying157 (unitElem (H := Unit)) w.heap.size k _ rfl (hown.alloc _) (by unfold maxLen; omega) _ _ _ rfl rfl HKEY.out _ [] unitElem_mk ?_; intro w2 hown2 hgrow2))
      have s2 := hgrow2.size
      go_roundw
      case rel =>
        refine ⟨k + 1, by omega, by go_num, ?_, ?_, ?_⟩
        · rw [List.take_add_one, HP.out]
          rw [show (ps.take k ++ (some p).toList) = ps.take k ++ [p] from rfl, placeSet_snoc]
          exact hown2
        · exact (hb.alloc hb.size _).grown hgrow2 (by simp; omega) (fun j hj => by cases hj; exact Nat.le_refl _)
        · simp at s2; omega
      case measure => simp [intOf]; omega
    · obtain rfl : k = n := by omega
      go_wp2_with (first
        | (at_len; refine wpList_len_own _ rfl _ 157 rfl 130 170 Tryz.underlying157 _ w.heap.size k _ rfl hown ?_))
      go_ret
      refine ⟨ret_bool ?_, hb⟩
      rw [List.take_of_length_le (by rw [HN.out]; exact Nat.le_refl _), ← placeSet_size ps hnear, HN.out]

end Go.Proofs.YtccdfndnjjjgfaaGreatDoor

namespace Go.Proofs.YtccdfndnjjjgfaaGreatDoor
open Go.RowKit

theorem places_near (l : List UInt8) (h : l.length ≤ 1000) : ∀ p ∈ Tw.places l, near p := by
  intro p hp
  obtain ⟨k, hk, rfl⟩ := List.mem_map.1 hp
  have hk' : k < l.length + 1 := List.mem_range.1 hk
  have hr := Tw.placeAt_range l k
  unfold near
  omega

set_option maxHeartbeats 800000 in
theorem implAvoidsOk (s : ByteArray) (w : World) (hs : s.size ≤ 1048576) (hw : DirsAt w) :
    Calls Tryz.prog 125 #[.string s] w fun e w' => e = .returned (.bool (Tw.avoids s.data.toList)) ∧ Below w.heap.size w w' := by
  cases hok : Tw.walkOk s.data.toList
  · have HOK := Lib.hid hok
    clear hok
    go_enter Tryz.func125, Tryz.ntmps125
    go_wp2_with (first | (go_at_call 67; refine (implWalkOk_is _ _ hs false HOK.out).mono ?_; rintro e w' ⟨rfl, rfl⟩))
    go_ret
    exact ⟨ret_bool (by rw [Tw.avoids, HOK.out, Bool.false_and]), Below.refl _ _⟩
  · have HOK := Lib.hid hok
    clear hok
    have h40 : s.size ≤ 40 := by have := Tw.walkOk_len HOK.out; rwa [size_data] at this
    have hnear := places_near s.data.toList (by rw [size_data]; omega)
    have HPL := Lib.hid (Tw.places_length s.data.toList)
    go_enter Tryz.func125, Tryz.ntmps125
    go_wp2_with (first
      | (go_at_call 67; refine (implWalkOk_is _ _ hs true HOK.out).mono ?_; rintro e w' ⟨rfl, rfl⟩)
      | (go_at_call 147; refine (implPlacesOf _ _ hw HOK.out).mono ?_; rintro e w1 ⟨v, rfl, ⟨g, cap, rfl, hown⟩, hb1⟩)
      | (go_at_call 148; refine (allDifferent_any _ g _ _ _ rfl (by rw [HPL.out]; omega) (by rw [HPL.out, size_data]; omega) hnear (hown.lt g rfl).2 (fun i p hp => place_cells hown hp)).mono ?_; rintro e w2 ⟨rfl, hb2⟩))
    go_ret
    exact ⟨ret_bool (by rw [Tw.avoids, HOK.out, Bool.true_and]), hb1.trans (hb2.mono hb1.size)⟩

/-- Up to place k no place is there twice. -/
def apartTo (ps : List (Int × Int)) (k : Nat) : Prop := ∀ i j, j < i → i < k → ps[j]? ≠ ps[i]?
theorem apartTo_succ {ps : List (Int × Int)} {k : Nat} (h : apartTo ps k) (hk : ∀ j, j < k → ps[j]? ≠ ps[k]?) : apartTo ps (k + 1) := by
  intro i j hji hi
  rcases Nat.lt_or_ge i k with h1 | h1
  · exact h i j hji h1
  · obtain rfl : i = k := by omega
    exact hk j hji
theorem noTwice_of_apart {ps : List (Int × Int)} (h : apartTo ps ps.length) : Tw.noTwice ps = true := Tw.noTwice_iff.2 fun i j hij hj => h j i hij hj

set_option maxRecDepth 100000 in
set_option maxHeartbeats 3200000 in
theorem specAvoidsOk_yes (s : ByteArray) (w : World) (hs : s.size ≤ 1048576) (hok : Tw.walkOk s.data.toList = true) :
    Calls Tryz.prog 55 #[.string s] w fun e w' => e = .returned (.bool (Tw.avoids s.data.toList)) ∧ Below w.heap.size w w' := by
  have HOK := Lib.hid hok
  clear hok
  have h40 : s.size ≤ 40 := by have := Tw.walkOk_len HOK.out; rwa [size_data] at this
  obtain ⟨ps, hps⟩ : ∃ ps, Tw.places s.data.toList = ps := ⟨_, rfl⟩
  obtain ⟨n, hn⟩ : ∃ n, ps.length = n := ⟨_, rfl⟩
  have hn41 : n ≤ 41 := by rw [← hn, ← hps, Tw.places_length, size_data]; omega
  have HPS := Lib.hid hps
  have HN := Lib.hid hn
  clear hps hn
  go_enter Tryz.func55, Tryz.ntmps55
  go_wp2_with (first
    | (go_at_call 50; refine (specPlacesOf_n _ _ hs HOK.out ps n HPS.out HN.out).mono ?_; rintro e w1 ⟨g, cap, bs, rfl, hbl, hown, hrows, hb1⟩))
  have HBL := Lib.hid hbl
  clear hbl
  have hgb := hown.lt g rfl
  have hcell : Hid (∀ (i : Nat), i < n → ∃ (p : Int × Int) (b : Nat), ps[i]? = some p ∧ b < w1.heap.size ∧ w1.cell? ⟨g, i, none⟩ = some (.slice (some ⟨b, 0, none⟩) 2 2) ∧ w1.cell? ⟨b, 0, none⟩ = some (.int .i64 p.1) ∧ w1.cell? ⟨b, 1, none⟩ = some (.int .i64 p.2)) := by
    intro i hi
    have hp : ps[i]? = some (ps[i]'(by rw [HN.out]; exact hi)) := List.getElem?_eq_getElem _
    have hbb : bs[i]? = some (bs[i]'(by rw [HBL.out]; exact hi)) := List.getElem?_eq_getElem _
    have hh := hrows i _ _ hp hbb
    exact ⟨_, _, hp, lt_of_heap hh, row_cell hown hbb, (pair_cells hh).1, (pair_cells hh).2⟩
  clear hrows
  go_loopw [4, 5] (fun i _ wr => ∃ k : Nat, k ≤ n ∧ i = .int .i64 k ∧ Below w1.heap.size w1 wr ∧ Hid (apartTo ps k)) (fun i _ _ => n - (intOf i).toNat)
  case atStart => exact ⟨0, Nat.zero_le _, rfl, Below.refl _ _, fun i j h1 h2 => by omega⟩
  case round =>
    obtain ⟨k, hk, rfl, hbr, HA⟩ := hrel
    by_cases hlt : k < n
    · go_wp2_with fail
      obtain ⟨wo, hwo⟩ : ∃ wo : World, wo = wr := ⟨_, rfl⟩
      subst hwo
      go_loopw [5] (fun j wr => ∃ m : Nat, m ≤ k ∧ j = .int .i64 m ∧ Below w1.heap.size w1 wr ∧ Hid (∀ j, j < m → ps[j]? ≠ ps[k]?)) (fun j _ => k - (intOf j).toNat)
      case atStart => exact ⟨0, Nat.zero_le _, rfl, hbr, fun j h => by omega⟩
      case round =>
        obtain ⟨m, hm, rfl, hbr2, HM⟩ := hrel
        by_cases hlt2 : m < k
        · obtain ⟨p, b, hp, hb, c1, c2, c3⟩ := hcell.out k hlt
          obtain ⟨q, d, hq, hd, e1, e2, e3⟩ := hcell.out m (by omega)
          have C1 := (hbr2.cell (p := ⟨g, k, none⟩) hgb.2).trans c1
          have C2 := (hbr2.cell (p := ⟨b, 0, none⟩) hb).trans c2
          have C3 := (hbr2.cell (p := ⟨b, 1, none⟩) hb).trans c3
          have E1 := (hbr2.cell (p := ⟨g, m, none⟩) hgb.2).trans e1
          have E2 := (hbr2.cell (p := ⟨d, 0, none⟩) hd).trans e2
          have E3 := (hbr2.cell (p := ⟨d, 1, none⟩) hd).trans e3
          have HP := Lib.hid hp
          have HQ := Lib.hid hq
          clear c1 c2 c3 e1 e2 e3 hp hq
          have i1 : (0 : Int) ≤ (k : Int) := by omega
          have i2 : (k : Int) < (n : Int) := by omega
          have i3 : (0 : Int) ≤ (m : Int) := by omega
          have i4 : (m : Int) < (n : Int) := by omega
          have i5 : (m : Int) < (k : Int) := by omega
          by_cases hx : p.1 = q.1
          · have hx1 : (p.1 == q.1) = true := by simpa using hx
            have HX := Lib.hid hx
            clear hx
            by_cases hy : p.2 = q.2
            · have hy1 : (p.2 == q.2) = true := by simpa using hy
              have HY := Lib.hid hy
              clear hy
              go_wp2_with fail
              go_quiet (fail)
              go_wp2
              go_ret
              refine ⟨ret_bool ?_, below_drewN (hb1.trans (hbr2.mono hb1.size)) _⟩
              have e : Tw.noTwice ps = false := Tw.noTwice_false hlt2 (by rw [HN.out]; exact hlt) (by rw [HP.out, HQ.out]; exact congrArg some (Prod.ext HX.out.symm HY.out.symm))
              rw [Tw.avoids, HPS.out, e, Bool.and_false]
            · have hy1 : (p.2 == q.2) = false := by simpa using hy
              have HY := Lib.hid hy
              clear hy
              go_wp2_with fail
              go_quiet (fail)
              go_wp2
              go_roundw
              case rel =>
                refine ⟨m + 1, by omega, by go_num, below_drewN hbr2 _, ?_⟩
                show ∀ j, j < m + 1 → _
                intro j hj
                rcases Nat.lt_or_ge j m with h1 | h1
                · exact HM.out j h1
                · obtain rfl : j = m := by omega
                  rw [HP.out, HQ.out]
                  intro h
                  exact HY.out (by rw [Option.some.inj h])
              case measure => simp [intOf]; omega
          · have hx1 : (p.1 == q.1) = false := by simpa using hx
            have HX := Lib.hid hx
            clear hx
            go_wp2_with fail
            go_quiet (fail)
            go_wp2
            go_roundw
            case rel =>
              refine ⟨m + 1, by omega, by go_num, below_drewN hbr2 _, ?_⟩
              show ∀ j, j < m + 1 → _
              intro j hj
              rcases Nat.lt_or_ge j m with h1 | h1
              · exact HM.out j h1
              · obtain rfl : j = m := by omega
                rw [HP.out, HQ.out]
                intro h
                exact HX.out (by rw [Option.some.inj h])
            case measure => simp [intOf]; omega
        · obtain rfl : m = k := by omega
          go_wp2
          go_roundw
          case rel => exact ⟨m + 1, by omega, by go_num, hbr2, apartTo_succ HA.out HM.out⟩
          case measure => simp [intOf]; omega
    · obtain rfl : k = n := by omega
      go_wp2_with (first | (go_at_call 65; refine (specWalkOk_is _ _ hs true HOK.out).mono ?_; rintro e w' ⟨rfl, rfl⟩))
      go_ret
      refine ⟨ret_bool ?_, hb1.trans (hbr.mono hb1.size)⟩
      have e : Tw.noTwice ps = true := noTwice_of_apart (by rw [HN.out]; exact HA.out)
      rw [Tw.avoids, HPS.out, e, HOK.out]
      rfl

set_option maxHeartbeats 800000 in
theorem specAvoidsOk (s : ByteArray) (w : World) (hs : s.size ≤ 1048576) :
    Calls Tryz.prog 55 #[.string s] w fun e w' => e = .returned (.bool (Tw.avoids s.data.toList)) ∧ Below w.heap.size w w' := by
  cases hok : Tw.walkOk s.data.toList
  · have HOK := Lib.hid hok
    go_enter Tryz.func55, Tryz.ntmps55
    go_wp2_with (first
      | (go_at_call 50; refine (specPlacesOf_no _ _ hs HOK.out).mono ?_; rintro e w1 ⟨⟨a, c, rfl⟩, hb1⟩))
    refine wp_loop_rounds 1 ?_
    rw [rounds_succ]
    go_wp2_with (first | (go_at_call 65; refine (specWalkOk_is _ _ hs false HOK.out).mono ?_; rintro e w' ⟨rfl, rfl⟩))
    go_ret
    exact ⟨ret_bool (by rw [Tw.avoids, HOK.out, Bool.false_and]), hb1⟩
  · exact specAvoidsOk_yes s w hs hok

end Go.Proofs.YtccdfndnjjjgfaaGreatDoor

namespace Go.Proofs.YtccdfndnjjjgfaaGreatDoor
open Go.RowKit

set_option maxRecDepth 100000 in
set_option maxHeartbeats 3200000 in
theorem specSimple_yes (s : ByteArray) (w : World) (hs : s.size ≤ 1048576) (hok : Tw.walkOk s.data.toList = true) :
    Calls Tryz.prog 54 #[.string s] w fun e w' => (∃ b : Bool, e = .returned (.bool b)) ∧ Below w.heap.size w w' := by
  have HOK := Lib.hid hok
  clear hok
  have h40 : s.size ≤ 40 := by have := Tw.walkOk_len HOK.out; rwa [size_data] at this
  obtain ⟨ps, hps⟩ : ∃ ps, Tw.places s.data.toList = ps := ⟨_, rfl⟩
  obtain ⟨n, hn⟩ : ∃ n, ps.length = n := ⟨_, rfl⟩
  have hn41 : 1 ≤ n ∧ n ≤ 41 := by rw [← hn, ← hps, Tw.places_length, size_data]; omega
  have HPS := Lib.hid hps
  have HN := Lib.hid hn
  clear hps hn
  have hcl := fun W => specClosedOk s W hs
  obtain ⟨c, hc⟩ : ∃ c, Tw.closed s.data.toList = c := ⟨_, rfl⟩
  rw [hc] at hcl
  have HCL := Lib.hid hcl
  clear hcl hc
  go_enter Tryz.func54, Tryz.ntmps54
  go_wp2_with (first
    | (go_at_call 50; refine (specPlacesOf_n _ _ hs HOK.out ps n HPS.out HN.out).mono ?_; rintro e w1 ⟨g, cap, bs, rfl, hbl, hown, hrows, hb1⟩))
  have HBL := Lib.hid hbl
  clear hbl
  have hgb := hown.lt g rfl
  have hcell : Hid (∀ (i : Nat), i < n → ∃ (p : Int × Int) (b : Nat), b < w1.heap.size ∧ w1.cell? ⟨g, i, none⟩ = some (.slice (some ⟨b, 0, none⟩) 2 2) ∧ w1.cell? ⟨b, 0, none⟩ = some (.int .i64 p.1) ∧ w1.cell? ⟨b, 1, none⟩ = some (.int .i64 p.2)) := by
    intro i hi
    have hp : ps[i]? = some (ps[i]'(by rw [HN.out]; exact hi)) := List.getElem?_eq_getElem _
    have hbb : bs[i]? = some (bs[i]'(by rw [HBL.out]; exact hi)) := List.getElem?_eq_getElem _
    have hh := hrows i _ _ hp hbb
    exact ⟨_, _, lt_of_heap hh, row_cell hown hbb, (pair_cells hh).1, (pair_cells hh).2⟩
  clear hrows
  go_loopw [4, 5] (fun i _ wr => ∃ k : Nat, 1 ≤ k ∧ k ≤ n ∧ i = .int .i64 k ∧ Below w1.heap.size w1 wr) (fun i _ _ => n - (intOf i).toNat)
  case atStart => exact ⟨1, Nat.le_refl _, by omega, rfl, Below.refl _ _⟩
  case round =>
    obtain ⟨k, hk1, hk, rfl, hbr⟩ := hrel
    by_cases hlt : k < n
    · go_wp2_with fail
      obtain ⟨wo, hwo⟩ : ∃ wo : World, wo = wr := ⟨_, rfl⟩
      subst hwo
      go_loopw [5] (fun j wr => ∃ m : Nat, 1 ≤ m ∧ m ≤ k ∧ j = .int .i64 m ∧ Below w1.heap.size w1 wr) (fun j _ => k - (intOf j).toNat)
      case atStart => exact ⟨1, Nat.le_refl _, hk1, rfl, hbr⟩
      case round =>
        obtain ⟨m, hm1, hm, rfl, hbr2⟩ := hrel
        by_cases hlt2 : m < k
        · obtain ⟨p, b, hb, c1, c2, c3⟩ := hcell.out k hlt
          obtain ⟨q, d, hd, e1, e2, e3⟩ := hcell.out m (by omega)
          have C1 := (hbr2.cell (p := ⟨g, k, none⟩) hgb.2).trans c1
          have C2 := (hbr2.cell (p := ⟨b, 0, none⟩) hb).trans c2
          have C3 := (hbr2.cell (p := ⟨b, 1, none⟩) hb).trans c3
          have E1 := (hbr2.cell (p := ⟨g, m, none⟩) hgb.2).trans e1
          have E2 := (hbr2.cell (p := ⟨d, 0, none⟩) hd).trans e2
          have E3 := (hbr2.cell (p := ⟨d, 1, none⟩) hd).trans e3
          clear c1 c2 c3 e1 e2 e3
          have i1 : (0 : Int) ≤ (k : Int) := by omega
          have i2 : (k : Int) < (n : Int) := by omega
          have i3 : (0 : Int) ≤ (m : Int) := by omega
          have i4 : (m : Int) < (n : Int) := by omega
          have i5 : (m : Int) < (k : Int) := by omega
          cases hx1 : (p.1 == q.1)
          · go_wp2_with fail
            go_quiet (fail)
            go_wp2
            go_roundw
            case rel => exact ⟨m + 1, by omega, by omega, by go_num, below_drewN hbr2 _⟩
            case measure => simp [intOf]; omega
          · cases hy1 : (p.2 == q.2)
            · go_wp2_with fail
              go_quiet (fail)
              go_wp2
              go_roundw
              case rel => exact ⟨m + 1, by omega, by omega, by go_num, below_drewN hbr2 _⟩
              case measure => simp [intOf]; omega
            · go_wp2_with fail
              go_quiet (fail)
              go_wp2
              go_ret
              exact ⟨⟨_, rfl⟩, below_drewN (hb1.trans (hbr2.mono hb1.size)) _⟩
        · obtain rfl : m = k := by omega
          go_wp2
          go_roundw
          case rel => exact ⟨m + 1, by omega, by omega, by go_num, hbr2⟩
          case measure => simp [intOf]; omega
    · obtain rfl : k = n := by omega
      go_wp2_with (first | (go_at_call 53; refine (HCL.out _).mono ?_; rintro e w2 ⟨rfl, hb2⟩))
      go_ret
      exact ⟨⟨_, rfl⟩, (hb1.trans (hbr.mono hb1.size)).trans (hb2.mono (hb1.trans (hbr.mono hb1.size)).size)⟩

set_option maxHeartbeats 800000 in
theorem specSimple_any (s : ByteArray) (w : World) (hs : s.size ≤ 1048576) :
    Calls Tryz.prog 54 #[.string s] w fun e w' => (∃ b : Bool, e = .returned (.bool b)) ∧ Below w.heap.size w w' := by
  cases hok : Tw.walkOk s.data.toList
  · have HOK := Lib.hid hok
    go_enter Tryz.func54, Tryz.ntmps54
    go_wp2_with (first
      | (go_at_call 50; refine (specPlacesOf_no _ _ hs HOK.out).mono ?_; rintro e w1 ⟨⟨a, c, rfl⟩, hb1⟩))
    refine wp_loop_rounds 1 ?_
    rw [rounds_succ]
    go_wp2_with (first | (go_at_call 53; refine (specClosedOk s _ hs).mono ?_; rintro e w2 ⟨rfl, hb2⟩))
    go_ret
    exact ⟨⟨_, rfl⟩, hb1.trans (hb2.mono hb1.size)⟩
  · exact specSimple_yes s w hs hok

end Go.Proofs.YtccdfndnjjjgfaaGreatDoor

namespace Go.Proofs.YtccdfndnjjjgfaaGreatDoor
open Go.RowKit

set_option maxRecDepth 100000 in
set_option maxHeartbeats 800000 in
theorem spec_number0 (n : Int) (w : World) (h0 : 0 ≤ n) (h1 : n ≤ 99) (x : ByteArray) (hx2 : x.size ≤ 2) (hx : Hid (Tw.str (Lib.decDigits n.toNat) = x)) :
    Calls Tryz.prog 84 #[.agg #[.int .i64 0, .int .i64 n]] w fun e w' => e = .returned (.string ((⟨#[115, 116, 101, 112, 32]⟩ : ByteArray) ++ x)) ∧ Below w.heap.size w w' := by
  have hnum : Hid (∀ W : World, Calls Tryz.prog 51 #[.int .i64 n] W fun e w' => e = .returned (.string x) ∧ Below W.heap.size W w') := by
    intro W
    obtain ⟨m, rfl⟩ := Int.eq_ofNat_of_zero_le h0
    have h := number_small m (by omega) W
    rwa [show Tw.str (Lib.decDigits m) = x from hx.out] at h
  clear hx
  go_enter Tryz.func84, Tryz.ntmps84
  go_wp2_with (first
    | (go_at_call 110; refine (in_yes n 0 99 _ h0 h1).mono ?_; rintro e w' ⟨rfl, rfl⟩)
    | (go_at_call 51; refine (hnum.out _).mono ?_; rintro e w2 ⟨rfl, hb2⟩))
  go_ret
  exact ⟨rfl, ((Below.refl _ _).alloc (Nat.le_refl _) _).trans (hb2.mono (by simp))⟩
set_option maxRecDepth 100000 in
set_option maxHeartbeats 800000 in
theorem spec_bad0 (n : Int) (w : World) (hn : ¬ (0 ≤ n ∧ n ≤ 99)) :
    Calls Tryz.prog 84 #[.agg #[.int .i64 0, .int .i64 n]] w fun e w' => e = .returned (.string ⟨#[]⟩) ∧ Below w.heap.size w w' := by
  go_enter Tryz.func84, Tryz.ntmps84
  go_wp2_with (first
    | (go_at_call 110; refine (in_no n 0 99 _ hn).mono ?_; rintro e w' ⟨rfl, rfl⟩))
  go_ret
  exact ⟨rfl, deed_below _ _ _⟩
set_option maxRecDepth 100000 in
set_option maxHeartbeats 800000 in
theorem spec_number2 (n : Int) (w : World) (h0 : 0 ≤ n) (h1 : n ≤ 99) (x : ByteArray) (hx2 : x.size ≤ 2) (hx : Hid (Tw.str (Lib.decDigits n.toNat) = x)) :
    Calls Tryz.prog 84 #[.agg #[.int .i64 2, .int .i64 n]] w fun e w' => e = .returned (.string ((⟨#[119, 97, 121, 32]⟩ : ByteArray) ++ x)) ∧ Below w.heap.size w w' := by
  have hnum : Hid (∀ W : World, Calls Tryz.prog 51 #[.int .i64 n] W fun e w' => e = .returned (.string x) ∧ Below W.heap.size W w') := by
    intro W
    obtain ⟨m, rfl⟩ := Int.eq_ofNat_of_zero_le h0
    have h := number_small m (by omega) W
    rwa [show Tw.str (Lib.decDigits m) = x from hx.out] at h
  clear hx
  go_enter Tryz.func84, Tryz.ntmps84
  go_wp2_with (first
    | (go_at_call 110; refine (in_yes n 0 99 _ h0 h1).mono ?_; rintro e w' ⟨rfl, rfl⟩)
    | (go_at_call 51; refine (hnum.out _).mono ?_; rintro e w2 ⟨rfl, hb2⟩))
  go_ret
  exact ⟨rfl, ((Below.refl _ _).alloc (Nat.le_refl _) _).trans (hb2.mono (by simp))⟩
set_option maxRecDepth 100000 in
set_option maxHeartbeats 800000 in
theorem spec_bad2 (n : Int) (w : World) (hn : ¬ (0 ≤ n ∧ n ≤ 99)) :
    Calls Tryz.prog 84 #[.agg #[.int .i64 2, .int .i64 n]] w fun e w' => e = .returned (.string ⟨#[]⟩) ∧ Below w.heap.size w w' := by
  go_enter Tryz.func84, Tryz.ntmps84
  go_wp2_with (first
    | (go_at_call 110; refine (in_no n 0 99 _ hn).mono ?_; rintro e w' ⟨rfl, rfl⟩))
  go_ret
  exact ⟨rfl, deed_below _ _ _⟩
set_option maxRecDepth 100000 in
set_option maxHeartbeats 800000 in
theorem spec_number3 (n : Int) (w : World) (h0 : 0 ≤ n) (h1 : n ≤ 99) (x : ByteArray) (hx2 : x.size ≤ 2) (hx : Hid (Tw.str (Lib.decDigits n.toNat) = x)) :
    Calls Tryz.prog 84 #[.agg #[.int .i64 3, .int .i64 n]] w fun e w' => e = .returned (.string ((⟨#[111, 110, 32]⟩ : ByteArray) ++ x)) ∧ Below w.heap.size w w' := by
  have hnum : Hid (∀ W : World, Calls Tryz.prog 51 #[.int .i64 n] W fun e w' => e = .returned (.string x) ∧ Below W.heap.size W w') := by
    intro W
    obtain ⟨m, rfl⟩ := Int.eq_ofNat_of_zero_le h0
    have h := number_small m (by omega) W
    rwa [show Tw.str (Lib.decDigits m) = x from hx.out] at h
  clear hx
  go_enter Tryz.func84, Tryz.ntmps84
  go_wp2_with (first
    | (go_at_call 110; refine (in_yes n 0 99 _ h0 h1).mono ?_; rintro e w' ⟨rfl, rfl⟩)
    | (go_at_call 51; refine (hnum.out _).mono ?_; rintro e w2 ⟨rfl, hb2⟩))
  go_ret
  exact ⟨rfl, ((Below.refl _ _).alloc (Nat.le_refl _) _).trans (hb2.mono (by simp))⟩
set_option maxRecDepth 100000 in
set_option maxHeartbeats 800000 in
theorem spec_bad3 (n : Int) (w : World) (hn : ¬ (0 ≤ n ∧ n ≤ 99)) :
    Calls Tryz.prog 84 #[.agg #[.int .i64 3, .int .i64 n]] w fun e w' => e = .returned (.string ⟨#[]⟩) ∧ Below w.heap.size w w' := by
  go_enter Tryz.func84, Tryz.ntmps84
  go_wp2_with (first
    | (go_at_call 110; refine (in_no n 0 99 _ hn).mono ?_; rintro e w' ⟨rfl, rfl⟩))
  go_ret
  exact ⟨rfl, deed_below _ _ _⟩
set_option maxRecDepth 100000 in
set_option maxHeartbeats 800000 in
theorem spec_plain1 (w : World) :
    Calls Tryz.prog 84 #[.agg #[.int .i64 1, .int .i64 0]] w fun e w' => e = .returned (.string ⟨#[100, 114, 111, 112]⟩) ∧ Below w.heap.size w w' := by
  go_enter Tryz.func84, Tryz.ntmps84
  go_wp2
  go_ret
  exact ⟨rfl, deed_below _ _ _⟩
set_option maxRecDepth 100000 in
set_option maxHeartbeats 800000 in
theorem spec_odd1 (n : Int) (w : World) (hn : (n == 0) = false) :
    Calls Tryz.prog 84 #[.agg #[.int .i64 1, .int .i64 n]] w fun e w' => e = .returned (.string ⟨#[]⟩) ∧ Below w.heap.size w w' := by
  go_enter Tryz.func84, Tryz.ntmps84
  go_wp2
  go_ret
  exact ⟨rfl, deed_below _ _ _⟩
set_option maxRecDepth 100000 in
set_option maxHeartbeats 800000 in
theorem spec_plain4 (w : World) :
    Calls Tryz.prog 84 #[.agg #[.int .i64 4, .int .i64 0]] w fun e w' => e = .returned (.string ⟨#[102, 105, 114, 115, 116]⟩) ∧ Below w.heap.size w w' := by
  go_enter Tryz.func84, Tryz.ntmps84
  go_wp2
  go_ret
  exact ⟨rfl, deed_below _ _ _⟩
set_option maxRecDepth 100000 in
set_option maxHeartbeats 800000 in
theorem spec_odd4 (n : Int) (w : World) (hn : (n == 0) = false) :
    Calls Tryz.prog 84 #[.agg #[.int .i64 4, .int .i64 n]] w fun e w' => e = .returned (.string ⟨#[]⟩) ∧ Below w.heap.size w w' := by
  go_enter Tryz.func84, Tryz.ntmps84
  go_wp2
  go_ret
  exact ⟨rfl, deed_below _ _ _⟩
set_option maxRecDepth 100000 in
set_option maxHeartbeats 800000 in
theorem spec_plain5 (w : World) :
    Calls Tryz.prog 84 #[.agg #[.int .i64 5, .int .i64 0]] w fun e w' => e = .returned (.string ⟨#[98, 97, 99, 107]⟩) ∧ Below w.heap.size w w' := by
  go_enter Tryz.func84, Tryz.ntmps84
  go_wp2
  go_ret
  exact ⟨rfl, deed_below _ _ _⟩
set_option maxRecDepth 100000 in
set_option maxHeartbeats 800000 in
theorem spec_odd5 (n : Int) (w : World) (hn : (n == 0) = false) :
    Calls Tryz.prog 84 #[.agg #[.int .i64 5, .int .i64 n]] w fun e w' => e = .returned (.string ⟨#[]⟩) ∧ Below w.heap.size w w' := by
  go_enter Tryz.func84, Tryz.ntmps84
  go_wp2
  go_ret
  exact ⟨rfl, deed_below _ _ _⟩
set_option maxRecDepth 100000 in
set_option maxHeartbeats 800000 in
theorem spec_none (k n : Int) (w : World) (b0 : (k == 0) = false) (b1 : (k == 1) = false) (b2 : (k == 2) = false) (b3 : (k == 3) = false) (b4 : (k == 4) = false) (b5 : (k == 5) = false) :
    Calls Tryz.prog 84 #[.agg #[.int .i64 k, .int .i64 n]] w fun e w' => e = .returned (.string ⟨#[]⟩) ∧ Below w.heap.size w w' := by
  go_enter Tryz.func84, Tryz.ntmps84
  go_wp2
  go_ret
  exact ⟨rfl, deed_below _ _ _⟩

theorem specDeedText (k n : Int) (w : World) :
    Calls Tryz.prog 84 #[.agg #[.int .i64 k, .int .i64 n]] w fun e w' => e = .returned (.string (Tw.str (deedText k n))) ∧ Below w.heap.size w w' := by
  rcases (by omega : (k < 0 ∨ 6 ≤ k) ∨ (k = 0 ∨ k = 2 ∨ k = 3) ∨ (k = 1 ∨ k = 4 ∨ k = 5)) with hk | hk | hk
  · rw [text_none hk]
    exact spec_none k n w (beq_false_of_ne (by omega)) (beq_false_of_ne (by omega)) (beq_false_of_ne (by omega)) (beq_false_of_ne (by omega)) (beq_false_of_ne (by omega)) (beq_false_of_ne (by omega))
  · by_cases hn : 0 ≤ n ∧ n ≤ 99
    · rw [text_number hk hn.1 hn.2]
      have h2 : (Tw.str (Lib.decDigits n.toNat)).size ≤ 2 := dec_few (by omega)
      rcases hk with rfl | rfl | rfl
      · exact spec_number0 n w hn.1 hn.2 _ h2 (Lib.hid rfl)
      · exact spec_number2 n w hn.1 hn.2 _ h2 (Lib.hid rfl)
      · exact spec_number3 n w hn.1 hn.2 _ h2 (Lib.hid rfl)
    · rw [text_bad hk hn]
      rcases hk with rfl | rfl | rfl
      · exact spec_bad0 n w hn
      · exact spec_bad2 n w hn
      · exact spec_bad3 n w hn
  · by_cases hn : n = 0
    · subst hn
      rw [text_plain hk]
      rcases hk with rfl | rfl | rfl
      · exact spec_plain1 w
      · exact spec_plain4 w
      · exact spec_plain5 w
    · rw [text_odd hk hn]
      rcases hk with rfl | rfl | rfl
      · exact spec_odd1 n w (beq_false_of_ne hn)
      · exact spec_odd4 n w (beq_false_of_ne hn)
      · exact spec_odd5 n w (beq_false_of_ne hn)

end Go.Proofs.YtccdfndnjjjgfaaGreatDoor

namespace Go.Proofs.YtccdfndnjjjgfaaGreatDoor
open Go.RowKit

theorem dec_more {i : Nat} (h : 10 ≤ i) : Lib.decDigits i = Lib.decDigits (i / 10) ++ [UInt8.ofNat (48 + i % 10)] := by
  rw [Lib.decDigits, dif_neg (by omega)]
theorem dec_len {i : Nat} (h : i < 1000000000) : (Tw.str (Lib.decDigits i)).size ≤ 21 := by
  have := Lib.itoa_length_le (i : Int) (by omega) (by omega)
  rw [Lib.itoa_nonneg] at this
  rwa [Tw.str_size]
/-- The text of a number. -/
def numText (n : Int) : ByteArray := Tw.str (Lib.itoa n)
theorem numText_len {n : Int} (h0 : -1000000000 < n) (h1 : n < 1000000000) : (numText n).size ≤ 21 := by
  unfold numText
  rw [Tw.str_size]
  exact Lib.itoa_length_le n (by omega) (by omega)

set_option maxRecDepth 100000 in
set_option maxHeartbeats 25600000 in
theorem number_more (i : Nat) (hi : 10 ≤ i) (hi2 : i < 1000000000) (ih : ∀ W, Calls Tryz.prog 51 #[.int .i64 ((i / 10 : Nat) : Int)] W fun e w' => e = .returned (.string (Tw.str (Lib.decDigits (i / 10)))) ∧ Below W.heap.size W w') (w : World) :
    Calls Tryz.prog 51 #[.int .i64 i] w fun e w' => e = .returned (.string (Tw.str (Lib.decDigits i))) ∧ Below w.heap.size w w' := by
  have hm : i % 10 < 10 := by omega
  obtain ⟨p, hp⟩ : ∃ p, i / 10 = p := ⟨_, rfl⟩
  obtain ⟨q, hq⟩ : ∃ q, i % 10 = q := ⟨_, rfl⟩
  have hdec : Lib.decDigits i = Lib.decDigits p ++ [UInt8.ofNat (48 + q)] := by rw [dec_more hi, hp, hq]
  rw [hp] at ih
  rw [hq] at hm
  have eq1 : (i : Int).tdiv 10 = (p : Int) := by rw [Int.tdiv_eq_ediv_of_nonneg (by omega)]; omega
  have eq2 : (i : Int).tmod 10 = (q : Int) := by rw [Int.tmod_eq_emod_of_nonneg (by omega)]; omega
  have eq3 : IntKind.i64.wrap (48 + (q : Int)) = 48 + (q : Int) := IntWalk.i64_in _ (by omega)
  have eq4 : IntKind.u8.wrap (48 + (q : Int)) = 48 + (q : Int) := by
    simp [IntKind.wrap, IntKind.bits, IntKind.signed]
    omega
  have eq5 : (i : Int) / 10 = (p : Int) := by omega
  have eq6 : (i : Int) % 10 = (q : Int) := by omega
  obtain ⟨xp, hxp⟩ : ∃ x, Tw.str (Lib.decDigits p) = x := ⟨_, rfl⟩
  obtain ⟨xq, hxq⟩ : ∃ x, Tw.str [UInt8.ofNat (48 + q)] = x := ⟨_, rfl⟩
  have hsp : xp.size ≤ 21 := by rw [← hxp]; exact dec_len (by omega)
  have hsq : xq.size = 1 := by rw [← hxq]; rfl
  have hcv : ∀ W : World, (convert 36 9 (.slice (some ⟨W.heap.size, 0, none⟩) 1 1)).run Tryz.prog (W.alloc (.cells #[.int .u8 (48 + (q : Int))] 5)) = .ok (.string xq) (W.alloc (.cells #[.int .u8 (48 + (q : Int))] 5)) := fun W => hxq ▸ conv_digit hm W
  have hcv1 : (convert 36 9 (.slice (some ⟨w.heap.size, 0, none⟩) 1 1)).run Tryz.prog (w.alloc (.cells #[.int .u8 (48 + (q : Int))] 5)).drew = .ok (.string xq) (w.alloc (.cells #[.int .u8 (48 + (q : Int))] 5)).drew := hcv w.drew
  have hlater : Hid (∀ w1 : World, Below (w.alloc (.cells #[.int .u8 (48 + (q : Int))] 5)).drew.heap.size (w.alloc (.cells #[.int .u8 (48 + (q : Int))] 5)).drew w1 → (convert 36 9 (.slice (some ⟨w.heap.size, 0, none⟩) 1 1)).run Tryz.prog w1 = .ok (.string xq) w1) := fun w1 hb => hxq ▸ conv_later (W := w.drew) hm hb
  have hdig : Hid (∀ W : World, Calls Tryz.prog 51 #[.int .i64 p] W fun e w' => e = .returned (.string xp) ∧ Below W.heap.size W w') := fun W => hxp ▸ ih W
  have hpm : p < 1000000000 := by omega
  have hfit : ¬ 9223372036854775807 < xp.size + xq.size := by omega
  have hfit2 : ¬ 9223372036854775807 < xp.size + 1 := by omega
  clear ih
  have hsum : Hid (Tw.str (Lib.decDigits i) = xp ++ xq) := by
    show _ = _
    rw [hdec, ← hxp, ← hxq]
    exact (Tw.str_append _ _).symm
  have eq7 : IntKind.i64.wrap (p : Int) = p := IntWalk.i64_in _ (by omega)
  have eq8 : IntKind.i64.wrap (q : Int) = q := IntWalk.i64_in _ (by omega)
  have h0 : ¬ (i : Int) < 0 := by omega
  have h10 : ¬ (i : Int) < 10 := by omega
  clear hdec hp hq hxp hxq
  go_enter Tryz.func51, Tryz.ntmps51
  go_wp2_with fail
  go_region_law (first
    | (go_simp; go_at_call 51; first
        | (refine (hdig.out w.drew).mono ?_; rintro e w1 ⟨rfl, hb1⟩; have hb2 : Below w.heap.size w w1 := (Below.refl w.heap.size w).drew.trans hb1)
        | (refine (hdig.out (w.alloc (.cells #[.int .u8 (48 + (q : Int))] 5)).drew).mono ?_; rintro e w1 ⟨rfl, hb1⟩; have hcv2 := hlater.out w1 hb1; have hb2 : Below w.heap.size w w1 := (((Below.refl w.heap.size w).alloc (Nat.le_refl _) _).drew).trans (hb1.mono (by simp)))))
  all_goals
    go_wp2
    go_ret
    refine ⟨ret_str hsum.out.symm, ?_⟩
    first
      | exact hb2
      | exact hb2.alloc hb2.size _
theorem number_nat : ∀ (i : Nat), i < 1000000000 → ∀ w : World,
    Calls Tryz.prog 51 #[.int .i64 i] w fun e w' => e = .returned (.string (Tw.str (Lib.decDigits i))) ∧ Below w.heap.size w w' := by
  intro i
  induction i using Nat.strongRecOn with
  | ind i ih =>
    intro hi w
    rcases Nat.lt_or_ge i 10 with h | h
    · exact number_small i (by omega) w
    · exact number_more i h hi (fun W => ih (i / 10) (by omega) (by omega) W) w
set_option maxRecDepth 100000 in
set_option maxHeartbeats 3200000 in
theorem number_int (n : Int) (h0 : -1000000000 < n) (h1 : n < 1000000000) (w : World) :
    Calls Tryz.prog 51 #[.int .i64 n] w fun e w' => e = .returned (.string (numText n)) ∧ Below w.heap.size w w' := by
  rcases Int.lt_or_le n 0 with hn | hn
  · obtain ⟨m, hm⟩ : ∃ m : Nat, n = -(m : Int) := ⟨n.natAbs, by omega⟩
    have hm1 : 1 ≤ m := by omega
    have hmm : m < 1000000000 := by omega
    have ih := number_nat m hmm
    have hsz := dec_len hmm
    have htx : numText n = Tw.str [45] ++ Tw.str (Lib.decDigits m) := by
      unfold numText
      rw [hm, Lib.itoa_neg m hm1]
      exact (Tw.str_append [45] (Lib.decDigits m)).symm
    obtain ⟨x, hx⟩ : ∃ x, Tw.str (Lib.decDigits m) = x := ⟨_, rfl⟩
    rw [hx] at ih hsz htx
    have HTX := Lib.hid htx
    have IH := Lib.hid ih
    have hwr : IntKind.i64.wrap (-n) = (m : Int) := by rw [hm, Int.neg_neg]; exact IntWalk.i64_in _ (by omega)
    have hwr2 : -n = (m : Int) := by omega
    have hne : (n == (m : Int)) = false := beq_false_of_ne (by omega)
    have hfit : ¬ 9223372036854775807 < 1 + x.size := by omega
    clear ih htx hx hm
    go_enter Tryz.func51, Tryz.ntmps51
    go_wp2_with (first
      | (go_at_call 51; refine (IH.out _).mono ?_; rintro e w1 ⟨rfl, hb1⟩))
    go_ret
    exact ⟨ret_str HTX.out.symm, hb1⟩
  · obtain ⟨m, rfl⟩ : ∃ m : Nat, n = (m : Int) := ⟨n.toNat, by omega⟩
    have := number_nat m (by omega) w
    have e : numText (m : Int) = Tw.str (Lib.decDigits m) := by unfold numText; rw [Lib.itoa_nonneg]
    rwa [e]

end Go.Proofs.YtccdfndnjjjgfaaGreatDoor

namespace Go.Proofs.YtccdfndnjjjgfaaGreatDoor
open Go.RowKit

def words (sep : UInt8) (s : ByteArray) : List ByteArray := (cutAll sep s.data.toList).map Tw.str
theorem cut_count (sep : UInt8) : ∀ (l : List UInt8) (ps : List (List UInt8)) (cur : List UInt8), (l.foldl (cutStep sep) (ps, cur)).1.length ≤ ps.length + l.length
  | [], ps, cur => by simp
  | c :: l, ps, cur => by
    rw [List.foldl_cons, show cutStep sep (ps, cur) c = if c = sep then (ps ++ [cur], []) else (ps, cur ++ [c]) from rfl]
    split
    · have := cut_count sep l (ps ++ [cur]) []
      simp at *
      omega
    · have := cut_count sep l ps (cur ++ [c])
      simp at *
      omega
theorem cutState_few (sep : UInt8) (l : List UInt8) : (cutState sep l).1.length ≤ l.length := by
  have := cut_count sep l [] []
  unfold cutState
  simpa using this
theorem words_few (sep : UInt8) (s : ByteArray) : (words sep s).length ≤ s.size + 1 := by
  unfold words cutAll
  have := cutState_few sep s.data.toList
  rw [size_data] at this
  simp
  omega
theorem cut_small (sep : UInt8) : ∀ (l : List UInt8) (ps : List (List UInt8)) (cur : List UInt8) (B : Nat), (∀ p ∈ ps, p.length ≤ B) → cur.length + l.length ≤ B → (∀ p ∈ (l.foldl (cutStep sep) (ps, cur)).1, p.length ≤ B) ∧ (l.foldl (cutStep sep) (ps, cur)).2.length ≤ B
  | [], ps, cur, B, hp, hc => ⟨hp, by simpa using hc⟩
  | c :: l, ps, cur, B, hp, hc => by
    rw [List.foldl_cons, show cutStep sep (ps, cur) c = if c = sep then (ps ++ [cur], []) else (ps, cur ++ [c]) from rfl]
    rw [List.length_cons] at hc
    split
    · refine cut_small sep l (ps ++ [cur]) [] B (fun p h => ?_) (by simp; omega)
      rcases List.mem_append.1 h with h | h
      · exact hp p h
      · rw [List.mem_singleton.1 h]
        omega
    · exact cut_small sep l ps (cur ++ [c]) B hp (by simp; omega)
theorem part_size {sep : UInt8} {l p : List UInt8} (h : p ∈ cutAll sep l) : p.length ≤ l.length := by
  have := cut_small sep l [] [] l.length (fun p h => by cases h) (by simp)
  unfold cutAll cutState at h
  rcases List.mem_append.1 h with h | h
  · exact this.1 p h
  · rw [List.mem_singleton.1 h]
    exact this.2
theorem piece_at {s : ByteArray} {f k : Nat} : s.extract f k = Tw.str ((s.data.toList.take k).drop f) := by
  rw [← Tw.str_of (s.extract f k), Lib.extract_data]
  congr 1
  rw [List.drop_take]
theorem drop_snoc {l : List UInt8} {f k : Nat} (hk : k < l.length) (hf : f ≤ k) : (l.take (k + 1)).drop f = (l.take k).drop f ++ [l[k]] := by
  rw [List.take_succ_eq_append_getElem hk, List.drop_append_of_le_length (by rw [List.length_take]; omega)]

set_option maxRecDepth 100000 in
set_option maxHeartbeats 1600000 in
theorem cut_any (s : ByteArray) (sep : UInt8) (w : World) (hs : s.size ≤ 1048576) :
    Calls Tryz.prog 61 #[.string s, .int .u8 sep.toNat] w fun e w' => ∃ g cap, e = .returned (.slice (some ⟨g, 0, none⟩) (words sep s).length cap) ∧ w'.ownsRow w.heap.size 9 1 (.slice (some ⟨g, 0, none⟩) (words sep s).length cap) (words sep s).length (strVals (words sep s)) ∧ Below w.heap.size w w' := by
  obtain ⟨i0, hi0, hz0, hz1, hz2⟩ := info_parts stringInfo
  have hown0 := own_none w 9 w.heap.size (Nat.le_refl _)
  have HO := Lib.hid hown0
  clear hown0
  go_enter Tryz.func61, Tryz.ntmps61
  go_wp2
  go_loopw [5, 6, 7] (fun o f i wr => ∃ (g cap n from_ k : Nat) (ps : List (List UInt8)), o = .slice (some ⟨g, 0, none⟩) n cap ∧ f = .int .i64 from_ ∧ i = .int .i64 k ∧ k ≤ s.size ∧ from_ ≤ k ∧ n ≤ k ∧ wr.ownsRow w.heap.size 9 1 (.slice (some ⟨g, 0, none⟩) n cap) n (strVals (ps.map Tw.str)) ∧ Hid (cutState sep (s.data.toList.take k) = (ps, (s.data.toList.take k).drop from_)) ∧ Below w.heap.size w wr) (fun _ _ i _ => s.size - (intOf i).toNat)
  case atStart => exact ⟨_, _, 0, 0, 0, [], rfl, rfl, rfl, Nat.zero_le _, Nat.le_refl _, Nat.le_refl _, HO.out, rfl, (Below.refl _ _).alloc (Nat.le_refl _) _⟩
  case round =>
    obtain ⟨g, cap, n, from_, k, ps, rfl, rfl, rfl, hk, hf, hn, hown, HC, hb⟩ := hrel
    by_cases hlt : k < s.size
    · have hl : k < s.data.toList.length := by rw [size_data]; exact hlt
      cases hc : ((s[k].toNat : Int) == (sep.toNat : Int))
      · have hne : s.data.toList[k] ≠ sep := fun e => by
          have e2 : s[k] = sep := e
          rw [e2] at hc
          simp at hc
        have hne2 : ¬ (s[k].toNat : Int) = (sep.toNat : Int) := by simpa using hc
        have HNE := Lib.hid hne
        clear hne
        go_wp2_with fail
        go_roundw
        case rel =>
          refine ⟨g, cap, n, from_, k + 1, ps, rfl, rfl, by go_num, by omega, by omega, by omega, hown, ?_, hb⟩
          show _ = _
          rw [cutState_not hl HNE.out, HC.out, drop_snoc hl hf]
        case measure => simp [intOf]; omega
      · have heq : s.data.toList[k] = sep := by
          have := beq_iff_eq.1 hc
          have e2 : s[k].toNat = sep.toNat := by omega
          show s[k] = sep
          rw [← UInt8.ofNat_toNat (x := s[k]), e2, UInt8.ofNat_toNat]
        have HEQ := Lib.hid heq
        clear heq
        have hlen := hown.1
        go_wp2_with (first
          | (at_builtin; refine wpList_append_lies _ rfl _ _ 22 rfl w.heap.size 9 i0 _ 1 16 Tryz.underlying22 hi0 hz0 hz1 hz2 rfl (by omega) _ n (strVals (ps.map Tw.str)) rfl (hown.alloc _) ⟨wr.heap.size, 0, none⟩ 1 1 [.string (s.extract from_ k)] rfl rfl (World.news_of_block (cs := #[.string (s.extract from_ k)]) (t := 9) (fr := (0, 0)) (heap_alloc_new wr _)) (by simp [Value.oneCell']) (by omega) (by unfold maxLen; omega) (by omega) (by have := hb.size; simp; omega) (wr.heap.size + 1) (by simp) ?_; intro g4 cap4 w4 hown4 hgrow4 hat4 hlt4))
        go_roundw
        case rel =>
          refine ⟨g4, cap4, n + 1, k + 1, k + 1, ps ++ [(s.data.toList.take k).drop from_], rfl, by go_num, by go_num, by omega, Nat.le_refl _, by omega, ?_, ?_, ?_⟩
          · have e : strVals ((ps ++ [(s.data.toList.take k).drop from_]).map Tw.str) = strVals (ps.map Tw.str) ++ [.string (s.extract from_ k)] := by
              unfold strVals
              rw [piece_at]
              simp
            rw [e]
            exact hown4
          · show _ = _
            have e : (s.data.toList.take (k + 1)).drop (k + 1) = [] := List.drop_of_length_le (by rw [List.length_take]; exact Nat.min_le_left _ _)
            rw [cutState_sep hl HEQ.out, HC.out, e]
          · exact (hb.alloc hb.size _).grown hgrow4 (by have := hb.size; simp; omega) (fun j hj => by have := hown.lt j hj; omega)
        case measure => simp [intOf]; omega
    · obtain rfl : k = s.size := by omega
      go_wp2_with (first
        | (at_builtin; refine wpList_append_lies _ rfl _ _ 22 rfl w.heap.size 9 i0 _ 1 16 Tryz.underlying22 hi0 hz0 hz1 hz2 rfl (by omega) _ n (strVals (ps.map Tw.str)) rfl (hown.alloc _) ⟨wr.heap.size, 0, none⟩ 1 1 [.string (s.extract from_ s.size)] rfl rfl (World.news_of_block (cs := #[.string (s.extract from_ s.size)]) (t := 9) (fr := (0, 0)) (heap_alloc_new wr _)) (by simp [Value.oneCell']) (by omega) (by unfold maxLen; omega) (by omega) (by have := hb.size; simp; omega) (wr.heap.size + 1) (by simp) ?_; intro g4 cap4 w4 hown4 hgrow4 hat4 hlt4))
      go_ret
      have hlen := hown.1
      have hps : ps.length = n := by simpa [strVals] using hlen
      have hc := HC.out
      rw [List.take_of_length_le (by rw [size_data]; exact Nat.le_refl _)] at hc
      have e : words sep s = ps.map Tw.str ++ [s.extract from_ s.size] := by
        unfold words cutAll
        rw [hc, piece_at, List.take_of_length_le (by rw [size_data]; exact Nat.le_refl _)]
        simp
      have e1 : (words sep s).length = n + 1 := by rw [e]; simp [hps]
      have e2 : strVals (words sep s) = strVals (ps.map Tw.str) ++ [.string (s.extract from_ s.size)] := by rw [e]; unfold strVals; rw [List.map_append]; rfl
      rw [e1, e2]
      exact ⟨g4, cap4, rfl, hown4, (hb.alloc hb.size _).grown hgrow4 (by have := hb.size; simp; omega) (fun j hj => by have := hown.lt j hj; omega)⟩

end Go.Proofs.YtccdfndnjjjgfaaGreatDoor

namespace Go.Proofs.YtccdfndnjjjgfaaGreatDoor
open Go.RowKit

/-- A text cut at a byte, once. -/
def Cutting (c : UInt8) (s a b : List UInt8) (f : Bool) : Prop := (f = true ∧ s = a ++ c :: b ∧ c ∉ a) ∨ (f = false ∧ a = s ∧ c ∉ s ∧ b = [])
theorem cutting (c : UInt8) (s : List UInt8) : Cutting c s (Lib.cut s [c]).1 (Lib.cut s [c]).2.1 (Lib.cut s [c]).2.2 := by
  unfold Lib.cut
  rw [Lib.index_one]
  split
  · rename_i h
    obtain ⟨o, ho⟩ : ∃ o : Nat, Lib.indexByte s c = o := ⟨(Lib.indexByte s c).toNat, by omega⟩
    obtain ⟨h1, h2⟩ := Lib.indexByte_some ho
    have hlt := (List.getElem?_eq_some_iff.1 h1).1
    refine .inl ⟨rfl, ?_, ?_⟩
    · rw [ho]
      show s = s.take o ++ c :: s.drop (o + 1)
      have e : s[o] = c := (List.getElem?_eq_some_iff.1 h1).2
      rw [← e, ← List.drop_eq_getElem_cons hlt, List.take_append_drop]
    · rw [ho]
      intro hm
      obtain ⟨k, hk, e⟩ := List.getElem_of_mem hm
      have hk2 : k < o := by rw [List.length_take] at hk; simp at hk; omega
      refine h2 k hk2 ?_
      rw [List.getElem?_eq_getElem (by omega)]
      rw [List.getElem_take] at e
      rw [e]
  · rename_i h
    have hge := Lib.index_ge s [c]
    rw [Lib.index_one] at hge
    refine .inr ⟨rfl, rfl, fun hm => ?_, rfl⟩
    obtain ⟨k, hk, e⟩ := List.getElem_of_mem hm
    exact Lib.indexByte_none (l := s) (c := c) (by omega) k (by rw [List.getElem?_eq_getElem hk, e])
theorem cut_same {c : UInt8} : ∀ {a b a' b' : List UInt8}, a ++ c :: b = a' ++ c :: b' → c ∉ a → c ∉ a' → a = a' ∧ b = b'
  | [], _, [], _, h, _, _ => by simpa using h
  | [], _, x :: a', _, h, _, h2 => by
    simp at h
    exact absurd (by rw [h.1]; exact List.mem_cons_self) h2
  | x :: a, _, [], _, h, h1, _ => by
    simp at h
    exact absurd (by rw [h.1]; exact List.mem_cons_self) h1
  | x :: a, b, y :: a', b', h, h1, h2 => by
    simp only [List.cons_append, List.cons.injEq] at h
    have := cut_same h.2 (fun e => h1 (List.mem_cons_of_mem _ e)) (fun e => h2 (List.mem_cons_of_mem _ e))
    exact ⟨by rw [h.1, this.1], this.2⟩
theorem word_clean {k : Nat} (hk : k < 6) : (32 : UInt8) ∉ deedWord k ∧ deedWord k ≠ [] := by
  obtain rfl | rfl | rfl | rfl | rfl | rfl : k = 0 ∨ k = 1 ∨ k = 2 ∨ k = 3 ∨ k = 4 ∨ k = 5 := by omega
  all_goals decide
theorem told_kind {k n : Int} (h : told k n) : 0 ≤ k ∧ k < 6 := by unfold told at h; omega
def numbered (k : Nat) : Bool := k == 0 || k == 2 || k == 3
theorem numbered_iff {k : Int} (h0 : 0 ≤ k) : numbered k.toNat = true ↔ (k = 0 ∨ k = 2 ∨ k = 3) := by
  unfold numbered
  simp
  omega
/-- Of a text that is a deed's text: how it is cut. -/
theorem text_cut {s a b : List UInt8} {f : Bool} (h : Cutting 32 s a b f) {k n : Int} (h0 : s ≠ []) (ht : deedText k n = s) :
    0 ≤ k ∧ k < 6 ∧ a = deedWord k.toNat ∧ f = numbered k.toNat ∧ (f = true → 0 ≤ n ∧ n ≤ 99 ∧ b = Lib.decDigits n.toNat) ∧ (f = false → n = 0) := by
  have t := told_of (ht ▸ h0)
  obtain ⟨hk0, hk6⟩ := told_kind t
  have hw := word_clean (k := k.toNat) (by omega)
  rw [text_told t] at ht
  refine ⟨hk0, hk6, ?_⟩
  split at ht
  · rename_i hk
    have hn : 0 ≤ n ∧ n ≤ 99 := by unfold told at t; omega
    rcases h with ⟨rfl, hs, ha⟩ | ⟨rfl, rfl, hs, _⟩
    · obtain ⟨e1, e2⟩ := cut_same (ht.trans hs) hw.1 ha
      exact ⟨e1.symm, ((numbered_iff hk0).2 hk).symm, fun _ => ⟨hn.1, hn.2, e2.symm⟩, fun h => by cases h⟩
    · exact absurd (by rw [← ht]; simp) hs
  · rename_i hk
    have hn : n = 0 := by unfold told at t; omega
    have hf : numbered k.toNat = false := by rw [Bool.eq_false_iff]; exact fun h => hk ((numbered_iff hk0).1 h)
    rcases h with ⟨rfl, hs, ha⟩ | ⟨rfl, rfl, hs, _⟩
    · exact absurd (by rw [ht, hs]; simp) hw.1
    · exact ⟨ht.symm, hf.symm, fun h => (by cases h), fun _ => hn⟩
theorem read_plain {s a b : List UInt8} (h : Cutting 32 s a b false) {k : Nat} (hk : k < 6) (hw : deedWord k = a) (hn : numbered k = false) : readOf s = (((k : Int), 0), true) := by
  rcases h with ⟨h, _⟩ | ⟨_, rfl, _⟩
  · cases h
  · have hc := word_clean hk
    rw [hw] at hc
    refine readOf_of hc.2 ?_
    rw [text_told (.inr ⟨?_, rfl⟩), if_neg ?_]
    · exact hw
    · intro hx
      have := (numbered_iff (k := (k : Int)) (by omega)).2 hx
      rw [Int.toNat_natCast, hn] at this
      cases this
    · have hx : ¬ ((k : Int) = 0 ∨ (k : Int) = 2 ∨ (k : Int) = 3) := fun hx => by
        have := (numbered_iff (k := (k : Int)) (by omega)).2 hx
        rw [Int.toNat_natCast, hn] at this
        cases this
      omega
theorem read_number {s a b : List UInt8} (h : Cutting 32 s a b true) {k : Nat} (hk : k < 6) (hw : deedWord k = a) (hn : numbered k = true) (hb : numOk b 2 = true) : readOf s = (((k : Int), (numVal b : Int)), true) := by
  rcases h with ⟨_, hs, _⟩ | ⟨h, _⟩
  · obtain ⟨hd, hlt⟩ := dec_num hb
    have hx := (numbered_iff (k := (k : Int)) (by omega)).1 (by rw [Int.toNat_natCast]; exact hn)
    refine readOf_of (by rw [hs]; simp) ?_
    rw [text_told (.inl ⟨hx, by omega⟩), if_pos hx, Int.toNat_natCast, Int.toNat_natCast, hd, hw, hs]
  · cases h
theorem read_bad {s a b : List UInt8} (h : Cutting 32 s a b true) (hb : numOk b 2 = false) : readOf s = ((0, 0), false) := by
  refine readOf_none fun k n h0 ht => ?_
  obtain ⟨_, _, _, _, h1, _⟩ := text_cut h h0 ht
  obtain ⟨hn0, hn9, rfl⟩ := h1 rfl
  rw [(num_dec (by omega)).1] at hb
  cases hb
theorem read_other {s a b : List UInt8} {f : Bool} (h : Cutting 32 s a b f) (hno : ∀ j, j < 6 → ¬ (deedWord j = a ∧ numbered j = f)) : readOf s = ((0, 0), false) := by
  refine readOf_none fun k n h0 ht => ?_
  obtain ⟨hk0, hk6, h1, h2, _⟩ := text_cut h h0 ht
  exact hno k.toNat (by omega) ⟨h1.symm, h2.symm⟩

/-- What ReadDeed returns. -/
def ReadOut (s : List UInt8) (w : World) (e : Ending) (w' : World) : Prop := e = .returned (.tuple #[.agg #[.int .i64 (readOf s).1.1, .int .i64 (readOf s).1.2], .bool (readOf s).2]) ∧ Below w.heap.size w w'
theorem read_ret {s : List UInt8} {k n : Int} {b : Bool} (h : readOf s = ((k, n), b)) : Ending.returned (.tuple #[.agg #[.int .i64 k, .int .i64 n], .bool b]) = .returned (.tuple #[.agg #[.int .i64 (readOf s).1.1, .int .i64 (readOf s).1.2], .bool (readOf s).2]) := by rw [h]

/-- The library's own variable holds some number. -/
def MaxAt (w : World) : Prop := ∃ m, w.cell? ⟨2, 0, none⟩ = some (.int .i64 m)
theorem MaxAt.below' {w w' : World} (h : MaxAt w) (hb : Below w.heap.size w w') : MaxAt w' := by
  obtain ⟨m, hm⟩ := h
  exact ⟨m, cell_keep hb hm⟩
theorem maxAt {w : World} (h : w.ShapedOpen Tryz.prog) : MaxAt w := Tryz.laysM145.s1_3 w h
def CutOut (c : UInt8) (s : ByteArray) (w : World) (e : Ending) (w' : World) : Prop := ∃ (a b : List UInt8) (f : Bool), e = .returned (.tuple #[.string (Tw.str a), .string (Tw.str b), .bool f]) ∧ Cutting c s.data.toList a b f ∧ Below w.heap.size w w'
theorem strCut_any (s : ByteArray) (c : UInt8) (w : World) (hm : MaxAt w) (hs : s.size ≤ 1048576) :
    Calls Tryz.prog 73 #[.string s, .string ⟨#[c]⟩] w (CutOut c s w) := by
  obtain ⟨m, hm⟩ := hm
  refine (Tryz.strings_Cut s ⟨#[c]⟩ m w (by omega) hm).mono ?_
  rintro e w' ⟨rfl, n, rfl⟩
  exact ⟨_, _, _, rfl, cutting c s.data.toList, below_drewN (Below.refl _ _) _⟩

theorem withNumber_is (k : Nat) (hk : k < 6) (w : World) (b : Bool) (hb : numbered k = b) :
    Calls Tryz.prog 75 #[.int .i64 k] w fun e w' => e = .returned (.bool b) ∧ w = w' := hb ▸ withNumber_any k hk w
set_option maxRecDepth 100000 in
set_option maxHeartbeats 1600000 in
theorem implReadDeed (s : ByteArray) (w : World) (hw : WordsAt w) (hm : MaxAt w) (hs : s.size ≤ 1048576) :
    Calls Tryz.prog 44 #[.string s] w (ReadOut s.data.toList w) := by
  obtain ⟨W, hW⟩ : ∃ W, W = w.alloc (.cells #[.int .i64 0, .int .i64 0] 53) := ⟨_, rfl⟩
  have hb0 : Below w.heap.size w W := by rw [hW]; exact (Below.refl _ _).alloc (Nat.le_refl _) _
  have hWs : W.heap.size = w.heap.size + 1 := by rw [hW]; simp
  have hr0 : W.heap[w.heap.size]? = some (.cells #[.int .i64 0, .int .i64 0] 53 (0, 0)) := by rw [hW]; exact heap_alloc_new _ _
  have hct := strCut_any s 32 W (hm.below' hb0) hs
  have hwd := hw.below' hb0
  have HCT := Lib.hid hct
  have HWD := Lib.hid hwd
  have HR0 := Lib.hid hr0
  have HW := Lib.hid hW
  clear hct hwd hr0 hW
  go_enter Tryz.func44, Tryz.ntmps44
  go_wp2_with fail
  rw [← HW.out]
  go_wp2_with (first
    | (go_at_call 73; refine HCT.out.mono ?_; rintro e w1 ⟨a, b, f, rfl, hcut, hb1⟩; have HCU := Lib.hid hcut; clear hcut))
  have hb2 : Below w.heap.size w w1 := hb0.trans (hb1.mono hb0.size)
  have hrow := (hb1.block w.heap.size (by omega)).trans HR0.out
  have r0 := cell_of_row _ _ 0 _ _ _ hrow
  have r1 := cell_of_row _ _ 1 _ _ _ hrow
  have f0 := frozen_of_row _ _ 0 _ _ hrow
  have f1 := frozen_of_row _ _ 1 _ _ hrow
  have HROW := Lib.hid hrow
  have hwd1 := HWD.out.below' hb1
  have HWD1 := Lib.hid hwd1
  obtain ⟨x, hx⟩ : ∃ x, Tw.str a = x := ⟨_, rfl⟩
  obtain ⟨y, hy⟩ : ∃ y, Tw.str b = y := ⟨_, rfl⟩
  have hyd : y.data.toList = b := by rw [← hy]; rfl
  have hyl : y.size ≤ 1048576 := by
    rw [← hy, Tw.str_size]
    rcases HCU.out with ⟨_, e, _⟩ | ⟨_, _, _, e⟩
    · have e2 := congrArg List.length e
      rw [size_data, List.length_append, List.length_cons] at e2
      omega
    · rw [e]
      simp
  have hnum := fun W => readNumber_any y 2 (by omega) W (by omega)
  rw [hyd] at hnum
  obtain ⟨nr, hnr⟩ : ∃ r, numRes b 2 = r := ⟨_, rfl⟩
  obtain ⟨no, hno⟩ : ∃ r, numOk b 2 = r := ⟨_, rfl⟩
  have hnum2 : Hid (∀ W : World, Calls Tryz.prog 85 #[.string y, .int .i64 2] W fun e w' => e = .returned (.tuple #[.int .i64 nr, .bool no]) ∧ W = w') := fun W => by
    have := hnum W
    unfold NumOut at this
    rwa [hnr, hno] at this
  have HNR := Lib.hid hnr
  have HNO := Lib.hid hno
  rw [hx, hy]
  have HX := Lib.hid hx
  clear hrow hwd1 hyd hnum hnr hno hx hy hb1 hb0 hWs
  go_loop [16] (fun i => ∃ k : Nat, k ≤ 6 ∧ i = .int .i64 k ∧ Hid (∀ j, j < k → ¬ (deedWord j = a ∧ numbered j = f))) (fun i => 6 - (intOf i).toNat)
  case atStart => exact ⟨0, by omega, rfl, fun j hj => absurd hj (by omega)⟩
  case round =>
    obtain ⟨k, hk, rfl, HK⟩ := hrel
    by_cases hlt : k < 6
    · have c := HWD1.out k hlt
      obtain ⟨z, hz⟩ : ∃ z, Tw.str (deedWord k) = z := ⟨_, rfl⟩
      rw [hz] at c
      have hk3 : (0 : Int) ≤ (k : Int) := by omega
      have hk4 : (k : Int) < 6 := by omega
      have hwn := fun W => withNumber_is k hlt W _ rfl
      have hiff : (z.toList == x.toList) = decide (deedWord k = a) := by
        rw [eq_bytes, ← hz, ← HX.out]
        refine decide_eq_decide.2 ⟨fun h => ?_, fun h => by rw [h]⟩
        exact (Tw.str_data _).symm.trans ((congrArg (fun b : ByteArray => b.data.toList) h).trans (Tw.str_data _))
      have HZ := Lib.hid hz
      clear hz
      cases hd : decide (deedWord k = a)
      · rw [hd] at hiff
        have HD := Lib.hid (of_decide_eq_false hd)
        clear hd hwn
        go_wp2_with fail
        go_round
        case rel =>
          refine ⟨k + 1, by omega, by go_num, fun j hj h9 => ?_⟩
          rcases Nat.lt_or_ge j k with h8 | h8
          · exact HK.out j h8 h9
          · obtain rfl : j = k := by omega
            exact HD.out h9.1
        case measure => simp [intOf]; omega
      · rw [hd] at hiff
        have HD := Lib.hid (of_decide_eq_true hd)
        obtain ⟨b', hb'⟩ : ∃ b', numbered k = b' := ⟨_, rfl⟩
        rw [hb'] at hwn
        have HWN := Lib.hid hwn
        have HB := Lib.hid hb'
        clear hd hwn hb'
        rcases (by cases f <;> cases b' <;> simp : (f = false ∧ b' = false) ∨ (f = true ∧ b' = true) ∨ f ≠ b') with ⟨rfl, rfl⟩ | ⟨rfl, rfl⟩ | hne
        · have q := pair_put HROW.out (.int .i64 (k : Int)) (.int .i64 0)
          have q0 := cell_of_row _ _ 0 _ _ _ q
          have q1 := cell_of_row _ _ 1 _ _ _ q
          clear q
          go_wp2_with (first
            | (go_at_call 75; refine (HWN.out _).mono ?_; rintro e w' ⟨rfl, rfl⟩))
          refine bodyPost_ret (v := .tuple #[.agg #[.int .i64 (k : Int), .int .i64 0], .bool true]) (by simp [results, Tryz.results44, go_sem, q0, q1]) rfl ⟨read_ret (read_plain HCU.out hlt HD.out HB.out), ?_⟩
          exact (hb2.setCell (Nat.le_refl _) _).setCell (Nat.le_refl _) _
        · cases no
          · have q := pair_put HROW.out (.int .i64 0) (.int .i64 0)
            have q0 := cell_of_row _ _ 0 _ _ _ q
            have q1 := cell_of_row _ _ 1 _ _ _ q
            clear q
            go_wp2_with (first
              | (go_at_call 75; refine (HWN.out _).mono ?_; rintro e w' ⟨rfl, rfl⟩)
              | (go_at_call 85; refine (hnum2.out _).mono ?_; rintro e w' ⟨rfl, rfl⟩))
            refine bodyPost_ret (v := .tuple #[.agg #[.int .i64 0, .int .i64 0], .bool false]) (by simp [results, Tryz.results44, go_sem, q0, q1]) rfl ⟨read_ret (read_bad HCU.out HNO.out), ?_⟩
            exact (hb2.setCell (Nat.le_refl _) _).setCell (Nat.le_refl _) _
          · have q := pair_put HROW.out (.int .i64 (k : Int)) (.int .i64 nr)
            have q0 := cell_of_row _ _ 0 _ _ _ q
            have q1 := cell_of_row _ _ 1 _ _ _ q
            clear q
            go_wp2_with (first
              | (go_at_call 75; refine (HWN.out _).mono ?_; rintro e w' ⟨rfl, rfl⟩)
              | (go_at_call 85; refine (hnum2.out _).mono ?_; rintro e w' ⟨rfl, rfl⟩))
            have e9 : (numVal b : Int) = nr := by
              rw [← HNR.out]
              unfold numRes
              rw [HNO.out]
              rfl
            refine bodyPost_ret (v := .tuple #[.agg #[.int .i64 (k : Int), .int .i64 nr], .bool true]) (by simp [results, Tryz.results44, go_sem, q0, q1]) rfl ⟨read_ret (e9 ▸ read_number HCU.out hlt HD.out HB.out HNO.out), ?_⟩
            exact (hb2.setCell (Nat.le_refl _) _).setCell (Nat.le_refl _) _
        · have hnew : Hid (∀ j, j < k + 1 → ¬ (deedWord j = a ∧ numbered j = f)) := fun j hj h9 => by
            rcases Nat.lt_or_ge j k with h8 | h8
            · exact HK.out j h8 h9
            · obtain rfl : j = k := by omega
              exact hne (h9.2.symm.trans HB.out)
          have hbb : (f = false ∧ b' = true) ∨ (f = true ∧ b' = false) := by
            cases f <;> cases b' <;> simp at hne ⊢
          clear hne
          rcases hbb with ⟨rfl, rfl⟩ | ⟨rfl, rfl⟩
          all_goals
            go_wp2_with (first
              | (go_at_call 75; refine (HWN.out _).mono ?_; rintro e w' ⟨rfl, rfl⟩))
            go_round
            case rel => exact ⟨k + 1, by omega, by go_num, hnew⟩
            case measure => simp [intOf]; omega
    · obtain rfl : k = 6 := by omega
      have q := pair_put HROW.out (.int .i64 0) (.int .i64 0)
      have q0 := cell_of_row _ _ 0 _ _ _ q
      have q1 := cell_of_row _ _ 1 _ _ _ q
      clear q
      go_wp2_with fail
      refine bodyPost_ret (v := .tuple #[.agg #[.int .i64 0, .int .i64 0], .bool false]) (by simp [results, Tryz.results44, go_sem, q0, q1]) rfl ⟨read_ret (read_other HCU.out HK.out), ?_⟩
      exact (hb2.setCell (Nat.le_refl _) _).setCell (Nat.le_refl _) _

end Go.Proofs.YtccdfndnjjjgfaaGreatDoor

namespace Go.Proofs.YtccdfndnjjjgfaaGreatDoor
open Go.RowKit

/-- What the answer to a deed is. -/
def okWord (b : Bool) : ByteArray := if b then ⟨#[111, 107]⟩ else ⟨#[110, 111, 116]⟩
def LineOut (w : World) (x : ByteArray) (ys : List ByteArray) (t : ByteArray) (e : Ending) (w' : World) : Prop := ∃ v', e = .returned (.tuple #[.agg #[.string x, v'], .string t]) ∧ PastAt w' v' ys ∧ Fresh w.heap.size v' ∧ Below w.heap.size w w'
theorem line_done {w X : World} {R : Nat} {x : ByteArray} {v : Value} {ys : List ByteArray} {t : ByteArray} (e : Ext w X) (hp : PastAt X v ys) (hf : Fresh w.heap.size v) (hne : v.ownBlock ≠ some R) (hR : w.heap.size ≤ R) :
    LineOut w x ys t (.returned (.tuple #[.agg #[.string x, v], .string t])) ((X.setCell ⟨R, 0, none⟩ (.string x)).setCell ⟨R, 1, none⟩ v) :=
  ⟨_, rfl, past_put (past_put hp _ _ hne) _ _ hne, hf, (e.setCell hR _).setCell hR _⟩

set_option maxRecDepth 100000 in
set_option maxHeartbeats 1600000 in
theorem implLine_deed (s : ByteArray) (a : Option Addr) (c L : Nat) (zs : List ByteArray) (X : ByteArray) (d1 d2 : Int) (w : World) (h : PastAt w (.slice a L c) zs) (hok : Hid (deskOk s zs = true)) (hX : X.size ≤ 1048576) (hr : Hid (readOf X.data.toList = ((d1, d2), true)))
    (x : ByteArray) (ys : List ByteArray) (b : Bool) (hd : Hid (deskDone s zs d1 d2 = (x, ys, b))) (hw : WaysAt w) (hdd : DirsAt w) (hwd : WordsAt w) (hmx : MaxAt w) :
    Calls Tryz.prog 21 #[.agg #[.string s, .slice a L c], .string X] w (LineOut w x ys (okWord b)) := by
  obtain ⟨h1, h8, hz⟩ := deskOk_parts hok.out
  obtain ⟨e0, hsz, r0, r1⟩ := desk2_in w s (.slice a L c)
  obtain ⟨W, hW⟩ : ∃ W, deskBox2 w s (.slice a L c) = W := ⟨_, rfl⟩
  rw [hW] at e0 hsz r0 r1
  unfold deskBox2 at hW
  have HW := Lib.hid hW
  have HDK := Lib.hid (deskOk_namedI s (.slice a L c) zs W (e0.strs h.strs) (by have := ok_size h1; omega) (by omega) (fun z hz9 => by have := ok_size (hz z hz9); omega) true hok.out)
  have HRD : Hid (∀ Y, Ext w Y → Calls Tryz.prog 44 #[.string X] Y fun e w' => e = .returned (.tuple #[.agg #[.int .i64 d1, .int .i64 d2], .bool true]) ∧ Below Y.heap.size Y w') := fun Y hY => by
    refine (implReadDeed X Y (hwd.below' hY) (hmx.below' hY) hX).mono ?_
    rintro e w' ⟨he, hb⟩
    rw [hr.out] at he
    exact ⟨he, hb⟩
  have HDO : Hid (∀ Y, Ext w Y → Calls Tryz.prog 45 #[.agg #[.string s, .slice a L c], .agg #[.int .i64 d1, .int .i64 d2]] Y (DeskOut Y x ys b)) := fun Y hY => by
    have := implDeskDone s (.slice a L c) zs d1 d2 Y (hY.past h) hok.out (hw.below' hY) (hdd.below' hY)
    rw [hd.out] at this
    exact this
  have R0 := Lib.hid r0
  have R1 := Lib.hid r1
  have E0 := Lib.hid e0
  have c0 := cell_of_row _ _ 0 _ _ _ r0
  have c1 := cell_of_row _ _ 1 _ _ _ r0
  clear hW r0 r1 h hw hdd hwd hmx hz h1 h8 e0
  cases b
  all_goals
    go_enter Tryz.func21, Tryz.ntmps21
    go_wp2_with fail
    rw [HW.out]
    go_wp2_with (first
      | (go_at_call 27; refine HDK.out.mono ?_; rintro e w1 ⟨rfl, hb1⟩; have E1 : Hid (Ext W w1) := hb1; clear hb1)
      | (go_at_call 44; refine (HRD.out w1 (E0.out.trans E1.out)).mono ?_; rintro e w2 ⟨rfl, hb2⟩; have E2 : Hid (Ext W w2) := Ext.call E1.out hb2; have E2A : Hid (Ext W (w2.alloc (.cells #[.int .i64 d1, .int .i64 d2] 53))) := E2.out.alloc _; have hra := E2A.out.row R0.out; have k0 := cell_of_row _ _ 0 _ _ _ hra; have k1 := cell_of_row _ _ 1 _ _ _ hra; clear hb2 hra)
      | (go_at_call 45; refine (HDO.out _ (E0.out.trans E2A.out)).mono ?_; rintro e w3 ⟨v3, rfl, hp3, hf3, hb3⟩; obtain ⟨a3, c3, hv3⟩ := past_slice hp3 rfl; subst hv3; have E3 : Hid (Ext W w3) := Ext.call E2A.out hb3; have P3 := Lib.hid hp3; have F3 := Lib.hid (fresh_ext E2A.out hf3); have E3A : Hid (Ext W (w3.alloc (.cells #[.string x, .slice a3 ys.length c3] 27))) := E3.out.alloc _; have hrb := E3A.out.row R1.out; have f0 := frozen_of_row _ _ 0 _ _ hrb; have f1 := frozen_of_row _ _ 1 _ _ hrb; have m0 := cell_of_row _ _ 0 _ _ _ hrb; have m1 := cell_of_row _ _ 1 _ _ _ hrb; have q := pair_put hrb (.string x) (.slice a3 ys.length c3); have q0 := cell_of_row _ _ 0 _ _ _ q; have q1 := cell_of_row _ _ 1 _ _ _ q; clear hp3 hf3 hb3 hrb q))
  · refine bodyPost_ret (v := .tuple #[.agg #[.string x, .slice a3 ys.length c3], .string ⟨#[110, 111, 116]⟩]) (by simp [results, Tryz.results21, go_sem, q0, q1]) rfl ?_
    exact line_done (R := w.heap.size + 1) (t := ⟨#[110, 111, 116]⟩) (E0.out.trans E3A.out) (((Ext.refl _).alloc _).past P3.out) (fresh_ext E0.out F3.out) (fun h9 => by have := F3.out _ h9; omega) (by omega)
  · refine bodyPost_ret (v := .tuple #[.agg #[.string x, .slice a3 ys.length c3], .string ⟨#[111, 107]⟩]) (by simp [results, Tryz.results21, go_sem, q0, q1]) rfl ?_
    exact line_done (R := w.heap.size + 1) (t := ⟨#[111, 107]⟩) (E0.out.trans E3A.out) (((Ext.refl _).alloc _).past P3.out) (fresh_ext E0.out F3.out) (fun h9 => by have := F3.out _ h9; omega) (by omega)
end Go.Proofs.YtccdfndnjjjgfaaGreatDoor

namespace Go.Proofs.YtccdfndnjjjgfaaGreatDoor
namespace Tw

/-- The steps to the north and to the south: how far to the east, on which height, and which way. -/
def upsFrom : Int × Int → List UInt8 → List (Int × Int × Int)
  | _, [] => []
  | p, c :: l => (if north (dir c) = 0 then [] else [(p.1, min p.2 (p.2 + north (dir c)), north (dir c))]) ++ upsFrom (step p c) l
def ups (l : List UInt8) : List (Int × Int × Int) := upsFrom (0, 0) l
theorem upsFrom_append : ∀ (l m : List UInt8) (p : Int × Int), upsFrom p (l ++ m) = upsFrom p l ++ upsFrom (l.foldl step p) m
  | [], m, p => by simp [upsFrom]
  | c :: l, m, p => by
    show _ ++ upsFrom (step p c) (l ++ m) = (_ ++ upsFrom (step p c) l) ++ upsFrom (l.foldl step (step p c)) m
    rw [upsFrom_append l m (step p c), List.append_assoc]
def upsTo (l : List UInt8) (k : Nat) : List (Int × Int × Int) := ups (l.take k)
theorem upsTo_succ {l : List UInt8} {k : Nat} (h : k < l.length) : upsTo l (k + 1) = upsTo l k ++ (if north (dir l[k]) = 0 then [] else [((placeAt l k).1, min (placeAt l k).2 ((placeAt l k).2 + north (dir l[k])), north (dir l[k]))]) := by
  unfold upsTo ups
  rw [List.take_succ_eq_append_getElem h, upsFrom_append]
  show _ ++ (_ ++ []) = _
  rw [List.append_nil]
  rfl
theorem upsTo_all (l : List UInt8) : upsTo l l.length = ups l := by unfold upsTo; rw [List.take_length]

/-- How often the steps go round a square. -/
def oneWind (x y : Int) (u : Int × Int × Int) : Int := if u.2.1 = y ∧ x < u.1 then u.2.2 else 0
def wind (us : List (Int × Int × Int)) (x y : Int) : Int := (us.map (oneWind x y)).sum
/-- How many steps are farther to the east on the height. -/
def oneOdd (x y : Int) (u : Int × Int × Int) : Nat := if u.2.1 = y ∧ x < u.1 then 1 else 0
def farther (us : List (Int × Int × Int)) (x y : Int) : Nat := (us.map (oneOdd x y)).sum
theorem wind_append (us vs : List (Int × Int × Int)) (x y : Int) : wind (us ++ vs) x y = wind us x y + wind vs x y := by
  unfold wind
  rw [List.map_append, List.sum_append]
theorem farther_append (us vs : List (Int × Int × Int)) (x y : Int) : farther (us ++ vs) x y = farther us x y + farther vs x y := by
  unfold farther
  rw [List.map_append, List.sum_append]
theorem wind_one (u : Int × Int × Int) (x y : Int) : wind [u] x y = oneWind x y u := by simp [wind]
theorem farther_one (u : Int × Int × Int) (x y : Int) : farther [u] x y = oneOdd x y u := by simp [farther]
theorem wind_nil (x y : Int) : wind [] x y = 0 := rfl
theorem farther_nil (x y : Int) : farther [] x y = 0 := rfl
theorem north_three (d : Int) : north d = 0 ∨ north d = 1 ∨ north d = -1 := by
  unfold north
  repeat' split
  all_goals omega
/-- Both count the same but for the sign. -/
theorem wind_farther : ∀ (us : List (Int × Int × Int)) (x y : Int), (∀ u ∈ us, u.2.2 = 1 ∨ u.2.2 = -1) → (wind us x y - farther us x y) % 2 = 0 ∧ -(farther us x y : Int) ≤ wind us x y ∧ wind us x y ≤ farther us x y ∧ farther us x y ≤ us.length
  | [], x, y, _ => by simp [wind, farther]
  | u :: us, x, y, h => by
    have ih := wind_farther us x y (fun v hv => h v (List.mem_cons_of_mem _ hv))
    have hu := h u List.mem_cons_self
    have e1 : wind (u :: us) x y = oneWind x y u + wind us x y := by simp [wind]
    have e2 : farther (u :: us) x y = oneOdd x y u + farther us x y := by simp [farther]
    rw [e1, e2, List.length_cons]
    unfold oneWind oneOdd
    split <;> omega
/-- Of all steps on a height: as many go up as down, but for where the walk begins and ends. -/
theorem all_on : ∀ (l : List UInt8) (p : Int × Int) (x y : Int), (∀ u ∈ upsFrom p l, x < u.1) → wind (upsFrom p l) x y = (if y < (l.foldl step p).2 then 1 else 0) - (if y < p.2 then 1 else 0)
  | [], p, x, y, _ => (Int.sub_self _).symm
  | c :: l, p, x, y, h => by
    have e : upsFrom p (c :: l) = (if north (dir c) = 0 then [] else [(p.1, min p.2 (p.2 + north (dir c)), north (dir c))]) ++ upsFrom (step p c) l := rfl
    rw [e] at h ⊢
    have ih := all_on l (step p c) x y (fun u hu => h u (List.mem_append_right _ hu))
    rw [wind_append, ih, List.foldl_cons]
    have e2 : (step p c).2 = p.2 + north (dir c) := rfl
    rw [e2]
    rcases north_three (dir c) with hn | hn | hn
    · rw [hn, if_pos rfl, wind_nil, Int.add_zero, Int.zero_add]
    · have hx : x < p.1 := h (p.1, _, _) (List.mem_append_left _ (by rw [if_neg (by omega)]; exact List.mem_cons_self))
      rw [hn, if_neg (by decide), wind_one]
      unfold oneWind
      simp only [hx, and_true]
      split <;> split <;> split <;> split <;> omega
    · have hx : x < p.1 := h (p.1, _, _) (List.mem_append_left _ (by rw [if_neg (by omega)]; exact List.mem_cons_self))
      rw [hn, if_neg (by decide), wind_one]
      unfold oneWind
      simp only [hx, and_true]
      split <;> split <;> split <;> split <;> omega
/-- Where an upright may be. -/
theorem ups_mem : ∀ (l : List UInt8) (p : Int × Int) (u : Int × Int × Int), u ∈ upsFrom p l → ∃ k, k < l.length ∧ u.1 = ((l.take k).foldl step p).1 ∧ u.1 = ((l.take (k + 1)).foldl step p).1 ∧ u.2.1 = min ((l.take k).foldl step p).2 ((l.take (k + 1)).foldl step p).2 ∧ u.2.2 = ((l.take (k + 1)).foldl step p).2 - ((l.take k).foldl step p).2 ∧ (u.2.2 = 1 ∨ u.2.2 = -1)
  | [], p, u, h => by cases h
  | c :: l, p, u, h => by
    have e : upsFrom p (c :: l) = (if north (dir c) = 0 then [] else [(p.1, min p.2 (p.2 + north (dir c)), north (dir c))]) ++ upsFrom (step p c) l := rfl
    rw [e] at h
    rcases List.mem_append.1 h with h | h
    · refine ⟨0, by simp, ?_⟩
      have e2 : ((c :: l).take (0 + 1)).foldl step p = (p.1 + east (dir c), p.2 + north (dir c)) := rfl
      have e3 : ((c :: l).take 0).foldl step p = p := rfl
      rw [e2, e3]
      split at h
      · cases h
      · rename_i hn
        obtain rfl := List.mem_singleton.1 h
        have h1 := north_three (dir c)
        have h2 := north_east (dir c)
        refine ⟨rfl, by show p.1 = p.1 + east (dir c); omega, rfl, by show north (dir c) = p.2 + north (dir c) - p.2; omega, by show north (dir c) = 1 ∨ north (dir c) = -1; omega⟩
    · obtain ⟨k, hk, h1⟩ := ups_mem l (step p c) u h
      exact ⟨k + 1, by simp; omega, h1⟩
theorem ups_at {l : List UInt8} {u : Int × Int × Int} (h : u ∈ ups l) : ∃ k, k < l.length ∧ u.1 = (placeAt l k).1 ∧ u.1 = (placeAt l (k + 1)).1 ∧ u.2.1 = min (placeAt l k).2 (placeAt l (k + 1)).2 ∧ u.2.2 = (placeAt l (k + 1)).2 - (placeAt l k).2 ∧ (u.2.2 = 1 ∨ u.2.2 = -1) := ups_mem l (0, 0) u h
theorem ups_signs {l : List UInt8} : ∀ u ∈ ups l, u.2.2 = 1 ∨ u.2.2 = -1 := fun u h => by
  obtain ⟨k, _, _, _, _, _, h⟩ := ups_at h
  exact h
theorem ups_len : ∀ (l : List UInt8) (p : Int × Int), (upsFrom p l).length ≤ l.length
  | [], _ => by simp [upsFrom]
  | c :: l, p => by
    have ih := ups_len l (step p c)
    have e : upsFrom p (c :: l) = (if north (dir c) = 0 then [] else [(p.1, min p.2 (p.2 + north (dir c)), north (dir c))]) ++ upsFrom (step p c) l := rfl
    rw [e, List.length_append, List.length_cons]
    split <;> simp <;> omega

/-- Of a walk that ends where it began no place is farther than half of its steps. -/
theorem far_left : ∀ (l : List UInt8) (p : Int × Int), ((l.foldl step p).1 - p.1 ≤ l.length ∧ p.1 - (l.foldl step p).1 ≤ l.length) ∧ ((l.foldl step p).2 - p.2 ≤ l.length ∧ p.2 - (l.foldl step p).2 ≤ l.length)
  | [], p => by simp
  | c :: l, p => by
    have ih := far_left l (step p c)
    have h1 := east_range (dir c)
    have h2 := north_range (dir c)
    have e1 : (step p c).1 = p.1 + east (dir c) := rfl
    have e2 : (step p c).2 = p.2 + north (dir c) := rfl
    rw [List.foldl_cons, List.length_cons]
    rw [e1, e2] at ih
    omega
theorem closed_near {l : List UInt8} (h : closed l = true) {k : Nat} (hk : k ≤ l.length) : -20 ≤ (placeAt l k).1 ∧ (placeAt l k).1 ≤ 20 ∧ -20 ≤ (placeAt l k).2 ∧ (placeAt l k).2 ≤ 20 := by
  have h40 := walkOk_len (closed_ok h)
  have he : endOf l = (0, 0) := by
    unfold closed at h
    simp at h
    exact h.2
  have hr := placeAt_range l k
  have hf := far_left (l.drop k) (placeAt l k)
  have hj : (l.drop k).foldl step (placeAt l k) = endOf l := by
    unfold placeAt endOf
    rw [← List.foldl_append, List.take_append_drop]
  rw [hj, he, List.length_drop] at hf
  simp only at hf
  omega

/-- The greatest number of times, without its sign. -/
def Most (us : List (Int × Int × Int)) (m : Int) : Prop := 0 ≤ m ∧ (∀ x y, wind us x y ≤ m ∧ -wind us x y ≤ m) ∧ (m = 0 ∨ ∃ x y, wind us x y = m ∨ -wind us x y = m)
theorem Most.only {us : List (Int × Int × Int)} {m n : Int} (h : Most us m) (k : Most us n) : m = n := by
  obtain ⟨h1, h2, h3⟩ := h
  obtain ⟨k1, k2, k3⟩ := k
  have a : m ≤ n := by
    rcases h3 with h3 | ⟨x, y, h3⟩
    · omega
    · have := k2 x y
      omega
  have b : n ≤ m := by
    rcases k3 with k3 | ⟨x, y, k3⟩
    · omega
    · have := h2 x y
      omega
  omega
theorem Most.le {us : List (Int × Int × Int)} {m : Int} (h : Most us m) (hs : ∀ u ∈ us, u.2.2 = 1 ∨ u.2.2 = -1) : m ≤ us.length := by
  rcases h.2.2 with h0 | ⟨x, y, h0⟩
  · omega
  · have := wind_farther us x y hs
    omega
theorem wind_zero {us : List (Int × Int × Int)} {x y : Int} (h : ∀ u ∈ us, ¬ (u.2.1 = y ∧ x < u.1)) : wind us x y = 0 := by
  induction us with
  | nil => rfl
  | cons u us ih =>
    have e : wind (u :: us) x y = oneWind x y u + wind us x y := by simp [wind]
    rw [e, ih (fun v hv => h v (List.mem_cons_of_mem _ hv))]
    unfold oneWind
    rw [if_neg (h u List.mem_cons_self)]
    rfl
theorem farther_zero {us : List (Int × Int × Int)} {x y : Int} (h : ∀ u ∈ us, ¬ (u.2.1 = y ∧ x < u.1)) : farther us x y = 0 := by
  induction us with
  | nil => rfl
  | cons u us ih =>
    have e : farther (u :: us) x y = oneOdd x y u + farther us x y := by simp [farther]
    rw [e, ih (fun v hv => h v (List.mem_cons_of_mem _ hv))]
    unfold oneOdd
    rw [if_neg (h u List.mem_cons_self)]
/-- To the west of a closed walk it goes round nothing. -/
theorem wind_west {l : List UInt8} (h : closed l = true) {x y : Int} (hx : ∀ u ∈ ups l, x < u.1) : wind (ups l) x y = 0 := by
  have he : endOf l = (0, 0) := by
    unfold closed at h
    simp at h
    exact h.2
  have e := all_on l (0, 0) x y hx
  have e2 : l.foldl step (0, 0) = (0, 0) := he
  rw [e2] at e
  unfold ups
  rw [e]
  omega
theorem ups_near {l : List UInt8} (h : closed l = true) {u : Int × Int × Int} (hu : u ∈ ups l) : -20 ≤ u.1 ∧ u.1 ≤ 20 ∧ -20 ≤ u.2.1 ∧ u.2.1 ≤ 19 := by
  obtain ⟨k, hk, h1, h2, h3, h4, h5⟩ := ups_at hu
  have a := closed_near h (k := k) (by omega)
  have b := closed_near h (k := k + 1) (by omega)
  omega
/-- Outside of the square of -20 to 20 nothing is gone round. -/
theorem wind_out {l : List UInt8} (h : closed l = true) {x y : Int} (hxy : x < -20 ∨ 20 ≤ x ∨ y < -20 ∨ 20 ≤ y) : wind (ups l) x y = 0 := by
  by_cases hx : x < -20
  · exact wind_west h (fun u hu => by have := ups_near h hu; omega)
  · exact wind_zero (fun u hu hc => by have := ups_near h hu; omega)

/-! ### sums over a range -/
def sumTo (a : Int) : Nat → (Int → Nat) → Nat
  | 0, _ => 0
  | n + 1, f => sumTo a n f + f (a + n)
theorem sumTo_add (a : Int) (n : Nat) (f : Int → Nat) : ∀ m : Nat, sumTo a (n + m) f = sumTo a n f + sumTo (a + n) m f
  | 0 => by simp [sumTo]
  | m + 1 => by
    show sumTo a (n + m) f + f (a + ((n + m : Nat) : Int)) = sumTo a n f + (sumTo (a + n) m f + f (a + n + m))
    rw [sumTo_add a n f m, show a + ((n + m : Nat) : Int) = a + n + m from by omega]
    omega
theorem sumTo_congr {a : Int} {f g : Int → Nat} : ∀ {n : Nat}, (∀ x, a ≤ x → x < a + n → f x = g x) → sumTo a n f = sumTo a n g
  | 0, _ => rfl
  | n + 1, h => by
    show sumTo a n f + f (a + n) = sumTo a n g + g (a + n)
    rw [sumTo_congr (n := n) (fun x h1 h2 => h x h1 (by omega)), h (a + n) (by omega) (by omega)]
theorem sumTo_zero {a : Int} {f : Int → Nat} {n : Nat} (h : ∀ x, a ≤ x → x < a + n → f x = 0) : sumTo a n f = 0 := by
  rw [sumTo_congr h]
  induction n with
  | zero => rfl
  | succ n ih => exact ih (fun x h1 h2 => h x h1 (by omega))
theorem sumTo_plus (a : Int) (f g : Int → Nat) : ∀ n : Nat, sumTo a n (fun x => f x + g x) = sumTo a n f + sumTo a n g
  | 0 => rfl
  | n + 1 => by
    show sumTo a n (fun x => f x + g x) + (f (a + n) + g (a + n)) = sumTo a n f + f (a + n) + (sumTo a n g + g (a + n))
    rw [sumTo_plus a f g n]
    omega
/-- The order of two sums does not matter. -/
theorem sumTo_swap (a b : Int) (f : Int → Int → Nat) (m : Nat) : ∀ n : Nat, sumTo a n (fun x => sumTo b m (fun y => f x y)) = sumTo b m (fun y => sumTo a n (fun x => f x y))
  | 0 => by
    symm
    exact sumTo_zero (fun _ _ _ => rfl)
  | n + 1 => by
    show sumTo a n (fun x => sumTo b m (fun y => f x y)) + sumTo b m (fun y => f (a + n) y) = sumTo b m (fun y => sumTo a n (fun x => f x y) + f (a + n) y)
    rw [sumTo_plus, sumTo_swap a b f m n]
/-- A sum over a range that holds all that counts. -/
theorem sumTo_within {a b : Int} {n m : Nat} {f : Int → Nat} (h1 : a ≤ b) (h2 : b + m ≤ a + n) (h : ∀ x, (x < b ∨ b + m ≤ x) → f x = 0) : sumTo a n f = sumTo b m f := by
  obtain ⟨i, hi⟩ : ∃ i : Nat, b = a + i := ⟨(b - a).toNat, by omega⟩
  obtain ⟨j, hj⟩ : ∃ j : Nat, n = i + m + j := ⟨n - i - m, by omega⟩
  rw [hj, sumTo_add, sumTo_add, sumTo_zero (a := a) (fun x _ _ => h x (.inl (by omega))), sumTo_zero (a := a + ((i + m : Nat) : Int)) (fun x _ _ => h x (.inr (by omega))), ← hi]
  omega

/-- A square that is within. -/
def odd1 (us : List (Int × Int × Int)) (x y : Int) : Nat := farther us x y % 2
/-- The number of squares within. -/
def inside (l : List UInt8) : Nat := sumTo (-40) 81 (fun x => sumTo (-40) 81 (fun y => odd1 (ups l) x y))
theorem odd_wind (l : List UInt8) {x y : Int} (h : wind (ups l) x y = 0) : odd1 (ups l) x y = 0 := by
  have := wind_farther (ups l) x y ups_signs
  unfold odd1
  omega
/-- Within what bounds all squares within are. -/
theorem inside_box {l : List UInt8} (h : closed l = true) {lx ly : Int} {nx ny : Nat} (hx : -40 ≤ lx ∧ lx + nx ≤ 41) (hy : -40 ≤ ly ∧ ly + ny ≤ 41) (hu : ∀ u ∈ ups l, lx ≤ u.1 ∧ u.1 ≤ lx + nx ∧ ly ≤ u.2.1 ∧ u.2.1 < ly + ny) :
    inside l = sumTo ly ny (fun y => sumTo lx nx (fun x => odd1 (ups l) x y)) := by
  have out : ∀ x y, (x < lx ∨ lx + nx ≤ x) ∨ (y < ly ∨ ly + ny ≤ y) → odd1 (ups l) x y = 0 := fun x y ho => by
    by_cases hxl : x < lx
    · exact odd_wind l (wind_west h (fun u hm => by have := hu u hm; omega))
    · exact odd_wind l (wind_zero (fun u hm hc => by have := hu u hm; omega))
  unfold inside
  rw [sumTo_swap, sumTo_within (b := ly) (m := ny) hy.1 (by omega) (fun y hy => sumTo_zero (fun x _ _ => out x y (.inr hy)))]
  exact sumTo_congr (fun y _ _ => sumTo_within hx.1 (by omega) (fun x hx => out x y (.inl hx)))
end Tw

end Go.Proofs.YtccdfndnjjjgfaaGreatDoor

namespace Go.Proofs.YtccdfndnjjjgfaaGreatDoor
namespace Tw

def listMost (us : List (Int × Int × Int)) (qs : List (Int × Int)) : Int := qs.foldl (fun m q => max m (max (wind us q.1 q.2) (-wind us q.1 q.2))) 0
theorem fold_ge (us : List (Int × Int × Int)) : ∀ (qs : List (Int × Int)) (a : Int), a ≤ qs.foldl (fun m q => max m (max (wind us q.1 q.2) (-wind us q.1 q.2))) a ∧ (∀ q ∈ qs, wind us q.1 q.2 ≤ qs.foldl (fun m q => max m (max (wind us q.1 q.2) (-wind us q.1 q.2))) a ∧ -wind us q.1 q.2 ≤ qs.foldl (fun m q => max m (max (wind us q.1 q.2) (-wind us q.1 q.2))) a) ∧
    (qs.foldl (fun m q => max m (max (wind us q.1 q.2) (-wind us q.1 q.2))) a = a ∨ ∃ q ∈ qs, wind us q.1 q.2 = qs.foldl (fun m q => max m (max (wind us q.1 q.2) (-wind us q.1 q.2))) a ∨ -wind us q.1 q.2 = qs.foldl (fun m q => max m (max (wind us q.1 q.2) (-wind us q.1 q.2))) a)
  | [], a => ⟨Int.le_refl _, (fun q hq => by cases hq), .inl rfl⟩
  | q :: qs, a => by
    obtain ⟨h1, h2, h3⟩ := fold_ge us qs (max a (max (wind us q.1 q.2) (-wind us q.1 q.2)))
    simp only [List.foldl_cons]
    refine ⟨by omega, fun r hr => ?_, ?_⟩
    · rcases List.mem_cons.1 hr with rfl | hr
      · clear h2 h3
        omega
      · exact h2 r hr
    · rcases h3 with h3 | ⟨r, hr, h3⟩
      · rw [h3]
        by_cases ha : max a (max (wind us q.1 q.2) (-wind us q.1 q.2)) = a
        · exact .inl ha
        · exact .inr ⟨q, List.mem_cons_self, by omega⟩
      · exact .inr ⟨r, List.mem_cons_of_mem _ hr, h3⟩
def grid : List (Int × Int) := (List.range 41).flatMap fun (i : Nat) => (List.range 41).map fun (j : Nat) => ((i : Int) - 20, (j : Int) - 20)
theorem mem_grid {x y : Int} (hx : -20 ≤ x ∧ x ≤ 20) (hy : -20 ≤ y ∧ y ≤ 20) : (x, y) ∈ grid := by
  unfold grid
  rw [List.mem_flatMap]
  refine ⟨(x + 20).toNat, List.mem_range.2 (by omega), ?_⟩
  rw [List.mem_map]
  exact ⟨(y + 20).toNat, List.mem_range.2 (by omega), Prod.ext (by show ((x + 20).toNat : Int) - 20 = x; omega) (by show ((y + 20).toNat : Int) - 20 = y; omega)⟩
def mostOf (l : List UInt8) : Int := listMost (ups l) grid
theorem most_of {l : List UInt8} (h : closed l = true) {qs : List (Int × Int)} (hq : ∀ x y, -20 ≤ x ∧ x ≤ 20 → -20 ≤ y ∧ y ≤ 20 → (x, y) ∈ qs) : Most (ups l) (listMost (ups l) qs) := by
  obtain ⟨h1, h2, h3⟩ := fold_ge (ups l) qs 0
  refine ⟨h1, fun x y => ?_, ?_⟩
  · by_cases hxy : x < -20 ∨ 20 ≤ x ∨ y < -20 ∨ 20 ≤ y
    · have hz := wind_out h hxy
      have h1' : 0 ≤ listMost (ups l) qs := h1
      rw [hz]
      exact ⟨h1', by rw [Int.neg_zero]; exact h1'⟩
    · exact h2 _ (hq x y (by omega) (by omega))
  · rcases h3 with h3 | ⟨q, _, h3⟩
    · exact .inl h3
    · exact .inr ⟨q.1, q.2, h3⟩
theorem most_grid {l : List UInt8} (h : closed l = true) : Most (ups l) (mostOf l) := most_of h (fun _ _ hx hy => mem_grid hx hy)
/-- What MostWinding returns. -/
def mostRes (l : List UInt8) : Int := if closed l then mostOf l else -1
theorem mostRes_is {l : List UInt8} {m : Int} (h : closed l = true) (hm : Most (ups l) m) : mostRes l = m := by
  unfold mostRes
  rw [if_pos h]
  exact (most_grid h).only hm
theorem mostRes_range {l : List UInt8} : -1 ≤ mostRes l ∧ mostRes l ≤ 40 ∧ (0 ≤ mostRes l ↔ closed l = true) := by
  unfold mostRes
  split
  · rename_i h
    have hm := most_grid h
    have h1 := hm.le ups_signs
    have h2 := ups_len l (0, 0)
    have h3 := walkOk_len (closed_ok h)
    have h4 := hm.1
    have h5 : (ups l).length ≤ l.length := h2
    exact ⟨by omega, by omega, fun _ => h, fun _ => h4⟩
  · rename_i h
    exact ⟨by omega, by omega, fun h1 => absurd h1 (by omega), fun h1 => absurd h1 h⟩
/-- What SquaresIn returns. -/
def squaresRes (l : List UInt8) : Int := if simple l then (inside l : Int) else -1
theorem sumTo_le {a : Int} {f : Int → Nat} {c : Nat} : ∀ {n : Nat}, (∀ x, f x ≤ c) → sumTo a n f ≤ n * c
  | 0, _ => by simp [sumTo]
  | n + 1, h => by
    have ih := sumTo_le (a := a) (n := n) h
    have h1 := h (a + n)
    show sumTo a n f + f (a + n) ≤ (n + 1) * c
    rw [Nat.add_mul, Nat.one_mul]
    omega
theorem inside_le (l : List UInt8) : inside l ≤ 6561 := by
  have h1 : ∀ x, sumTo (-40) 81 (fun y => odd1 (ups l) x y) ≤ 81 := fun x => by
    have := sumTo_le (a := -40) (n := 81) (f := fun y => odd1 (ups l) x y) (c := 1) (fun y => by show farther _ _ _ % 2 ≤ 1; omega)
    omega
  have := sumTo_le (a := -40) (n := 81) (f := fun x => sumTo (-40) 81 (fun y => odd1 (ups l) x y)) (c := 81) h1
  unfold inside
  omega
theorem squaresRes_range {l : List UInt8} : -1 ≤ squaresRes l ∧ squaresRes l ≤ 6561 ∧ (0 ≤ squaresRes l ↔ simple l = true) := by
  unfold squaresRes
  split
  · rename_i h
    have := inside_le l
    exact ⟨by omega, by omega, fun _ => h, fun _ => by omega⟩
  · rename_i h
    exact ⟨by omega, by omega, fun h1 => absurd h1 (by omega), fun h1 => absurd h1 h⟩
end Tw

end Go.Proofs.YtccdfndnjjjgfaaGreatDoor

namespace Go.Proofs.YtccdfndnjjjgfaaGreatDoor
open Go.RowKit

/-- The area, or 0 of a walk that is not closed. -/
def areaRes (l : List UInt8) : Int := if Tw.closed l then Tw.areaOf l else 0
theorem own_shape {w : World} {base m : Nat} {t : TypeId} {v : Value} {us : List (Int × Int × Int)} (h : w.ownsRow base t m v us.length (triCells us)) : (v = .slice none 0 0 ∧ us = []) ∨ ∃ g cap, v = .slice (some ⟨g, 0, none⟩) us.length cap := by
  rcases h.2 with ⟨h, h0⟩ | ⟨g, cap, cur, he, _⟩
  · exact .inl ⟨h, List.length_eq_zero_iff.1 h0⟩
  · exact .inr ⟨g, cap, he⟩
theorem sumUp_take {us : List (Int × Int × Int)} {j : Nat} {u : Int × Int × Int} (h : us[j]? = some u) : sumUp (us.take (j + 1)) = sumUp (us.take j) + u.1 * u.2.2 := by
  rw [List.take_add_one, h]
  exact sumUp_snoc _ _

set_option maxRecDepth 100000 in
set_option maxHeartbeats 3200000 in
theorem implAreaOf (s : ByteArray) (w : World) (hs : s.size ≤ 1048576) (hw : DirsAt w) :
    Calls Tryz.prog 127 #[.string s] w fun e w' => e = .returned (.tuple #[.int .i64 (areaRes s.data.toList), .bool (Tw.closed s.data.toList)]) ∧ Below w.heap.size w w' := by
  have hc := implClosedOk s w hs hw
  cases hcl : Tw.closed s.data.toList
  · rw [hcl] at hc
    have HC := Lib.hid hc
    have HCL := Lib.hid hcl
    clear hc hcl
    go_enter Tryz.func127, Tryz.ntmps127
    go_wp2_with (first
      | (go_at_call 123; refine HC.out.mono ?_; rintro e w1 ⟨rfl, hb1⟩))
    go_ret2
    exact ⟨by rw [areaRes, HCL.out]; rfl, hb1⟩
  · rw [hcl] at hc
    have HC := Lib.hid hc
    have HCL := Lib.hid hcl
    have HOK := Lib.hid (Tw.closed_ok hcl)
    clear hc hcl
    go_enter Tryz.func127, Tryz.ntmps127
    go_wp2_with (first
      | (go_at_call 123; refine HC.out.mono ?_; rintro e w1 ⟨rfl, hb1⟩)
      | (go_at_call 149; refine (uprights_any s _ (hw.below' hb1) HOK.out).mono ?_; rintro e w2 ⟨v, us, rfl, hown, hu40, hups, hsum, hb2'⟩; have hb2 := hb1.trans (hb2'.mono hb1.size); have HS := Lib.hid hsum; have HU := Lib.hid hups; clear hsum hups; rcases own_shape hown with ⟨rfl, rfl⟩ | ⟨g, cap, rfl⟩))
    · refine wp_loop_rounds 1 ?_
      rw [rounds_succ]
      go_wp2
      go_ret2
      refine ⟨?_, hb2⟩
      rw [areaRes, HCL.out]
      have e : Tw.areaOf s.data.toList = 0 := HS.out.symm
      simp [e]
    · obtain ⟨n, hn⟩ : ∃ n, us.length = n := ⟨_, rfl⟩
      rw [hn]
      rw [hn] at hu40
      have HN := Lib.hid hn
      have HOWN := Lib.hid hown
      have hgb := (hown.lt g rfl).2
      clear hn hown
      go_loopw [4, 6, 13] (fun a _ i wr => ∃ (j : Nat) (A : Int), i = .int .i64 j ∧ j ≤ n ∧ a = .int .i64 A ∧ Hid (A = sumUp (us.take j)) ∧ -1000 * (j : Int) ≤ A ∧ A ≤ 1000 * (j : Int) ∧ Below w2.heap.size w2 wr) (fun _ _ i _ => n - (intOf i).toNat)
      case atStart => exact ⟨0, 0, rfl, Nat.zero_le _, rfl, (by show (0 : Int) = _; rfl), by omega, by omega, Below.refl _ _⟩
      case round =>
        obtain ⟨j, A, rfl, hj, rfl, HA, hA0, hA1, hbr⟩ := hrel
        by_cases hlt : j < n
        · obtain ⟨⟨x, y, z⟩, hu⟩ : ∃ u, us[j]? = some u := ⟨us[j]'(by rw [HN.out]; exact hlt), List.getElem?_eq_getElem _⟩
          obtain ⟨q0, q1, q2⟩ := triCells_get us j _ hu
          have c0 := (hbr.cell (p := ⟨g, j * 3, none⟩) hgb).trans (own_cell HOWN.out q0)
          have c1 := (hbr.cell (p := ⟨g, j * 3 + 1, none⟩) hgb).trans (own_cell HOWN.out q1)
          have c2 := (hbr.cell (p := ⟨g, j * 3 + 2, none⟩) hgb).trans (own_cell HOWN.out q2)
          obtain ⟨hx0, hx1, hy0, hy1, hz⟩ := HU.out _ (List.mem_of_getElem? hu)
          have hsum := sumUp_take hu
          simp only at hx0 hx1 hy0 hy1 hz hsum c0 c1 c2
          have HSUM := Lib.hid hsum
          clear hsum hu q0 q1 q2
          rcases hz with rfl | rfl
          · go_wp2
            go_roundw
            case rel => exact ⟨j + 1, A + x, by go_num, by omega, by simp, (by show _ = _; rw [HSUM.out, HA.out]; omega), by omega, by omega, hbr.alloc hbr.size _⟩
            case measure => simp [intOf]; omega
          · go_wp2
            go_roundw
            case rel => exact ⟨j + 1, A - x, by go_num, by omega, by simp; omega, (by show _ = _; rw [HSUM.out, HA.out]; omega), by omega, by omega, hbr.alloc hbr.size _⟩
            case measure => simp [intOf]; omega
        · obtain rfl : j = n := by omega
          go_wp2
          go_ret2
          refine ⟨?_, hb2.trans (hbr.mono hb2.size)⟩
          have e : A = Tw.areaOf s.data.toList := by rw [HA.out, List.take_of_length_le (by rw [HN.out]; exact Nat.le_refl _), HS.out]
          rw [areaRes, HCL.out, e]
          rfl

end Go.Proofs.YtccdfndnjjjgfaaGreatDoor

namespace Go.Proofs.YtccdfndnjjjgfaaGreatDoor
open Go.RowKit

theorem cut_more (sep : UInt8) : ∀ (l : List UInt8) (ps : List (List UInt8)) (cur : List UInt8), (l.foldl (cutStep sep) (ps, cur)).1 ++ [(l.foldl (cutStep sep) (ps, cur)).2] = ps ++ ((l.foldl (cutStep sep) ([], cur)).1 ++ [(l.foldl (cutStep sep) ([], cur)).2])
  | [], ps, cur => rfl
  | c :: l, ps, cur => by
    rw [List.foldl_cons, List.foldl_cons]
    by_cases hc : c = sep
    · rw [show cutStep sep (ps, cur) c = (ps ++ [cur], []) from if_pos hc, show cutStep sep ([], cur) c = ([] ++ [cur], []) from if_pos hc, cut_more sep l (ps ++ [cur]) [], cut_more sep l ([] ++ [cur]) []]
      simp
    · rw [show cutStep sep (ps, cur) c = (ps, cur ++ [c]) from if_neg hc, show cutStep sep ([], cur) c = ([], cur ++ [c]) from if_neg hc]
      exact cut_more sep l ps (cur ++ [c])
theorem cutAll_cons {sep : UInt8} {a : List UInt8} (b : List UInt8) (ha : sep ∉ a) : cutAll sep (a ++ sep :: b) = a :: cutAll sep b := by
  unfold cutAll cutState
  rw [List.foldl_append, cut_clean sep a [] [] ha, List.foldl_cons]
  rw [show cutStep sep ([], [] ++ a) sep = ([a], []) from if_pos rfl, cut_more sep b [a] []]
  rfl
/-- A text without the byte, or what stands ahead of the first one. -/
theorem first_sep (sep : UInt8) : ∀ l : List UInt8, sep ∉ l ∨ ∃ a b, l = a ++ sep :: b ∧ sep ∉ a
  | [] => .inl (by simp)
  | c :: l => by
    by_cases hc : c = sep
    · exact .inr ⟨[], l, by rw [hc]; rfl, by simp⟩
    · rcases first_sep sep l with h | ⟨a, b, rfl, h⟩
      · exact .inl fun e => by
          rcases List.mem_cons.1 e with e | e
          · exact hc e.symm
          · exact h e
      · exact .inr ⟨c :: a, b, rfl, fun e => by
          rcases List.mem_cons.1 e with e | e
          · exact hc e.symm
          · exact h e⟩
theorem index_miss {sep : UInt8} : ∀ {l : List UInt8}, sep ∉ l → Lib.index l [sep] = -1
  | [], _ => by simp [Lib.index]
  | c :: l, h => by
    have hc : ¬ sep = c := fun e => h (by rw [e]; exact List.mem_cons_self)
    have ih := index_miss (l := l) (fun e => h (List.mem_cons_of_mem _ e))
    unfold Lib.index
    rw [ih]
    simp [hc]
theorem index_hit {sep : UInt8} : ∀ {a : List UInt8} (b : List UInt8), sep ∉ a → Lib.index (a ++ sep :: b) [sep] = (a.length : Int)
  | [], b, _ => by simp [Lib.index]
  | c :: a, b, h => by
    have hc : ¬ sep = c := fun e => h (by rw [e]; exact List.mem_cons_self)
    have ih := index_hit (a := a) b (fun e => h (List.mem_cons_of_mem _ e))
    rw [List.cons_append]
    unfold Lib.index
    rw [ih]
    have : ¬ ((a.length : Int) = -1) := by omega
    simp [hc, this]
theorem splitK_cut (sep : UInt8) : ∀ (m : Nat) (l : List UInt8), l.length ≤ m → Lib.splitK [sep] 0 (Lib.count l [sep]) l = cutAll sep l
  | m, l, hm => by
    rcases first_sep sep l with h | ⟨a, b, rfl, h⟩
    · rw [Lib.count_miss (index_miss h), cutAll_one h]
      rfl
    · have hi := index_hit b h
      have hd : (a ++ sep :: b).drop (a.length + [sep].length) = b := by
        rw [List.drop_append]
        simp
      rw [Lib.count_hit (by simp) hi, hd, cutAll_cons b h, Nat.add_comm 1]
      unfold Lib.splitK
      have hne : ¬ (Lib.index (a ++ sep :: b) [sep] == -1) = true := by
        rw [hi, beq_iff_eq]
        omega
      rw [if_neg hne, hi]
      have hb : b.length < m := by simp at hm; omega
      match m, hb with
      | m + 1, hb =>
        have e1 : (a ++ sep :: b).take ((a.length : Int).toNat + 0) = a := by simp
        have e2 : (a ++ sep :: b).drop ((a.length : Int).toNat + [sep].length) = b := by rw [Int.toNat_natCast]; exact hd
        rw [e1, e2, splitK_cut sep m b (by omega)]
/-- The program's Split is the reference's l1Cut. -/
theorem splitB_words (sep : UInt8) (s : ByteArray) : Lib.splitB ⟨#[sep]⟩ 0 (Lib.countB s ⟨#[sep]⟩) s = (cutAll sep s.data.toList).map Tw.str := by
  have h := Lib.splitB_data ⟨#[sep]⟩ 0 (Lib.countB s ⟨#[sep]⟩) s
  have e : Lib.splitK (⟨#[sep]⟩ : ByteArray).data.toList 0 (Lib.countB s ⟨#[sep]⟩) s.data.toList = cutAll sep s.data.toList := splitK_cut sep _ _ (Nat.le_refl _)
  rw [e] at h
  rw [← h, List.map_map]
  have : Tw.str ∘ (fun x : ByteArray => x.data.toList) = id := funext fun x => Tw.str_of x
  rw [this, List.map_id]
theorem splitB_count (sep : UInt8) (s : ByteArray) : Lib.countB s ⟨#[sep]⟩ + 1 = (cutAll sep s.data.toList).length := by
  rw [← Lib.splitB_all ⟨#[sep]⟩ (Nat.le_refl 1) 0 _ s rfl, splitB_words, List.length_map]

/-- Answers. -/
def yesText (b : Bool) : ByteArray := if b then ⟨#[121, 101, 115]⟩ else ⟨#[110, 111]⟩
def noneText : ByteArray := ⟨#[110, 111, 110, 101]⟩
def whatText : ByteArray := ⟨#[119, 104, 97, 116]⟩
def toldText (n : Int) (b : Bool) : ByteArray := if b then numText n else noneText
def pairText (a b : Int) : ByteArray := numText a ++ ⟨#[44]⟩ ++ numText b
/-- The nine words that ask for something of the walk. -/
def askWords : List ByteArray := [⟨#[119, 97, 108, 107]⟩, ⟨#[101, 110, 100]⟩, ⟨#[99, 108, 111, 115, 101, 100]⟩, ⟨#[115, 105, 109, 112, 108, 101]⟩, ⟨#[97, 118, 111, 105, 100, 115]⟩, ⟨#[116, 117, 114, 110, 105, 110, 103]⟩, ⟨#[97, 114, 101, 97]⟩, ⟨#[119, 105, 110, 100, 105, 110, 103]⟩, ⟨#[115, 113, 117, 97, 114, 101, 115]⟩]
/-- The answer to the k-th word. -/
def askText (k : Nat) (s : ByteArray) : ByteArray :=
  if k = 0 then ⟨#[58]⟩ ++ s else if k = 1 then pairText (Tw.endOf s.data.toList).1 (Tw.endOf s.data.toList).2 else if k = 2 then yesText (Tw.closed s.data.toList) else if k = 3 then yesText (Tw.simple s.data.toList) else if k = 4 then yesText (Tw.avoids s.data.toList)
  else if k = 5 then toldText (if Tw.closed s.data.toList then turningOf s.data.toList else 0) (Tw.closed s.data.toList) else if k = 6 then toldText (areaRes s.data.toList) (Tw.closed s.data.toList) else if k = 7 then toldText (Tw.mostRes s.data.toList) (Tw.closed s.data.toList) else toldText (Tw.squaresRes s.data.toList) (Tw.simple s.data.toList)
def cellWord : List UInt8 := [99, 101, 108, 108]
def numberWord : List UInt8 := [110, 117, 109, 98, 101, 114]
def cellText (a b : Nat) : ByteArray := if (cellRes a b).2 = true then pairText ((cellRes a b).1.1 : Nat) ((cellRes a b).1.2 : Nat) else noneText
def numbText (a x y : Nat) : ByteArray := toldText (numbRes a x y) (decide (0 ≤ numbRes a x y))
/-- The answer to words, of which the first one is that of a question about the curve. -/
def curveOf : List (List UInt8) → ByteArray
  | [c, a, b] => if c = cellWord ∧ numOk a 4 = true ∧ numOk b 4 = true then cellText (numVal a) (numVal b) else whatText
  | [c, a, b, d] => if c = numberWord ∧ numOk a 4 = true ∧ numOk b 4 = true ∧ numOk d 4 = true then numbText (numVal a) (numVal b) (numVal d) else whatText
  | _ => whatText
def curveText (l : List UInt8) : ByteArray := curveOf (cutAll 32 l)
def askAt (X : ByteArray) : Option Nat := askWords.findIdx? (fun y => decide (y = X))
def answerOf (s X : ByteArray) : ByteArray := match askAt X with | some k => askText k s | none => curveText X.data.toList
/-- A desk after a line, and the answer. -/
noncomputable def lineOf (s : ByteArray) (zs : List ByteArray) (X : ByteArray) : (ByteArray × List ByteArray) × ByteArray :=
  if (readOf X.data.toList).2 = true then (((deskDone s zs (readOf X.data.toList).1.1 (readOf X.data.toList).1.2).1, (deskDone s zs (readOf X.data.toList).1.1 (readOf X.data.toList).1.2).2.1), okWord (deskDone s zs (readOf X.data.toList).1.1 (readOf X.data.toList).1.2).2.2)
  else ((s, zs), answerOf s X)
noncomputable def deskLine (s : ByteArray) (zs : List ByteArray) (X : ByteArray) : (ByteArray × List ByteArray) × ByteArray := if deskOk s zs = true then lineOf s zs X else ((⟨#[]⟩, []), ⟨#[]⟩)
end Go.Proofs.YtccdfndnjjjgfaaGreatDoor

namespace Go.Proofs.YtccdfndnjjjgfaaGreatDoor
open Go.RowKit

theorem line_area_bound {l : List UInt8} (h : l.length ≤ 40) : ∀ k, k ≤ l.length → -(40 * (k : Int)) ≤ areaTo l k ∧ areaTo l k ≤ 40 * (k : Int)
  | 0, _ => by
    have : areaTo l 0 = 0 := rfl
    omega
  | k + 1, hk => by
    have ih := line_area_bound h k (by omega)
    rw [areaTo_succ (by omega)]
    have hp := Tw.placeAt_range l k
    have hn := Tw.north_range (Tw.dir (l[k]'(by omega)))
    obtain hd | hd | hd : Tw.north (Tw.dir (l[k]'(by omega))) = -1 ∨ Tw.north (Tw.dir (l[k]'(by omega))) = 0 ∨ Tw.north (Tw.dir (l[k]'(by omega))) = 1 := by omega
    all_goals
      rw [hd]
      omega
theorem line_res_bound (l : List UInt8) : -2000 ≤ areaRes l ∧ areaRes l ≤ 2000 := by
  unfold areaRes
  split
  · rename_i hc
    have h40 := Tw.walkOk_len (Tw.closed_ok hc)
    have := line_area_bound h40 l.length (Nat.le_refl _)
    rw [areaTo_all] at this
    omega
  · omega
theorem end_bound {s : ByteArray} (h : Tw.walkOk s.data.toList = true) : -40 ≤ (Tw.endOf s.data.toList).1 ∧ (Tw.endOf s.data.toList).1 ≤ 40 ∧ -40 ≤ (Tw.endOf s.data.toList).2 ∧ (Tw.endOf s.data.toList).2 ≤ 40 := by
  have h40 := Tw.walkOk_len h
  have := Tw.placeAt_range s.data.toList s.data.toList.length
  rw [Tw.placeAt_all] at this
  omega
theorem turn_bound (l : List UInt8) (h : l.length ≤ 1048576) : -1048576 ≤ (if Tw.closed l then turningOf l else 0) ∧ (if Tw.closed l then turningOf l else 0) ≤ 1048576 := by
  have := turnTo_small l l.length
  unfold turningOf
  split <;> omega

/-- Go's powers of ten, as laid. -/
def PowAt (w : World) : Prop := Lib.TabIs Tryz.prog w "internal/strconv.uint64pow10" .u64 Lib.pow10Tab
theorem PowAt.below' {w w' : World} (h : PowAt w) (hb : Below w.heap.size w w') : PowAt w' := Lib.tabBelow_of_tabIs h w' hb
theorem itoa_any (n : Int) (h0 : -1000000000 < n) (h1 : n < 1000000000) (w : World) (hp : PowAt w) :
    Calls Tryz.prog 76 #[.int .i64 n] w fun e w' => e = .returned (.string (numText n)) ∧ Below w.heap.size w w' := by
  refine (Tryz.strconv_Itoa n (by omega) (by omega) w hp).mono ?_
  rintro e w' ⟨rfl, k, os, rfl⟩
  exact ⟨rfl, Lib.below_grow _ w (Nat.le_refl _) k os⟩
theorem yesOrNo_any (b : Bool) (w : World) : Calls Tryz.prog 122 #[.bool b] w fun e w' => e = .returned (.string (yesText b)) ∧ w = w' := by
  cases b
  all_goals
    go_enter Tryz.func122, Tryz.ntmps122
    go_wp2
    go_ret
    exact ⟨rfl, rfl⟩
theorem numberOrNone_any (n : Int) (b : Bool) (h0 : -1000000000 < n) (h1 : n < 1000000000) (w : World) (hp : PowAt w) :
    Calls Tryz.prog 102 #[.int .i64 n, .bool b] w fun e w' => e = .returned (.string (toldText n b)) ∧ Below w.heap.size w w' := by
  cases b
  · go_enter Tryz.func102, Tryz.ntmps102
    go_wp2
    go_ret
    exact ⟨rfl, Below.refl _ _⟩
  · have HI := Lib.hid (itoa_any n h0 h1 w hp)
    go_enter Tryz.func102, Tryz.ntmps102
    go_wp2_with (first
      | (go_at_call 76; refine HI.out.mono ?_; rintro e w1 ⟨rfl, hb1⟩))
    go_ret
    exact ⟨rfl, hb1⟩
set_option maxHeartbeats 800000 in
theorem pairText_any (a b : Int) (a0 : -1000000000 < a) (a1 : a < 1000000000) (b0 : -1000000000 < b) (b1 : b < 1000000000) (w : World) (hp : PowAt w) :
    Calls Tryz.prog 100 #[.int .i64 a, .int .i64 b] w fun e w' => e = .returned (.string (pairText a b)) ∧ Below w.heap.size w w' := by
  have sx := numText_len a0 a1
  have sy := numText_len b0 b1
  obtain ⟨x, hx⟩ : ∃ x, numText a = x := ⟨_, rfl⟩
  obtain ⟨y, hy⟩ : ∃ y, numText b = y := ⟨_, rfl⟩
  have HA : Hid (∀ W, PowAt W → Calls Tryz.prog 76 #[.int .i64 a] W fun e w' => e = .returned (.string x) ∧ Below W.heap.size W w') := fun W h => hx ▸ itoa_any a a0 a1 W h
  have HB : Hid (∀ W, PowAt W → Calls Tryz.prog 76 #[.int .i64 b] W fun e w' => e = .returned (.string y) ∧ Below W.heap.size W w') := fun W h => hy ▸ itoa_any b b0 b1 W h
  have HT : Hid (pairText a b = x ++ ⟨#[44]⟩ ++ y) := by show _ = _; rw [← hx, ← hy]; rfl
  have HP := Lib.hid hp
  rw [hx] at sx
  rw [hy] at sy
  have f1 : ¬ 9223372036854775807 < x.size + 1 := by omega
  have f2 : ¬ 9223372036854775807 < x.size + 1 + y.size := by omega
  clear hx hy hp
  go_enter Tryz.func100, Tryz.ntmps100
  go_wp2_with (first
    | (have hq := hb1; go_at_call 76; refine (HB.out _ (HP.out.below' hb1)).mono ?_; rintro e w2 ⟨rfl, hb2⟩)
    | (go_at_call 76; refine (HA.out _ HP.out).mono ?_; rintro e w1 ⟨rfl, hb1⟩))
  go_ret
  exact ⟨ret_str HT.out.symm, hb1.trans (hb2.mono hb1.size)⟩
theorem l12Yes_any (b : Bool) (w : World) : Calls Tryz.prog 52 #[.bool b] w fun e w' => e = .returned (.string (yesText b)) ∧ w = w' := by
  cases b
  all_goals
    go_enter Tryz.func52, Tryz.ntmps52
    go_wp2
    go_ret
    exact ⟨rfl, rfl⟩
theorem l12Told_any (n : Int) (b : Bool) (h0 : -1000000000 < n) (h1 : n < 1000000000) (w : World) :
    Calls Tryz.prog 56 #[.int .i64 n, .bool b] w fun e w' => e = .returned (.string (toldText n b)) ∧ Below w.heap.size w w' := by
  cases b
  · go_enter Tryz.func56, Tryz.ntmps56
    go_wp2
    go_ret
    exact ⟨rfl, Below.refl _ _⟩
  · have HI := Lib.hid (number_int n h0 h1 w)
    go_enter Tryz.func56, Tryz.ntmps56
    go_wp2_with (first
      | (go_at_call 51; refine HI.out.mono ?_; rintro e w1 ⟨rfl, hb1⟩))
    go_ret
    exact ⟨rfl, hb1⟩

end Go.Proofs.YtccdfndnjjjgfaaGreatDoor

namespace Go.Proofs.YtccdfndnjjjgfaaGreatDoor
open Go.RowKit

/-- All parts between blanks are numbers, and there are so many. -/
def partsOk (l : List UInt8) (n : Nat) : Bool := decide ((cutAll 32 l).length = n) && (cutAll 32 l).all fun p => numOk p 4
def intVals (ps : List (List UInt8)) : List Value := ps.map fun p => .int .i64 (numVal p : Nat)
theorem intVals_snoc {ps : List (List UInt8)} {k : Nat} {p : List UInt8} (h : ps[k]? = some p) : intVals (ps.take (k + 1)) = intVals (ps.take k) ++ [.int .i64 (numVal p : Nat)] := by
  unfold intVals
  rw [List.take_add_one, h, List.map_append]
  rfl
theorem all_more {ps : List (List UInt8)} {k : Nat} {p : List UInt8} (h : ps[k]? = some p) (ha : (ps.take k).all (fun p => numOk p 4) = true) (hp : numOk p 4 = true) : (ps.take (k + 1)).all (fun p => numOk p 4) = true := by
  rw [List.take_add_one, h, List.all_append, ha]
  simp [hp]
theorem parts_long {l : List UInt8} {n : Nat} (h : (cutAll 32 l).length ≠ n) : partsOk l n = false := by
  unfold partsOk
  rw [decide_eq_false h, Bool.false_and]
theorem parts_bad {l : List UInt8} {n k : Nat} {p : List UInt8} (h : (cutAll 32 l)[k]? = some p) (hp : numOk p 4 = false) : partsOk l n = false := by
  unfold partsOk
  have : (cutAll 32 l).all (fun p => numOk p 4) = false := by
    rw [Bool.eq_false_iff]
    intro ha
    have := List.all_eq_true.1 ha p (List.mem_of_getElem? h)
    rw [hp] at this
    cases this
  rw [this, Bool.and_false]
theorem parts_good {l : List UInt8} {n : Nat} (h : (cutAll 32 l).length = n) (ha : ((cutAll 32 l).take n).all (fun p => numOk p 4) = true) : partsOk l n = true := by
  unfold partsOk
  rw [List.take_of_length_le (by omega)] at ha
  rw [decide_eq_true h, ha]
  rfl
theorem num_four {l : List UInt8} (h : numOk l 4 = true) : numVal l ≤ 9999 := by
  rw [ok_is] at h
  simp only [Bool.and_eq_true, decide_eq_true_eq] at h
  exact num_bound h.2 h.1.1.2

theorem lineIntInfo : (Tryz.prog.info? 3).map (fun i => (i.zero, i.size, i.bytes)) = some (some (.int .i64 0), 1, 8) := by kernel_rfl
theorem strSplit_any (s : ByteArray) (w : World) (hm : MaxAt w) (hs : s.size ≤ 1048576) :
    Calls Tryz.prog 131 #[.string s, .string ⟨#[32]⟩] w fun e w' => e = .returned (.slice (some ⟨w.heap.size, 0, none⟩) (cutAll 32 s.data.toList).length (cutAll 32 s.data.toList).length) ∧ w' = w.alloc (.cells (strVals (words 32 s)).toArray 9) := by
  obtain ⟨m, hm⟩ := hm
  refine (Tryz.strings_Split s ⟨#[32]⟩ m w (by omega) hm (by decide)).mono ?_
  rintro e w' ⟨rfl, rfl⟩
  rw [splitB_words, splitB_count]
  exact ⟨rfl, rfl⟩
def NumsOut (l : List UInt8) (n : Nat) (w : World) (e : Ending) (w' : World) : Prop :=
  ((partsOk l n = true ∧ ∃ g cap, e = .returned (.tuple #[.slice (some ⟨g, 0, none⟩) n cap, .bool true]) ∧ w'.ownsRow w.heap.size 3 1 (.slice (some ⟨g, 0, none⟩) n cap) n (intVals (cutAll 32 l))) ∨
    (partsOk l n = false ∧ e = .returned (.tuple #[.slice none 0 0, .bool false]))) ∧ Below w.heap.size w w'
set_option maxRecDepth 100000 in
set_option maxHeartbeats 1600000 in
theorem readNumbers_any (s : ByteArray) (n : Nat) (hn : n = 2 ∨ n = 3) (w : World) (hm : MaxAt w) (hs : s.size ≤ 1048576) :
    Calls Tryz.prog 98 #[.string s, .int .i64 n] w (NumsOut s.data.toList n w) := by
  have hsp := strSplit_any s w hm hs
  obtain ⟨W, hW⟩ : ∃ W, w.alloc (.cells (strVals (words 32 s)).toArray 9) = W := ⟨_, rfl⟩
  have hb0 : Below w.heap.size w W := by rw [← hW]; exact (Below.refl _ _).alloc (Nat.le_refl _) _
  have hWs : W.heap.size = w.heap.size + 1 := by rw [← hW]; simp
  have hcell : ∀ (k : Nat) (p : List UInt8), (cutAll 32 s.data.toList)[k]? = some p → W.cell? ⟨w.heap.size, k, none⟩ = some (.string (Tw.str p)) := fun k p hk => by
    have hrow : W.heap[w.heap.size]? = some (.cells (strVals (words 32 s)).toArray 9) := by rw [← hW]; exact heap_alloc_new w _
    simp only [World.cell?, hrow]
    unfold strVals words
    simp [hk]
  rw [hW] at hsp
  obtain ⟨ps, hps⟩ : ∃ ps, cutAll 32 s.data.toList = ps := ⟨_, rfl⟩
  have hpz : ∀ p ∈ ps, p.length ≤ 1048576 := fun p hp => by
    rw [← hps] at hp
    have := part_size hp
    rw [size_data] at this
    omega
  rw [hps] at hsp hcell
  obtain ⟨L, hL⟩ : ∃ L, ps.length = L := ⟨_, rfl⟩
  rw [hL] at hsp
  have HSP := Lib.hid (hsp.mono fun e w' h => (⟨h.1, h.2.symm⟩ : e = .returned (.slice (some ⟨w.heap.size, 0, none⟩) L L) ∧ W = w'))
  have HCELL := Lib.hid hcell
  have HPZ := Lib.hid hpz
  have HPS := Lib.hid hps
  have HL := Lib.hid hL
  have HB0 := Lib.hid hb0
  clear hW hsp hcell hpz hps hL hm hb0
  by_cases hln : L = n
  · subst hln
    obtain ⟨i0, hi0, hz0, hz1, hz2⟩ := info_parts lineIntInfo
    have hL3 : L ≤ 3 := by omega
    clear hn
    go_enter Tryz.func98, Tryz.ntmps98
    go_wp2_with (first
      | (go_at_call 131; refine HSP.out.mono ?_; rintro e w' ⟨rfl, rfl⟩)
      | (at_make; refine wpList_make_own _ rfl _ _ 77 rfl (w.heap.size + 1) 3 i0 _ 1 Tryz.underlying77 hi0 hz0 hz1 .i64 .i64 _ L rfl rfl rfl (by rw [hz2]; omega) (by unfold maxLen; omega) (by omega) ?_; intro w1 hown1 hg1))
    have hb1 : Below (w.heap.size + 1) W w1 := (Below.refl _ _).grown hg1 (by omega) (fun k hk => by cases hk)
    rw [hWs] at hown1
    have HOWN1 := Lib.hid hown1
    clear hg1 hown1
    go_loopw [7, 22] (fun v i wr => ∃ k : Nat, k ≤ L ∧ i = .int .i64 k ∧ ∃ g cap, v = .slice (some ⟨g, 0, none⟩) k cap ∧ wr.ownsRow (w.heap.size + 1) 3 1 (.slice (some ⟨g, 0, none⟩) k cap) k (intVals (ps.take k)) ∧ Hid ((ps.take k).all (fun p => numOk p 4) = true) ∧ Below (w.heap.size + 1) W wr)
      (fun _ i _ => L - (intOf i).toNat)
    case atStart => exact ⟨0, Nat.zero_le _, rfl, _, _, rfl, HOWN1.out, rfl, hb1⟩
    case round =>
      obtain ⟨k, hk, rfl, g, cap, rfl, hown, HAL, hb⟩ := hrel
      by_cases hlt : k < L
      · have hgb := (hown.lt g rfl).1
        have hsz := hb.size
        obtain ⟨p, hp⟩ : ∃ p, ps[k]? = some p := ⟨ps[k]'(by rw [HL.out]; exact hlt), List.getElem?_eq_getElem (by rw [HL.out]; exact hlt)⟩
        have c0 := (hb.cell (p := ⟨w.heap.size, k, none⟩) (by show w.heap.size < w.heap.size + 1; omega)).trans (HCELL.out k p hp)
        have hrn := readNumber_any (Tw.str p) 4 (Nat.le_refl _) wr (by have := HPZ.out p (List.mem_of_getElem? hp); rw [Tw.str_size]; omega)
        rw [Tw.str_data] at hrn
        unfold NumOut at hrn
        have HP := Lib.hid hp
        obtain ⟨x, hx⟩ : ∃ x, Tw.str p = x := ⟨_, rfl⟩
        rw [hx] at c0 hrn
        have hb4 : ∀ W4, Below w.heap.size wr W4 → Below w.heap.size w W4 := fun W4 h4 => (HB0.out.trans (hb.mono (by omega))).trans h4
        have HB4 := Lib.hid hb4
        cases hnp : numOk p 4
        · unfold numRes at hrn
          rw [hnp] at hrn
          have HRN := Lib.hid hrn
          have HNP := Lib.hid hnp
          clear hx hrn hnp hp hb4
          go_wp2_with (first
            | (go_at_call 85; refine HRN.out.mono ?_; rintro e w3 ⟨rfl, rfl⟩))
          refine bodyPost_ret (v := .tuple #[.slice none 0 0, .bool false]) (by simp [results, Tryz.results98, go_sem]) rfl ?_
          exact ⟨.inr ⟨parts_bad (by rw [HPS.out]; exact HP.out) HNP.out, rfl⟩, HB4.out _ (Below.refl _ _)⟩
        · unfold numRes at hrn
          rw [hnp, if_pos rfl] at hrn
          have HNP := Lib.hid hnp
          obtain ⟨m, hmv⟩ : ∃ m, numVal p = m := ⟨_, rfl⟩
          rw [hmv] at hrn
          have HMV := Lib.hid hmv
          have HRN := Lib.hid hrn
          clear hx hrn hnp hp hmv hb4
          go_wp2_with (first
            | (go_at_call 85; refine HRN.out.mono ?_; rintro e w3 ⟨rfl, rfl⟩)
            | (at_builtin; refine wpList_append_lies _ rfl _ _ 77 rfl (w.heap.size + 1) 3 i0 _ 1 8 Tryz.underlying77 hi0 hz0 hz1 hz2 rfl (by omega) _ k _ rfl (hown.alloc _) ⟨wr.heap.size, 0, none⟩ 1 1 [.int .i64 (m : Int)] rfl rfl (World.news_of_block (cs := #[.int .i64 (m : Int)]) (t := 3) (fr := (0, 0)) (heap_alloc_new wr _)) (by simp [Value.oneCell']) (by omega) (by unfold maxLen; omega) (by omega) (by simp; omega) (wr.heap.size + 1) (by simp) ?_; intro g4 cap4 w4 hown4 hgrow4 hat4 hlt4))
          go_roundw
          case rel =>
            refine ⟨k + 1, by omega, by go_num, g4, cap4, rfl, ?_, all_more HP.out HAL.out HNP.out, ?_⟩
            · rw [intVals_snoc HP.out, HMV.out]
              exact hown4
            · exact (hb.alloc (by omega) _).grown hgrow4 (by simp; omega) (fun j hj => by have h9 : g = j := Option.some.inj hj; omega)
          case measure => simp [intOf]; omega
      · obtain rfl : k = L := by omega
        have hgb := (hown.lt g rfl).1
        have hall := HAL.out
        have HFIN : Hid (NumsOut s.data.toList k w (.returned (.tuple #[.slice (some ⟨g, 0, none⟩) k cap, .bool true])) wr) := by
          refine ⟨.inl ⟨parts_good (by rw [HPS.out]; exact HL.out) (by rw [HPS.out]; exact hall), g, cap, rfl, ?_⟩, HB0.out.trans (hb.mono (by omega))⟩
          rw [HPS.out]
          rw [List.take_of_length_le (by rw [HL.out]; exact Nat.le_refl _)] at hown
          exact hown.mono (by omega)
        clear hown hall
        go_wp2
        refine bodyPost_ret (v := .tuple #[.slice (some ⟨g, 0, none⟩) k cap, .bool true]) (by simp [results, Tryz.results98, go_sem]) rfl ?_
        exact HFIN.out
  · have hlni : ¬ (L : Int) = (n : Int) := by omega
    have HNE : Hid ((cutAll 32 s.data.toList).length ≠ n) := by show _ ≠ _; rw [HPS.out, HL.out]; exact hln
    clear hln hn
    go_enter Tryz.func98, Tryz.ntmps98
    go_wp2_with (first
      | (go_at_call 131; refine HSP.out.mono ?_; rintro e w' ⟨rfl, rfl⟩))
    refine bodyPost_ret (v := .tuple #[.slice none 0 0, .bool false]) (by simp [results, Tryz.results98, go_sem]) rfl ?_
    exact ⟨.inr ⟨parts_long HNE.out, rfl⟩, HB0.out⟩

end Go.Proofs.YtccdfndnjjjgfaaGreatDoor

namespace Go.Proofs.YtccdfndnjjjgfaaGreatDoor
open Go.RowKit

theorem cut_word {c r : List UInt8} (hc : (32 : UInt8) ∉ c) : curveText (c ++ 32 :: r) = curveOf (c :: cutAll 32 r) := by
  unfold curveText
  rw [cutAll_cons r hc]
theorem parts_two {r : List UInt8} (h : partsOk r 2 = true) : ∃ a b, cutAll 32 r = [a, b] ∧ numOk a 4 = true ∧ numOk b 4 = true := by
  unfold partsOk at h
  simp only [Bool.and_eq_true, decide_eq_true_eq] at h
  obtain ⟨h1, h2⟩ := h
  match hp : cutAll 32 r, h1 with
  | [a, b], _ =>
    rw [hp] at h2
    simp at h2
    exact ⟨a, b, rfl, h2.1, h2.2⟩
theorem parts_three {r : List UInt8} (h : partsOk r 3 = true) : ∃ a b d, cutAll 32 r = [a, b, d] ∧ numOk a 4 = true ∧ numOk b 4 = true ∧ numOk d 4 = true := by
  unfold partsOk at h
  simp only [Bool.and_eq_true, decide_eq_true_eq] at h
  obtain ⟨h1, h2⟩ := h
  match hp : cutAll 32 r, h1 with
  | [a, b, d], _ =>
    rw [hp] at h2
    simp at h2
    exact ⟨a, b, d, rfl, h2.1, h2.2.1, h2.2.2⟩
theorem cell_yes {r a b : List UInt8} (h : cutAll 32 r = [a, b]) (ha : numOk a 4 = true) (hb : numOk b 4 = true) : curveText (cellWord ++ 32 :: r) = cellText (numVal a) (numVal b) := by
  rw [cut_word (by decide), h]
  show (if cellWord = cellWord ∧ numOk a 4 = true ∧ numOk b 4 = true then cellText (numVal a) (numVal b) else whatText) = _
  rw [if_pos ⟨rfl, ha, hb⟩]
theorem numb_yes {r a b d : List UInt8} (h : cutAll 32 r = [a, b, d]) (ha : numOk a 4 = true) (hb : numOk b 4 = true) (hd : numOk d 4 = true) : curveText (numberWord ++ 32 :: r) = numbText (numVal a) (numVal b) (numVal d) := by
  rw [cut_word (by decide), h]
  show (if numberWord = numberWord ∧ numOk a 4 = true ∧ numOk b 4 = true ∧ numOk d 4 = true then numbText (numVal a) (numVal b) (numVal d) else whatText) = _
  rw [if_pos ⟨rfl, ha, hb, hd⟩]
theorem cell_no {r : List UInt8} (h : partsOk r 2 = false) : curveText (cellWord ++ 32 :: r) = whatText := by
  rw [cut_word (by decide)]
  unfold partsOk at h
  rcases hp : cutAll 32 r with _ | ⟨a, _ | ⟨b, _ | ⟨d, _ | ⟨f, g⟩⟩⟩⟩
  · rfl
  · rfl
  · rw [hp] at h
    show (if cellWord = cellWord ∧ numOk a 4 = true ∧ numOk b 4 = true then cellText (numVal a) (numVal b) else whatText) = _
    rw [if_neg]
    rintro ⟨_, h1, h2⟩
    simp [h1, h2] at h
  · show (if cellWord = numberWord ∧ numOk a 4 = true ∧ numOk b 4 = true ∧ numOk d 4 = true then numbText (numVal a) (numVal b) (numVal d) else whatText) = _
    rw [if_neg]
    rintro ⟨h1, _⟩
    exact absurd h1 (by decide)
  · rfl
theorem numb_no {r : List UInt8} (h : partsOk r 3 = false) : curveText (numberWord ++ 32 :: r) = whatText := by
  rw [cut_word (by decide)]
  unfold partsOk at h
  rcases hp : cutAll 32 r with _ | ⟨a, _ | ⟨b, _ | ⟨d, _ | ⟨f, g⟩⟩⟩⟩
  · rfl
  · rfl
  · show (if numberWord = cellWord ∧ numOk a 4 = true ∧ numOk b 4 = true then cellText (numVal a) (numVal b) else whatText) = _
    rw [if_neg]
    rintro ⟨h1, _⟩
    exact absurd h1 (by decide)
  · rw [hp] at h
    show (if numberWord = numberWord ∧ numOk a 4 = true ∧ numOk b 4 = true ∧ numOk d 4 = true then numbText (numVal a) (numVal b) (numVal d) else whatText) = _
    rw [if_neg]
    rintro ⟨_, h1, h2, h3⟩
    simp [h1, h2, h3] at h
  · rfl
theorem curve_other {c : List UInt8} (ps : List (List UInt8)) (h1 : c ≠ cellWord) (h2 : c ≠ numberWord) : curveOf (c :: ps) = whatText := by
  rcases ps with _ | ⟨a, _ | ⟨b, _ | ⟨d, _ | ⟨f, g⟩⟩⟩⟩
  · rfl
  · rfl
  · exact if_neg fun h => h1 h.1
  · exact if_neg fun h => h2 h.1
  · rfl
def cellPre : ByteArray := ⟨#[99, 101, 108, 108, 32]⟩
def numbPre : ByteArray := ⟨#[110, 117, 109, 98, 101, 114, 32]⟩
theorem pre_yes {p c l : List UInt8} (hp : p = c ++ [32]) (h : Lib.hasPrefix l p = true) : l = c ++ 32 :: Lib.trimPrefix l p := by
  have h1 : p <+: l := List.isPrefixOf_iff_prefix.1 h
  obtain ⟨r, hr⟩ := h1
  unfold Lib.trimPrefix
  rw [if_pos h, ← hr, List.drop_left, hp]
  simp
theorem pre_no {p c r : List UInt8} (hp : p = c ++ [32]) (h : Lib.hasPrefix (c ++ 32 :: r) p = false) : False := by
  have h1 : p.isPrefixOf (c ++ 32 :: r) = true := List.isPrefixOf_iff_prefix.2 ⟨r, by rw [hp]; simp⟩
  unfold Lib.hasPrefix at h
  rw [h1] at h
  cases h
theorem curve_else {l : List UInt8} (h1 : Lib.hasPrefix l cellPre.data.toList = false) (h2 : Lib.hasPrefix l numbPre.data.toList = false) : curveText l = whatText := by
  rcases first_sep 32 l with h | ⟨a, b, rfl, h⟩
  · unfold curveText
    rw [cutAll_one h]
    rfl
  · rw [cut_word h]
    refine curve_other _ (fun e => ?_) (fun e => ?_)
    · subst e
      exact pre_no (p := cellPre.data.toList) (c := cellWord) rfl h1
    · subst e
      exact pre_no (p := numbPre.data.toList) (c := numberWord) rfl h2
theorem not_numb (r : List UInt8) : Lib.hasPrefix (cellWord ++ 32 :: r) numbPre.data.toList = false := by
  unfold Lib.hasPrefix
  simp [numbPre, cellWord, List.isPrefixOf]
theorem trim_size (l p : List UInt8) : (Tw.str (Lib.trimPrefix l p)).size ≤ l.length := by
  rw [Tw.str_size]
  unfold Lib.trimPrefix
  split
  · simp
  · exact Nat.le_refl _

def CurveOut (l : List UInt8) (w : World) (e : Ending) (w' : World) : Prop := e = .returned (.string (curveText l)) ∧ Below w.heap.size w w'
theorem cutPre_any (s p : ByteArray) (w : World) (x : ByteArray) (b : Bool) (hx : Tw.str (Lib.trimPrefix s.data.toList p.data.toList) = x) (hb : Lib.hasPrefix s.data.toList p.data.toList = b) :
    Calls Tryz.prog 97 #[.string s, .string p] w fun e w' => e = .returned (.tuple #[.string x, .bool b]) ∧ w = w' := by
  refine (Tryz.strings_CutPrefix s p w).mono ?_
  rintro e w' ⟨rfl, rfl⟩
  exact ⟨by rw [← hx, ← hb]; rfl, rfl⟩
theorem nums_no {s : ByteArray} {n : Nat} (hn : n = 2 ∨ n = 3) (hs : s.size ≤ 1048576) (h : partsOk s.data.toList n = false) (w : World) (hm : MaxAt w) :
    Calls Tryz.prog 98 #[.string s, .int .i64 n] w fun e w' => e = .returned (.tuple #[.slice none 0 0, .bool false]) ∧ Below w.heap.size w w' := by
  refine (readNumbers_any s n hn w hm hs).mono ?_
  rintro e w' ⟨⟨h1, _⟩ | ⟨_, h2⟩, hb⟩
  · rw [h] at h1
    cases h1
  · exact ⟨h2, hb⟩
theorem nums_yes {s : ByteArray} {n : Nat} (hn : n = 2 ∨ n = 3) (hs : s.size ≤ 1048576) (h : partsOk s.data.toList n = true) (w : World) (hm : MaxAt w) :
    Calls Tryz.prog 98 #[.string s, .int .i64 n] w fun e w' => ∃ g cap, e = .returned (.tuple #[.slice (some ⟨g, 0, none⟩) n cap, .bool true]) ∧ (∀ j, j < n → w'.cell? ⟨g, j, none⟩ = (intVals (cutAll 32 s.data.toList))[j]?) ∧ Below w.heap.size w w' := by
  refine (readNumbers_any s n hn w hm hs).mono ?_
  rintro e w' ⟨⟨_, g, cap, he, hown⟩ | ⟨h1, _⟩, hb⟩
  · exact ⟨g, cap, he, fun j hj => hown.cellAt j (by omega), hb⟩
  · rw [h] at h1
    cases h1
set_option maxRecDepth 100000 in
set_option maxHeartbeats 800000 in
theorem curve_none (s : ByteArray) (w : World) (h1 : Lib.hasPrefix s.data.toList cellPre.data.toList = false) (h2 : Lib.hasPrefix s.data.toList numbPre.data.toList = false) :
    Calls Tryz.prog 47 #[.string s] w (CurveOut s.data.toList w) := by
  have HT : Hid (curveText s.data.toList = ⟨#[119, 104, 97, 116]⟩) := curve_else h1 h2
  obtain ⟨x, hx⟩ : ∃ x, Tw.str (Lib.trimPrefix s.data.toList cellPre.data.toList) = x := ⟨_, rfl⟩
  obtain ⟨y, hy⟩ : ∃ y, Tw.str (Lib.trimPrefix s.data.toList numbPre.data.toList) = y := ⟨_, rfl⟩
  have HA : Hid (∀ W, Calls Tryz.prog 97 #[.string s, .string ⟨#[99, 101, 108, 108, 32]⟩] W fun e w' => e = .returned (.tuple #[.string x, .bool false]) ∧ W = w') := fun W => cutPre_any s cellPre W x false hx h1
  have HB : Hid (∀ W, Calls Tryz.prog 97 #[.string s, .string ⟨#[110, 117, 109, 98, 101, 114, 32]⟩] W fun e w' => e = .returned (.tuple #[.string y, .bool false]) ∧ W = w') := fun W => cutPre_any s numbPre W y false hy h2
  clear hx hy h1 h2
  go_enter Tryz.func47, Tryz.ntmps47
  go_wp2_with (first
    | (go_at_call_of 97 (Value.string ⟨#[99, 101, 108, 108, 32]⟩); refine (HA.out _).mono ?_; rintro e w1 ⟨rfl, rfl⟩)
    | (go_at_call_of 97 (Value.string ⟨#[110, 117, 109, 98, 101, 114, 32]⟩); refine (HB.out _).mono ?_; rintro e w1 ⟨rfl, rfl⟩))
  go_ret
  exact ⟨ret_str HT.out.symm, Below.refl _ _⟩
set_option maxRecDepth 100000 in
set_option maxHeartbeats 800000 in
theorem curve_cell_no (s x : ByteArray) (w : World) (hm : MaxAt w) (hs : s.size ≤ 1048576) (h1 : Lib.hasPrefix s.data.toList cellPre.data.toList = true) (hx : Tw.str (Lib.trimPrefix s.data.toList cellPre.data.toList) = x) (hp : partsOk x.data.toList 2 = false) :
    Calls Tryz.prog 47 #[.string s] w (CurveOut s.data.toList w) := by
  have hl := pre_yes (p := cellPre.data.toList) (c := cellWord) rfl h1
  have hxd : x.data.toList = Lib.trimPrefix s.data.toList cellPre.data.toList := by rw [← hx, Tw.str_data]
  have hxs : x.size ≤ 1048576 := by have := trim_size s.data.toList cellPre.data.toList; rw [hx, size_data] at this; omega
  rw [← hxd] at hl
  have HT : Hid (curveText s.data.toList = ⟨#[119, 104, 97, 116]⟩) := by show _ = _; rw [hl]; exact cell_no hp
  have h2 : Lib.hasPrefix s.data.toList numbPre.data.toList = false := by rw [hl]; exact not_numb _
  obtain ⟨y, hy⟩ : ∃ y, Tw.str (Lib.trimPrefix s.data.toList numbPre.data.toList) = y := ⟨_, rfl⟩
  have HA : Hid (∀ W, Calls Tryz.prog 97 #[.string s, .string ⟨#[99, 101, 108, 108, 32]⟩] W fun e w' => e = .returned (.tuple #[.string x, .bool true]) ∧ W = w') := fun W => cutPre_any s cellPre W x true hx h1
  have HB : Hid (∀ W, Calls Tryz.prog 97 #[.string s, .string ⟨#[110, 117, 109, 98, 101, 114, 32]⟩] W fun e w' => e = .returned (.tuple #[.string y, .bool false]) ∧ W = w') := fun W => cutPre_any s numbPre W y false hy h2
  have HN := Lib.hid (nums_no (.inl rfl) hxs hp w hm)
  clear hx hy h1 h2 hl hxd hp hxs hm
  go_enter Tryz.func47, Tryz.ntmps47
  go_wp2_with (first
    | (go_at_call_of 97 (Value.string ⟨#[99, 101, 108, 108, 32]⟩); refine (HA.out _).mono ?_; rintro e w1 ⟨rfl, rfl⟩)
    | (go_at_call_of 97 (Value.string ⟨#[110, 117, 109, 98, 101, 114, 32]⟩); refine (HB.out _).mono ?_; rintro e w1 ⟨rfl, rfl⟩)
    | (go_at_call 98; refine HN.out.mono ?_; rintro e w2 ⟨rfl, hb2⟩))
  go_ret
  exact ⟨ret_str HT.out.symm, hb2⟩
set_option maxRecDepth 100000 in
set_option maxHeartbeats 800000 in
theorem curve_numb_no (s x y : ByteArray) (w : World) (hm : MaxAt w) (hs : s.size ≤ 1048576) (h1 : Lib.hasPrefix s.data.toList cellPre.data.toList = false) (h2 : Lib.hasPrefix s.data.toList numbPre.data.toList = true) (hx : Tw.str (Lib.trimPrefix s.data.toList cellPre.data.toList) = x) (hy : Tw.str (Lib.trimPrefix s.data.toList numbPre.data.toList) = y) (hp : partsOk y.data.toList 3 = false) :
    Calls Tryz.prog 47 #[.string s] w (CurveOut s.data.toList w) := by
  have hl := pre_yes (p := numbPre.data.toList) (c := numberWord) rfl h2
  have hxd : y.data.toList = Lib.trimPrefix s.data.toList numbPre.data.toList := by rw [← hy, Tw.str_data]
  have hxs : y.size ≤ 1048576 := by have := trim_size s.data.toList numbPre.data.toList; rw [hy, size_data] at this; omega
  rw [← hxd] at hl
  have HT : Hid (curveText s.data.toList = ⟨#[119, 104, 97, 116]⟩) := by show _ = _; rw [hl]; exact numb_no hp
  have HA : Hid (∀ W, Calls Tryz.prog 97 #[.string s, .string ⟨#[99, 101, 108, 108, 32]⟩] W fun e w' => e = .returned (.tuple #[.string x, .bool false]) ∧ W = w') := fun W => cutPre_any s cellPre W x false hx h1
  have HB : Hid (∀ W, Calls Tryz.prog 97 #[.string s, .string ⟨#[110, 117, 109, 98, 101, 114, 32]⟩] W fun e w' => e = .returned (.tuple #[.string y, .bool true]) ∧ W = w') := fun W => cutPre_any s numbPre W y true hy h2
  have HN := Lib.hid (nums_no (.inr rfl) hxs hp w hm)
  clear hx hy h1 h2 hl hxd hp hxs hm
  go_enter Tryz.func47, Tryz.ntmps47
  go_wp2_with (first
    | (go_at_call_of 97 (Value.string ⟨#[99, 101, 108, 108, 32]⟩); refine (HA.out _).mono ?_; rintro e w1 ⟨rfl, rfl⟩)
    | (go_at_call_of 97 (Value.string ⟨#[110, 117, 109, 98, 101, 114, 32]⟩); refine (HB.out _).mono ?_; rintro e w1 ⟨rfl, rfl⟩)
    | (go_at_call 98; refine HN.out.mono ?_; rintro e w2 ⟨rfl, hb2⟩))
  go_ret
  exact ⟨ret_str HT.out.symm, hb2⟩
theorem cell_small (a b : Nat) : (cellRes a b).1.1 < 32 ∧ (cellRes a b).1.2 < 32 := by
  unfold cellRes
  split
  · rename_i h
    have h2 := Hb.cell_lt a b
    have h3 : 2 ^ a ≤ 2 ^ 5 := Nat.pow_le_pow_right (by decide) h.1
    show (Hb.cell a b).1 < 32 ∧ (Hb.cell a b).2 < 32
    omega
  · exact ⟨by decide, by decide⟩
theorem numb_small (a x y : Nat) : -1 ≤ numbRes a x y ∧ numbRes a x y ≤ 1024 := by
  unfold numbRes
  split
  · rename_i h
    have h2 := Hb.num_lt a x y
    have h3 : 4 ^ a ≤ 4 ^ 5 := Nat.pow_le_pow_right (by decide) h.1
    omega
  · omega
set_option maxRecDepth 100000 in
set_option maxHeartbeats 1600000 in
theorem curve_cell_yes (s x : ByteArray) (w : World) (hm : MaxAt w) (hpw : PowAt w) (hs : s.size ≤ 1048576) (h1 : Lib.hasPrefix s.data.toList cellPre.data.toList = true) (hx : Tw.str (Lib.trimPrefix s.data.toList cellPre.data.toList) = x) (hp : partsOk x.data.toList 2 = true) :
    Calls Tryz.prog 47 #[.string s] w (CurveOut s.data.toList w) := by
  have hl := pre_yes (p := cellPre.data.toList) (c := cellWord) rfl h1
  have hxd : x.data.toList = Lib.trimPrefix s.data.toList cellPre.data.toList := by rw [← hx, Tw.str_data]
  have hxs : x.size ≤ 1048576 := by have := trim_size s.data.toList cellPre.data.toList; rw [hx, size_data] at this; omega
  rw [← hxd] at hl
  obtain ⟨pa, pb, hab, oka, okb⟩ := parts_two hp
  have ht := cell_yes hab oka okb
  rw [← hl] at ht
  have ha9 := num_four oka
  have hny := nums_yes (.inl rfl) hxs hp w hm
  rw [hab] at hny
  obtain ⟨a, ha⟩ : ∃ a, numVal pa = a := ⟨_, rfl⟩
  obtain ⟨b, hb⟩ : ∃ b, numVal pb = b := ⟨_, rfl⟩
  rw [ha] at ht ha9
  rw [hb] at ht
  have HV : Hid (intVals [pa, pb] = [.int .i64 (a : Int), .int .i64 (b : Int)]) := by show _ = _; rw [← ha, ← hb]; rfl
  have hc := implCellOf a b ha9
  unfold CellOut at hc
  have hsm := cell_small a b
  unfold cellText at ht
  obtain ⟨c1, hc1⟩ : ∃ c, (cellRes a b).1.1 = c := ⟨_, rfl⟩
  obtain ⟨c2, hc2⟩ : ∃ c, (cellRes a b).1.2 = c := ⟨_, rfl⟩
  obtain ⟨t, htt⟩ : ∃ t, (cellRes a b).2 = t := ⟨_, rfl⟩
  rw [hc1, hc2, htt] at ht
  simp only [hc1, hc2, htt] at hc
  rw [hc1, hc2] at hsm
  have HT := Lib.hid ht
  have HC := Lib.hid hc
  have HNY := Lib.hid hny
  have HPT := Lib.hid (pairText_any (c1 : Int) (c2 : Int) (by omega) (by omega) (by omega) (by omega))
  have HA : Hid (∀ W, Calls Tryz.prog 97 #[.string s, .string ⟨#[99, 101, 108, 108, 32]⟩] W fun e w' => e = .returned (.tuple #[.string x, .bool true]) ∧ W = w') := fun W => cutPre_any s cellPre W x true hx h1
  have HPW := Lib.hid hpw
  clear hx h1 hl hxd hp hxs hm ht ha9 hny hc hc1 hc2 htt ha hb hab hpw hsm
  cases t
  · go_enter Tryz.func47, Tryz.ntmps47
    go_upto_region 5 with (first
      | (go_at_call_of 97 (Value.string ⟨#[99, 101, 108, 108, 32]⟩); refine (HA.out _).mono ?_; rintro e w1 ⟨rfl, rfl⟩)
      | (go_at_call 98; refine HNY.out.mono ?_; rintro e w2 ⟨g, cap, rfl, hcell, hb2⟩; rw [HV.out] at hcell; have k0 : w2.cell? ⟨g, 0, none⟩ = some (.int .i64 (a : Int)) := hcell 0 (by omega); have k1 : w2.cell? ⟨g, 1, none⟩ = some (.int .i64 (b : Int)) := hcell 1 (by omega); clear hcell))
    go_region_held3 (fun w' => w'.cell? ⟨g, 0, none⟩ = some (.int .i64 (a : Int)) ∧ w'.cell? ⟨g, 1, none⟩ = some (.int .i64 (b : Int)))
      (exact ⟨k0, k1⟩)
      (first
        | (go_at_call 99; refine (HC.out _).mono ?_; rintro e w3 ⟨rfl, rfl⟩))
    all_goals
      go_wp2
      go_ret
      exact ⟨ret_str HT.out.symm, hb2.drew⟩
  · go_enter Tryz.func47, Tryz.ntmps47
    go_upto_region 5 with (first
      | (go_at_call_of 97 (Value.string ⟨#[99, 101, 108, 108, 32]⟩); refine (HA.out _).mono ?_; rintro e w1 ⟨rfl, rfl⟩)
      | (go_at_call 98; refine HNY.out.mono ?_; rintro e w2 ⟨g, cap, rfl, hcell, hb2⟩; rw [HV.out] at hcell; have k0 : w2.cell? ⟨g, 0, none⟩ = some (.int .i64 (a : Int)) := hcell 0 (by omega); have k1 : w2.cell? ⟨g, 1, none⟩ = some (.int .i64 (b : Int)) := hcell 1 (by omega); clear hcell))
    go_region_held3 (fun w' => w'.cell? ⟨g, 0, none⟩ = some (.int .i64 (a : Int)) ∧ w'.cell? ⟨g, 1, none⟩ = some (.int .i64 (b : Int)))
      (exact ⟨k0, k1⟩)
      (first
        | (go_at_call 99; refine (HC.out _).mono ?_; rintro e w3 ⟨rfl, rfl⟩))
    all_goals
      have hb3 : Below w.heap.size w w2.drew := hb2.drew
      go_wp2_with (first
        | (go_at_call 100; refine (HPT.out _ (HPW.out.below' hb3)).mono ?_; rintro e w4 ⟨rfl, hb4⟩))
      go_ret
      exact ⟨ret_str HT.out.symm, hb3.trans (hb4.mono hb3.size)⟩
set_option maxRecDepth 100000 in
set_option maxHeartbeats 1600000 in
theorem curve_numb_yes (s x y : ByteArray) (w : World) (hm : MaxAt w) (hpw : PowAt w) (hs : s.size ≤ 1048576) (h1 : Lib.hasPrefix s.data.toList cellPre.data.toList = false) (h2 : Lib.hasPrefix s.data.toList numbPre.data.toList = true) (hx : Tw.str (Lib.trimPrefix s.data.toList cellPre.data.toList) = x) (hy : Tw.str (Lib.trimPrefix s.data.toList numbPre.data.toList) = y) (hp : partsOk y.data.toList 3 = true) :
    Calls Tryz.prog 47 #[.string s] w (CurveOut s.data.toList w) := by
  have hl := pre_yes (p := numbPre.data.toList) (c := numberWord) rfl h2
  have hxd : y.data.toList = Lib.trimPrefix s.data.toList numbPre.data.toList := by rw [← hy, Tw.str_data]
  have hxs : y.size ≤ 1048576 := by have := trim_size s.data.toList numbPre.data.toList; rw [hy, size_data] at this; omega
  rw [← hxd] at hl
  obtain ⟨pa, pb, pd, hab, oka, okb, okd⟩ := parts_three hp
  have ht := numb_yes hab oka okb okd
  rw [← hl] at ht
  have ha9 := num_four oka
  have hny := nums_yes (.inr rfl) hxs hp w hm
  rw [hab] at hny
  obtain ⟨a, ha⟩ : ∃ a, numVal pa = a := ⟨_, rfl⟩
  obtain ⟨b, hb⟩ : ∃ b, numVal pb = b := ⟨_, rfl⟩
  obtain ⟨d, hd⟩ : ∃ d, numVal pd = d := ⟨_, rfl⟩
  rw [ha] at ht ha9
  rw [hb, hd] at ht
  have HV : Hid (intVals [pa, pb, pd] = [.int .i64 (a : Int), .int .i64 (b : Int), .int .i64 (d : Int)]) := by show _ = _; rw [← ha, ← hb, ← hd]; rfl
  have hc := implNumberOf a b d ha9
  unfold NumbOut at hc
  have hsm := numb_small a b d
  unfold numbText at ht
  obtain ⟨m, hmm⟩ : ∃ c, numbRes a b d = c := ⟨_, rfl⟩
  rw [hmm] at ht hsm
  simp only [hmm] at hc
  have HT := Lib.hid ht
  have HC := Lib.hid hc
  have HNY := Lib.hid hny
  have HPT := Lib.hid (numberOrNone_any m (decide (0 ≤ m)) (by omega) (by omega))
  have HA : Hid (∀ W, Calls Tryz.prog 97 #[.string s, .string ⟨#[99, 101, 108, 108, 32]⟩] W fun e w' => e = .returned (.tuple #[.string x, .bool false]) ∧ W = w') := fun W => cutPre_any s cellPre W x false hx h1
  have HB : Hid (∀ W, Calls Tryz.prog 97 #[.string s, .string ⟨#[110, 117, 109, 98, 101, 114, 32]⟩] W fun e w' => e = .returned (.tuple #[.string y, .bool true]) ∧ W = w') := fun W => cutPre_any s numbPre W y true hy h2
  have HPW := Lib.hid hpw
  clear hx hy h1 h2 hl hxd hp hxs hm ht ha9 hny hc hmm ha hb hd hab hpw hsm
  go_enter Tryz.func47, Tryz.ntmps47
  go_upto_region 13 with (first
    | (go_at_call_of 97 (Value.string ⟨#[99, 101, 108, 108, 32]⟩); refine (HA.out _).mono ?_; rintro e w1 ⟨rfl, rfl⟩)
    | (go_at_call_of 97 (Value.string ⟨#[110, 117, 109, 98, 101, 114, 32]⟩); refine (HB.out _).mono ?_; rintro e w1 ⟨rfl, rfl⟩)
    | (go_at_call 98; refine HNY.out.mono ?_; rintro e w2 ⟨g, cap, rfl, hcell, hb2⟩; rw [HV.out] at hcell; have k0 : w2.cell? ⟨g, 0, none⟩ = some (.int .i64 (a : Int)) := hcell 0 (by omega); have k1 : w2.cell? ⟨g, 1, none⟩ = some (.int .i64 (b : Int)) := hcell 1 (by omega); have k2 : w2.cell? ⟨g, 2, none⟩ = some (.int .i64 (d : Int)) := hcell 2 (by omega); clear hcell))
  go_region_held3 (fun w' => w'.cell? ⟨g, 0, none⟩ = some (.int .i64 (a : Int)) ∧ w'.cell? ⟨g, 1, none⟩ = some (.int .i64 (b : Int)) ∧ w'.cell? ⟨g, 2, none⟩ = some (.int .i64 (d : Int)))
    (first
      | exact ⟨k0, k1, k2⟩
      | exact ⟨cell_keep hb3 k0, cell_keep hb3 k1, cell_keep hb3 k2⟩)
    (first
      | (go_at_call 101; refine (HC.out _).mono ?_; rintro e w3 ⟨rfl, hb3⟩))
  all_goals
    have hb4 : Below w.heap.size w w3 := by first | exact hb2.drew.trans (hb3.mono hb2.size) | exact hb2.trans (hb3.mono hb2.size)
    go_wp2_with (first
      | (go_at_call 102; refine (HPT.out _ (HPW.out.below' hb4)).mono ?_; rintro e w5 ⟨rfl, hb5⟩))
    go_ret
    exact ⟨ret_str HT.out.symm, hb4.trans (hb5.mono hb4.size)⟩
theorem curveAnswer_any (s : ByteArray) (w : World) (hm : MaxAt w) (hpw : PowAt w) (hs : s.size ≤ 1048576) :
    Calls Tryz.prog 47 #[.string s] w (CurveOut s.data.toList w) := by
  obtain ⟨x, hx⟩ : ∃ x, Tw.str (Lib.trimPrefix s.data.toList cellPre.data.toList) = x := ⟨_, rfl⟩
  obtain ⟨y, hy⟩ : ∃ y, Tw.str (Lib.trimPrefix s.data.toList numbPre.data.toList) = y := ⟨_, rfl⟩
  cases h1 : Lib.hasPrefix s.data.toList cellPre.data.toList
  · cases h2 : Lib.hasPrefix s.data.toList numbPre.data.toList
    · exact curve_none s w h1 h2
    · cases hp : partsOk y.data.toList 3
      · exact curve_numb_no s x y w hm hs h1 h2 hx hy hp
      · exact curve_numb_yes s x y w hm hpw hs h1 h2 hx hy hp
  · cases hp : partsOk x.data.toList 2
    · exact curve_cell_no s x w hm hs h1 hx hp
    · exact curve_cell_yes s x w hm hpw hs h1 hx hp

end Go.Proofs.YtccdfndnjjjgfaaGreatDoor
