/-
  The contract of allDifferent: a set of places in a map of the call's own.
-/
import Derived.Test.YtccdfndnjjjgfaaGreatDoorPlacesOf
import Derived.Maps.OwnSet
import Derived.Maps.Views
import Derived.DeepKeys4
import Derived.WideKeyArr2
namespace Go.Proofs.YtccdfndnjjjgfaaGreatDoor
open Go.RowKit Go.Maps Go.WideMaps

theorem laidKeys : laidOutB Tryz.prog = true := by kernel_rfl
theorem placeRow : (130 : TypeId) < Tryz.prog.types.size := of_decide_eq_true (by kernel_rfl)
theorem placeWide : (match Tryz.prog.underlying 130 with | some (.array _ _) | some (.struct _) => true | _ => false) = true := by rw [Tryz.underlying130]
set_option maxRecDepth 100000 in
theorem placeLaw : Keyed Tryz.prog 130 := Keyed.of_law (deep_law_laid laidKeys (m := 2) (by omega) placeRow (by kernel_rfl) placeWide)
theorem placeKeyType : Tryz.prog.keyType 130 = true := by kernel_rfl
theorem placeCells : Tryz.prog.cellsOf 130 = 2 := by kernel_rfl
theorem intCells : Tryz.prog.cellsOf 3 = 1 := by kernel_rfl
theorem typesMore : ∃ m, Tryz.prog.types.size + 1 = m + 1 + 1 := ⟨Tryz.prog.types.size - 1, by
  have h : (130 : Nat) < Tryz.prog.types.size := placeRow
  omega⟩

def placeVal (p : Int × Int) : Value := .agg #[.int .i64 p.1, .int .i64 p.2]
def placeKey (p : Int × Int) : Lit := .string (keyBytes [.int .i64 p.1, .int .i64 p.2])
/-- Both numbers of a place are small. -/
def near (p : Int × Int) : Prop := -1000000 ≤ p.1 ∧ p.1 ≤ 1000000 ∧ -1000000 ≤ p.2 ∧ p.2 ≤ 1000000

theorem keyOf_place (p : Int × Int) (h : near p) : keyOf Tryz.prog 130 (placeVal p) = some (placeKey p) := by
  obtain ⟨h1, h2, h3, h4⟩ := h
  have w1 : (Lit.int .i64 p.1).wf = true := WalkArith.wf_i64 (by omega)
  have w2 : (Lit.int .i64 p.2).wf = true := WalkArith.wf_i64 (by omega)
  obtain ⟨m, hm⟩ := typesMore
  unfold keyOf placeVal
  simp only [Tryz.underlying130]
  rw [if_pos (by simp [placeKeyType, Value.formed, Tryz.underlying130, placeCells]), hm]
  simp [Program.keyLits, Tryz.underlying130, placeCells, intCells, Tryz.underlying3, List.range_succ, w1, w2, placeKey, Value.cells]

theorem isKey_place (p : Int × Int) : WideAt.IsKeyLit (placeKey p) := True.intro

theorem placeKey_inj {p q : Int × Int} (hp : near p) (hq : near q) (h : placeKey p = placeKey q) : p = q := by
  have h1 := keyOf_place p hp
  have h2 := keyOf_place q hq
  rw [h] at h1
  have := placeLaw.inj h1 h2
  simp [placeVal] at this
  exact Prod.ext this.1 this.2

/-- The set of some places, as the map reads. -/
def placeSet (ps : List (Int × Int)) : DataW Unit := setOf (.agg []) (ps.map placeKey)
theorem placeSet_nil : placeSet [] = .map [] := by simp [placeSet, setOf]
theorem placeSet_snoc (ps : List (Int × Int)) (p : Int × Int) : placeSet (ps ++ [p]) = (placeSet ps).put (placeKey p) (.agg []) := by
  unfold placeSet
  rw [List.map_append]
  exact setOf_snoc _ _ _

theorem any_same (acc : List Lit) (x : Lit) (hx : WideAt.IsKeyLit x) : (acc.any fun y => y.sameKey x) = true ↔ x ∈ acc := by
  rw [List.any_eq_true]
  constructor
  · rintro ⟨y, hy, h⟩
    rw [← WideAt.sameKey_eq h]
    exact hy
  · intro h
    exact ⟨x, h, WideAt.sameKey_self hx⟩
theorem fold_le : ∀ (xs acc : List Lit), (xs.foldl addKey acc).length ≤ acc.length + xs.length
  | [], acc => Nat.le_refl _
  | x :: xs, acc => by
    have h := fold_le xs (addKey acc x)
    have h2 : (addKey acc x).length ≤ acc.length + 1 := by unfold addKey; split <;> simp
    simp only [List.foldl_cons, List.length_cons]
    omega
theorem fold_eq : ∀ (xs acc : List Lit), (∀ x ∈ xs, WideAt.IsKeyLit x) → ((xs.foldl addKey acc).length = acc.length + xs.length ↔ xs.Nodup ∧ ∀ x ∈ xs, x ∉ acc)
  | [], acc, _ => by simp
  | x :: xs, acc, h => by
    have hk := h x (by simp)
    have hi := fold_eq xs (acc ++ [x]) (fun y hy => h y (by simp [hy]))
    simp only [List.foldl_cons, List.length_cons]
    by_cases hx : x ∈ acc
    · have e : addKey acc x = acc := by unfold addKey; rw [if_pos ((any_same acc x hk).2 hx)]
      have hl := fold_le xs acc
      rw [e]
      constructor
      · intro h'
        omega
      · intro h'
        exact absurd hx (h'.2 x (by simp))
    · have e : addKey acc x = acc ++ [x] := by unfold addKey; rw [if_neg (fun h' => hx ((any_same acc x hk).1 h'))]
      rw [e]
      simp only [List.length_append, List.length_cons, List.length_nil] at hi
      rw [show acc.length + (xs.length + 1) = acc.length + (0 + 1) + xs.length from by omega, hi, List.nodup_cons]
      constructor
      · rintro ⟨h1, h2⟩
        refine ⟨⟨fun hxx => h2 x hxx (by simp), h1⟩, fun y hy => ?_⟩
        rcases List.mem_cons.1 hy with rfl | hy
        · exact hx
        · exact fun hya => h2 y hy (by simp [hya])
      · rintro ⟨⟨h1, h2⟩, h3⟩
        refine ⟨h2, fun y hy hya => ?_⟩
        rcases List.mem_append.1 hya with hya | hya
        · exact h3 y (by simp [hy]) hya
        · rw [List.mem_singleton.1 hya] at hy
          exact h1 hy

theorem nodup_keys (ps : List (Int × Int)) (h : ∀ p ∈ ps, near p) : (ps.map placeKey).Nodup ↔ ps.Nodup := by
  rw [List.nodup_iff_pairwise_ne, List.nodup_iff_pairwise_ne, List.pairwise_map]
  constructor
  · intro h'
    exact h'.imp fun hne e => hne (by rw [e])
  · intro h'
    exact h'.imp_of_mem fun ha hb hne e => hne (placeKey_inj (h _ ha) (h _ hb) e)

theorem placeSet_size (ps : List (Int × Int)) (h : ∀ p ∈ ps, near p) : ((Maps.size (placeSet ps) : Int) == (ps.length : Int)) = Tw.noTwice ps := by
  have h1 := fold_eq (ps.map placeKey) [] (fun x hx => by
    obtain ⟨p, _, rfl⟩ := List.mem_map.1 hx
    exact isKey_place p)
  have h2 : Maps.size (placeSet ps) = ((ps.map placeKey).foldl addKey []).length := size_setOf _ _ (fun x hx => by
    obtain ⟨p, _, rfl⟩ := List.mem_map.1 hx
    exact isKey_place p)
  simp only [List.length_nil, Nat.zero_add, List.length_map, List.not_mem_nil, not_false_eq_true, implies_true, and_true] at h1
  rw [nodup_keys ps h] at h1
  unfold Tw.noTwice
  rw [h2, Bool.eq_iff_iff, beq_iff_eq, decide_eq_true_iff, ← h1]
  omega

theorem run_makeMap_n {P : Program} (t k e : TypeId) (kd : IntKind) (n : Int) (ht : P.underlying t = some (.map k e)) (w : World) :
    (Instr.makeMap t (some (.int kd n))).run P w = .ok (.map (some w.heap.size)) (w.alloc (.map #[] 0)) := by
  simp [Instr.makeMap, run_underlying ht]
  rfl

set_option maxRecDepth 100000 in
set_option maxHeartbeats 3200000 in
theorem allDifferent_any (w : World) (g n cap : Nat) (ps : List (Int × Int)) (hn : ps.length = n) (h1 : 1 ≤ n) (h99 : n ≤ 1000) (hnear : ∀ p ∈ ps, near p) (hg : g < w.heap.size)
    (hc : ∀ (i : Nat) (p : Int × Int), ps[i]? = some p → w.cell? ⟨g, i * 2, none⟩ = some (.int .i64 p.1) ∧ w.cell? ⟨g, i * 2 + 1, none⟩ = some (.int .i64 p.2)) :
    Calls Tryz.prog 148 #[.slice (some ⟨g, 0, none⟩) n cap] w fun e w' => e = .returned (.bool (Tw.noTwice ps)) ∧ Below w.heap.size w w' := by
  have hmk := fun (kd : IntKind) (m : Int) (W : World) => run_makeMap_n (P := Tryz.prog) 157 130 170 kd m Tryz.underlying157 W
  have HN := Lib.hid hn
  clear hn
  have HC := Lib.hid hc
  clear hc
  go_enter Tryz.func148, Tryz.ntmps148
  go_wp2
  go_loopw [5, 11] (fun _ i wr => ∃ k : Nat, k ≤ n ∧ i = .int .i64 k ∧ wr.ownsMap Tryz.prog 130 unitElem w.heap.size k (placeSet (ps.take k)) ∧ Below w.heap.size w wr ∧ w.heap.size + 1 ≤ wr.heap.size)
    (fun _ i _ => n - (intOf i).toNat)
  case atStart => exact ⟨0, Nat.zero_le _, rfl, by rw [List.take_zero, placeSet_nil]; exact World.ownsMap_made _ _ _ _, (Below.refl _ _).alloc (Nat.le_refl _) _, by simp⟩
  case round =>
    obtain ⟨k, hk, rfl, hown, hb, hsz⟩ := hrel
    by_cases hlt : k < n
    · obtain ⟨p, hp⟩ : ∃ p, ps[k]? = some p := ⟨ps[k]'(by rw [HN.out]; exact hlt), List.getElem?_eq_getElem (by rw [HN.out]; exact hlt)⟩
      have hnp := hnear p (List.mem_of_getElem? hp)
      obtain ⟨c0, c1⟩ := HC.out k p hp
      have d0 : wr.cell? ⟨g, k * 2, none⟩ = some (.int .i64 p.1) := (hb.cell (p := ⟨_, _, none⟩) hg).trans c0
      have d1 : wr.cell? ⟨g, k * 2 + 1, none⟩ = some (.int .i64 p.2) := (hb.cell (p := ⟨_, _, none⟩) hg).trans c1
      clear c0 c1
      have HKEY := Lib.hid (keyOf_place p hnp)
      have HP := Lib.hid hp
      clear hp
      go_wp2_with (first
        | (at_mapUpdate; refine wpList_mapUpdate_own _ rfl _ _ _ 157 rfl 130 170 placeLaw Tryz.underlying157 (unitElem (H := Unit)) w.heap.size k _ rfl (hown.alloc _) (by unfold maxLen; omega) _ _ _ rfl rfl HKEY.out _ [] unitElem_mk ?_; intro w2 hown2 hgrow2))
      have s2 := hgrow2.size
      go_roundw
      case rel =>
        refine ⟨k + 1, by omega, by go_num, ?_, ?_, ?_⟩
        · rw [List.take_add_one, HP.out]
          rw [show (ps.take k ++ (some p).toList) = ps.take k ++ [p] from rfl, placeSet_snoc]
          exact hown2
        · exact (hb.alloc hb.size _).grown hgrow2 (by simp; omega) (fun j hj => by cases hj; exact Nat.le_refl _)
        · simp at s2; omega
      case measure => simp [intOf]; omega
    · obtain rfl : k = n := by omega
      go_wp2_with (first
        | (at_len; refine wpList_len_own _ rfl _ 157 rfl 130 170 Tryz.underlying157 _ w.heap.size k _ rfl hown ?_))
      go_ret
      refine ⟨ret_bool ?_, hb⟩
      rw [List.take_of_length_le (by rw [HN.out]; exact Nat.le_refl _), ← placeSet_size ps hnear, HN.out]

end Go.Proofs.YtccdfndnjjjgfaaGreatDoor
