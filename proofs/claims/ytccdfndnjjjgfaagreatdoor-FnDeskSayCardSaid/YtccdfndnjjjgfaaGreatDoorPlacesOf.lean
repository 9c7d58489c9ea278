/-
  The contract of placesOf: the places of a walk, two cells a place, in a row of the call's own.
-/
import Derived.Test.YtccdfndnjjjgfaaGreatDoorPlaces
import Derived.Test.YtccdfndnjjjgfaaGreatDoorSteps
namespace Go.Proofs.YtccdfndnjjjgfaaGreatDoor
open Go.RowKit

theorem take_made (z : Array Value) (n : Nat) (hn : 1 ≤ n) : (madeCells z (n * z.size)).toList.take (1 * z.size) = z.toList := by
  have hle : z.size ≤ n * z.size := Nat.le_mul_of_pos_left _ hn
  apply List.ext_getElem?
  intro j
  by_cases hj : j < z.size
  · have hj2 : j < n * z.size := by omega
    rw [List.getElem?_take, if_pos (by omega)]
    simp [madeCells, hj2, Nat.mod_eq_of_lt hj, hj]
  · rw [List.getElem?_eq_none (by simp; omega), List.getElem?_eq_none (by simp; omega)]

/-- 'make([]T, 1, n)'. -/
theorem wpList_make_one {P : Program} (w : World) {ops : Array Oper} {rest : List Oper} {o : Oper} {a : Act} {Q : Exit → Act → World → Prop}
    (hg : o.guard = none) (l c : Operand) (t : TypeId) (hop : o.op = Op.makeSlice t l c)
    (base : Nat) (e : TypeId) (i : TypeInfo) (z : Value) (size : Nat) (h1 : P.underlying t = some (.slice e)) (h2 : P.info? e = some i) (h3 : i.zero = some z) (h4 : i.size = size) (h5 : z.cells.size = size)
    (kl kc : IntKind) (C : Int) (n : Nat) (hl : a.eval l = .int kl 1) (hc : a.eval c = .int kc C) (hC : C = (n : Int)) (h6 : 1 ≤ n) (b2 : i.bytes * n ≤ 281474976710656) (b3 : n ≤ 9223372036854775807) (b4 : base ≤ w.heap.size)
    (hK : ∀ w', w'.ownsRow base e size (.slice (some ⟨w.heap.size, 0, none⟩) 1 n) 1 z.cells.toList → w.grownBy w' none → wpList P ops Q rest (a.put o.dst (.slice (some ⟨w.heap.size, 0, none⟩) 1 n)) w') :
    wpList P ops Q (o :: rest) a w := by
  refine wpList_plain hg fun K hK' => ?_
  subst hC
  subst h4
  have hb' : (i.bytes : Int) * (n : Int) ≤ 281474976710656 := by
    have h : ((i.bytes * n : Nat) : Int) ≤ 281474976710656 := by omega
    rwa [Int.natCast_mul] at h
  have hr := run_make (P := P) w t e i z h1 h2 h3 kl kc 1 n (by omega) (by omega) hb' (by omega)
  unfold Oper.wp
  simp [execOp, hop, hl, hc, hr, Result.andThen]
  refine hK' _ _ (hK _ ⟨by simp [h5], .inr ⟨w.heap.size, n, _, rfl, b4, heap_alloc_new w _, h6, by unfold maxLen; omega, size_madeCells _ _, ?_⟩⟩ (World.grownBy_alloc w _ none))
  rw [← h5]
  exact take_made _ n h6

/-- The cells of a row of places. -/
def pairCells (ps : List (Int × Int)) : List Value := ps.flatMap fun p => [.int .i64 p.1, .int .i64 p.2]
theorem pairCells_append (ps qs : List (Int × Int)) : pairCells (ps ++ qs) = pairCells ps ++ pairCells qs := List.flatMap_append
theorem pairCells_length (ps : List (Int × Int)) : (pairCells ps).length = ps.length * 2 := by
  induction ps with
  | nil => rfl
  | cons p ps ih =>
    show (_ :: _ :: pairCells ps).length = _
    simp [ih]; omega
theorem pairCells_get : ∀ (ps : List (Int × Int)) (i : Nat) (p : Int × Int), ps[i]? = some p → (pairCells ps)[i * 2]? = some (.int .i64 p.1) ∧ (pairCells ps)[i * 2 + 1]? = some (.int .i64 p.2)
  | [], i, p, h => by simp at h
  | q :: ps, 0, p, h => by
    obtain rfl : q = p := by simpa using h
    exact ⟨rfl, rfl⟩
  | q :: ps, i + 1, p, h => by
    have ih := pairCells_get ps i p (by simpa using h)
    rw [show (i + 1) * 2 = i * 2 + 1 + 1 from by omega]
    exact ih

/-- A slice value holds these places, in a row from block base on. -/
def PlacesIn (w : World) (base : Nat) (v : Value) (ps : List (Int × Int)) : Prop :=
  ∃ g cap, v = .slice (some ⟨g, 0, none⟩) ps.length cap ∧ w.ownsRow base 130 2 v ps.length (pairCells ps)

theorem place_cells {w : World} {base g n cap : Nat} {ps : List (Int × Int)} (h : w.ownsRow base 130 2 (.slice (some ⟨g, 0, none⟩) n cap) n (pairCells ps)) {i : Nat} {p : Int × Int} (hp : ps[i]? = some p) :
    w.cell? ⟨g, i * 2, none⟩ = some (.int .i64 p.1) ∧ w.cell? ⟨g, i * 2 + 1, none⟩ = some (.int .i64 p.2) :=
  ⟨own_cell h (pairCells_get ps i p hp).1, own_cell h (pairCells_get ps i p hp).2⟩

theorem placeInfo : (Tryz.prog.info? 130).map (fun i => (i.zero, i.size, i.bytes)) = some (some (.agg #[.int .i64 0, .int .i64 0]), 2, 16) := by kernel_rfl

set_option maxRecDepth 100000 in
set_option maxHeartbeats 3200000 in
theorem implPlacesOf (s : ByteArray) (w : World) (hw : DirsAt w) (hok : Tw.walkOk s.data.toList = true) :
    Calls Tryz.prog 147 #[.string s] w fun e w' => ∃ v, e = .returned v ∧ PlacesIn w' w.heap.size v (Tw.places s.data.toList) ∧ Below w.heap.size w w' := by
  have HOK := Lib.hid hok
  clear hok
  have h40 : s.size ≤ 40 := by have := Tw.walkOk_len HOK.out; rwa [size_data] at this
  obtain ⟨i0, hi0, hz0, hz1, hz2⟩ := info_parts placeInfo
  go_enter Tryz.func147, Tryz.ntmps147
  go_wp2_with (first
    | (at_make; refine wpList_make_one _ rfl _ _ 148 rfl w.heap.size 130 i0 _ 2 Tryz.underlying148 hi0 hz0 hz1 rfl .i64 .i64 _ (s.size + 1) rfl rfl (by omega) (by omega) (by rw [hz2]; omega) (by omega) (Nat.le_refl _) ?_; intro w1 hown1 hg1))
  have hb1 : Below w.heap.size w w1 := (Below.refl _ _).grown hg1 (Nat.le_refl _) (fun k hk => by cases hk)
  clear hg1
  go_loopw [3, 4] (fun v i wr => ∃ k : Nat, k ≤ s.size ∧ i = .int .i64 k ∧ ∃ g, v = .slice (some ⟨g, 0, none⟩) (k + 1) (s.size + 1) ∧ wr.ownsRow w.heap.size 130 2 (.slice (some ⟨g, 0, none⟩) (k + 1) (s.size + 1)) (k + 1) (pairCells (Tw.placesTo s.data.toList k)) ∧ Below w.heap.size w wr)
    (fun _ i _ => s.size - (intOf i).toNat)
  case atStart => exact ⟨0, Nat.zero_le _, rfl, _, rfl, hown1, hb1⟩
  case round =>
    obtain ⟨k, hk, rfl, g, rfl, hown, hb⟩ := hrel
    by_cases hlt : k < s.size
    · have hd : 0 ≤ Tw.dir s[k] := Tw.walkOk_dir HOK.out (k := k) (by rw [size_data]; exact hlt)
      have hd3 := (Tw.dir_range s[k]).2
      obtain ⟨p, hp⟩ : ∃ p, p = Tw.placeAt s.data.toList k := ⟨_, rfl⟩
      have hr := Tw.placeAt_range s.data.toList k
      rw [← hp] at hr
      have hpk : (Tw.placesTo s.data.toList k)[k]? = some p := by rw [hp]; exact Tw.placesTo_get? _ _ _ (by omega)
      obtain ⟨hc0, hc1⟩ := place_cells hown hpk
      have HX := Lib.hid (pairCells_get _ _ _ hpk)
      clear hpk
      have HP := Lib.hid hp
      clear hp
      have hgb := (hown.lt g rfl)
      have hk0 : (0 : Int) ≤ (k : Int) := by omega
      have hk7 : k + 1 + 1 ≤ s.size + 1 := by omega
      have hs2 := hb.size
      have hx2 : -1000000 ≤ p.1 ∧ p.1 ≤ 1000000 := ⟨by omega, by omega⟩
      have hy2 : -1000000 ≤ p.2 ∧ p.2 ≤ 1000000 := ⟨by omega, by omega⟩
      have hk1 : (k : Int) < (k : Int) + 1 := by omega
      have hdr := hw.below hb hw.lt
      go_wp2_with fail
      go_region_held3 (fun w' => w'.cell? ⟨g, k * 2, none⟩ = some (.int .i64 p.1) ∧ w'.cell? ⟨g, k * 2 + 1, none⟩ = some (.int .i64 p.2))
        (first | go_keep | exact ⟨own_left hown2 HX.out.1, own_left hown2 HX.out.2⟩ | (refine ⟨?_, ?_⟩ <;> (rw [hb3.cell (by simp; omega)]; go_keep)))
        (first
          | (go_at_call 113; refine (dirOf_any _ _).mono ?_; rintro e w' ⟨rfl, rfl⟩)
          | (go_at_call 146; refine (stepped_any p.1 p.2 _ _ hdr.drew hd hd3 hx2 hy2).mono ?_; rintro e w3 ⟨rfl, hb3⟩; have hown3 := own_below (w := wr.drew) hown.drew hb3; have hs4 : w.heap.size ≤ w3.heap.size := Nat.le_trans hs2 hb3.size)
          | (refine step_append_fits (by rfl) _ _ _ (by rfl) w.heap.size 130 i0 2 Tryz.underlying148 hi0 hz1 g (k + 1) (s.size + 1) _ (by rfl) (hown3.alloc _) ⟨w3.heap.size, 0, none⟩ 1 1 [.int .i64 (p.1 + Tw.east (Tw.dir s[k])), .int .i64 (p.2 + Tw.north (Tw.dir s[k]))] (by rfl) (by rfl) (World.news_of_block (cs := #[.int .i64 (p.1 + Tw.east (Tw.dir s[k])), .int .i64 (p.2 + Tw.north (Tw.dir s[k]))]) (t := 130) (fr := (0, 0)) (heap_alloc_new w3 _)) (by simp [Value.oneCell']) hk7 ?_; intro w2 hown2 hgrow2))
      go_wp2
      go_roundw
      case rel =>
        refine ⟨k + 1, by omega, by go_num, g, rfl, ?_, ?_⟩
        · have e2 : pairCells (Tw.placesTo s.data.toList (k + 1)) = pairCells (Tw.placesTo s.data.toList k) ++ [.int .i64 (p.1 + Tw.east (Tw.dir s[k])), .int .i64 (p.2 + Tw.north (Tw.dir s[k]))] := by
            rw [Tw.placesTo_succ, pairCells_append, Tw.placeAt_succ _ _ (by rw [size_data]; exact hlt), ← HP.out]
            rfl
          rw [e2]
          exact hown2
        · have hb4 : Below w.heap.size w w3 := hb.drew.trans (hb3.mono hb.size)
          exact ((hb4.alloc hb4.size _).grown hgrow2 (by have := hb4.size; simp; omega) (fun j hj => by cases hj; omega))
      case measure => simp [intOf]; omega
    · obtain rfl : k = s.size := by omega
      go_wp2
      go_ret
      have e : Tw.places s.data.toList = Tw.placesTo s.data.toList s.size := by unfold Tw.places; rw [size_data]
      refine ⟨.slice (some ⟨g, 0, none⟩) (s.size + 1) (s.size + 1), rfl, ⟨g, s.size + 1, ?_, ?_⟩, hb⟩
      · rw [e, Tw.placesTo_length]
      · rw [e, Tw.placesTo_length]
        exact hown

end Go.Proofs.YtccdfndnjjjgfaaGreatDoor
