/-
  Slices of strings: how they lie, and contracts of the law's helpers szStringS, toStringS, eqStringS.
-/
import Derived.Test.YtccdfndnjjjgfaaGreatDoorBase
import Derived.Test.YtccdfndnjjjgfaaGreatDoorSteps
import Derived.BigQuiet
import Derived.Deep.QuietTactic
import Derived.Maps.AppendAt
namespace Go.Proofs.YtccdfndnjjjgfaaGreatDoor
open Go.RowKit

/-- A slice of strings as it lies: nil, or its cells one by one. -/
def StrsAt (w : World) (v : Value) (zs : List ByteArray) : Prop :=
  (v = .slice none 0 0 ∧ zs = []) ∨ ∃ a cap, v = .slice (some a) zs.length cap ∧ zs.length ≤ cap ∧ ∀ (j : Nat) (z : ByteArray), zs[j]? = some z → w.cell? (a.add j) = some (.string z)
theorem add_block (a : Addr) (j : Nat) : (a.add j).block = a.block := by unfold Addr.add; split <;> rfl
theorem cell_keep {w w' : World} {p : Addr} {u : Value} (hb : Below w.heap.size w w') (h : w.cell? p = some u) : w'.cell? p = some u := (hb.cell (World.block_lt_of_cell? w _ h)).trans h
theorem StrsAt.below {w w' : World} {B : Nat} {v : Value} {zs : List ByteArray} (h : StrsAt w v zs) (hb : Below B w w') (hB : w.heap.size ≤ B) : StrsAt w' v zs := by
  rcases h with h | ⟨a, cap, rfl, hl, hc⟩
  · exact .inl h
  · exact .inr ⟨a, cap, rfl, hl, fun j z hz => cell_keep (hb.mono hB) (hc j z hz)⟩
theorem StrsAt.below' {w w' : World} {v : Value} {zs : List ByteArray} (h : StrsAt w v zs) (hb : Below w.heap.size w w') : StrsAt w' v zs := h.below hb (Nat.le_refl _)

/-- How much is in them: the count, and all bytes. -/
def bulk : List ByteArray → Int
  | [] => 0
  | z :: zs => (z.size : Int) + bulk zs
theorem bulk_nonneg : ∀ zs : List ByteArray, 0 ≤ bulk zs
  | [] => Int.le_refl _
  | z :: zs => by have := bulk_nonneg zs; unfold bulk; omega
theorem bulk_append : ∀ xs ys : List ByteArray, bulk (xs ++ ys) = bulk xs + bulk ys
  | [], ys => by simp [bulk]
  | x :: xs, ys => by simp only [List.cons_append, bulk, bulk_append xs ys]; omega
theorem bulk_mem {zs : List ByteArray} {z : ByteArray} (h : z ∈ zs) : (z.size : Int) ≤ bulk zs := by
  obtain ⟨a, b, rfl⟩ := List.append_of_mem h
  have h1 := bulk_nonneg a
  have h2 := bulk_nonneg b
  rw [bulk_append]
  show _ ≤ bulk a + ((z.size : Int) + bulk b)
  omega
theorem bulk_take (zs : List ByteArray) (k : Nat) : bulk (zs.take k) ≤ bulk zs := by
  have h := bulk_append (zs.take k) (zs.drop k)
  rw [List.take_append_drop] at h
  have := bulk_nonneg (zs.drop k)
  omega
theorem bulk_succ {zs : List ByteArray} {k : Nat} {z : ByteArray} (h : zs[k]? = some z) : bulk (zs.take (k + 1)) = bulk (zs.take k) + z.size := by
  rw [List.take_add_one, bulk_append, h]
  simp [bulk]
def szLeft (left : Int) (zs : List ByteArray) : Int := if (zs.length : Int) + bulk zs ≤ left then left - ((zs.length : Int) + bulk zs) else -1

set_option maxHeartbeats 800000 in
theorem szStrings_any (v : Value) (zs : List ByteArray) (left : Int) (w : World) (h : StrsAt w v zs) (h0 : 0 ≤ left) (h1 : left ≤ 1048576) (hn : zs.length ≤ 9223372036854775807) (hz : ∀ z ∈ zs, z.size ≤ 9223372036854775807) :
    Calls Tryz.prog 9 #[v, .int .i64 left] w fun e w' => e = .returned (.int .i64 (szLeft left zs)) ∧ w = w' := by
  rcases h with ⟨rfl, rfl⟩ | ⟨a, cap, rfl, hlc, hc⟩
  · go_enter Tryz.func9, Tryz.ntmps9
    go_wp2
    refine wp_loop_rounds 1 ?_
    rw [rounds_succ]
    go_wp2
    go_ret
    exact ⟨ret_int (by simp [szLeft, bulk, h0]), rfl⟩
  · obtain ⟨n, hnn⟩ : ∃ n, zs.length = n := ⟨_, rfl⟩
    have HC := Lib.hid hc
    have HZ := Lib.hid hz
    rw [hnn] at hn hlc ⊢
    have HN := Lib.hid hnn
    clear hc hz hnn
    by_cases hfew : (n : Int) ≤ left
    · go_enter Tryz.func9, Tryz.ntmps9
      go_wp2
      go_loop [1, 5] (fun x i => ∃ k : Nat, k ≤ n ∧ i = .int .i64 k ∧ ∃ y : Int, x = .int .i64 y ∧ 0 ≤ y ∧ y ≤ 1048576 ∧ Hid (y = left - n - bulk (zs.take k))) (fun _ i => n - (intOf i).toNat)
      case atStart => exact ⟨0, Nat.zero_le _, rfl, _, rfl, by omega, by omega, (by show _ = _; simp [bulk])⟩
      case round =>
        obtain ⟨k, hk', rfl, y, rfl, hy0, hy1, HY⟩ := hrel
        by_cases hlt : k < n
        · obtain ⟨z, hz⟩ : ∃ z, zs[k]? = some z := ⟨zs[k]'(by rw [HN.out]; exact hlt), List.getElem?_eq_getElem (by rw [HN.out]; exact hlt)⟩
          have c0 := HC.out k z hz
          have hzs := HZ.out z (List.mem_of_getElem? hz)
          have hk1 : (0 : Int) ≤ (k : Int) := by omega
          have hk2 : (k : Int) < (n : Int) := by omega
          have HZK := Lib.hid hz
          clear hz
          by_cases hle : (z.size : Int) ≤ y
          · go_wp2
            go_round
            case rel =>
              refine ⟨k + 1, by omega, by go_num, _, rfl, by omega, by omega, ?_⟩
              show _ = _
              have := HY.out
              rw [bulk_succ HZK.out]
              omega
            case measure => simp [intOf]; omega
          · go_wp2
            go_ret
            refine ⟨ret_int ?_, rfl⟩
            unfold szLeft
            rw [if_neg]
            have h1 := bulk_succ HZK.out
            have h2 := bulk_take zs (k + 1)
            have h3 := HY.out
            rw [HN.out]
            omega
        · obtain rfl : k = n := by omega
          go_wp2
          go_ret
          refine ⟨ret_int ?_, rfl⟩
          have h3 := HY.out
          rw [List.take_of_length_le (by rw [HN.out]; exact Nat.le_refl _)] at h3
          unfold szLeft
          rw [HN.out, if_pos (by omega)]
          omega
    · have hs : szLeft left zs = -1 := by
        unfold szLeft
        rw [if_neg]
        have := bulk_nonneg zs
        rw [HN.out]
        omega
      have HS := Lib.hid hs
      clear hs
      go_enter Tryz.func9, Tryz.ntmps9
      go_wp2
      go_ret
      exact ⟨ret_int HS.out.symm, rfl⟩

theorem stringInfo : (Tryz.prog.info? 9).map (fun i => (i.zero, i.size, i.bytes)) = some (some (.string ByteArray.empty), 1, 16) := by kernel_rfl
def strVals (zs : List ByteArray) : List Value := zs.map .string
theorem strVals_len (zs : List ByteArray) : (strVals zs).length = zs.length := by simp [strVals]
/-- A row of strings of the call's own lies as a slice of strings. -/
theorem own_strs {w : World} {base g n cap : Nat} {zs : List ByteArray} (h : w.ownsRow base 9 1 (.slice (some ⟨g, 0, none⟩) n cap) n (strVals zs)) (hn : zs.length = n) (hcap : n ≤ cap) : StrsAt w (.slice (some ⟨g, 0, none⟩) n cap) zs := by
  refine .inr ⟨⟨g, 0, none⟩, cap, by rw [hn], by omega, fun j z hz => ?_⟩
  exact h.cells (g := g) rfl j (.string z) (by unfold strVals; rw [List.getElem?_map, hz]; rfl)

theorem same_to {zs ys : List ByteArray} {k : Nat} {z y : ByteArray} (h : zs.take k = ys.take k) (hz : zs[k]? = some z) (hy : ys[k]? = some y) (e : z = y) : zs.take (k + 1) = ys.take (k + 1) := by
  rw [List.take_add_one, List.take_add_one, h, hz, hy, e]
theorem eq_bytes (x y : ByteArray) : (x.toList == y.toList) = decide (x = y) := by
  rw [Lib.toList_data, Lib.toList_data, Bool.eq_iff_iff, beq_iff_eq, decide_eq_true_iff]
  constructor
  · intro h
    rw [← Tw.str_of x, ← Tw.str_of y, h]
  · intro h
    rw [h]

set_option maxHeartbeats 1600000 in
theorem eqStrings_any (v u : Value) (zs ys : List ByteArray) (w : World) (h : StrsAt w v zs) (k : StrsAt w u ys) (hn : zs.length ≤ 9223372036854775807) (hm : ys.length ≤ 9223372036854775807) :
    Calls Tryz.prog 15 #[v, u] w fun e w' => e = .returned (.bool (decide (zs = ys))) ∧ Below w.heap.size w w' := by
  by_cases hlen : zs.length = ys.length
  · by_cases hz0 : zs.length = 0
    · have hy0 : ys.length = 0 := by omega
      have e : decide (zs = ys) = true := by rw [List.length_eq_zero_iff.1 hz0, List.length_eq_zero_iff.1 hy0]; rfl
      have HE := Lib.hid e
      rcases h with ⟨rfl, rfl⟩ | ⟨a, cap, rfl, _, _⟩ <;> rcases k with ⟨rfl, rfl⟩ | ⟨b, cap', rfl, _, _⟩
      all_goals
        try rw [hz0]
        try rw [hy0]
        clear hn hm hlen hz0 hy0 e
        go_enter Tryz.func15, Tryz.ntmps15
        go_wp2
        refine wp_loop_rounds 1 ?_
        rw [rounds_succ]
        go_wp2
        go_ret
        exact ⟨ret_bool HE.out.symm, Below.refl _ _⟩
    · rcases h with ⟨rfl, rfl⟩ | ⟨a, cap, rfl, hl1, hc1⟩
      · exact absurd rfl hz0
      · rcases k with ⟨rfl, rfl⟩ | ⟨b, cap', rfl, hl2, hc2⟩
        · exact absurd hlen hz0
        · obtain ⟨n, hnn⟩ : ∃ n, zs.length = n := ⟨_, rfl⟩
          have hyn : ys.length = n := by omega
          rw [hnn] at hn hl1 ⊢
          rw [hyn] at hl2 ⊢
          have HC1 := Lib.hid hc1
          have HC2 := Lib.hid hc2
          have HN := Lib.hid hnn
          have HM := Lib.hid hyn
          clear hc1 hc2 hnn hyn hlen hz0 hm
          go_enter Tryz.func15, Tryz.ntmps15
          go_wp2
          go_loopw [5] (fun i wr => ∃ k : Nat, k ≤ n ∧ i = .int .i64 k ∧ Below w.heap.size w wr ∧ Hid (zs.take k = ys.take k)) (fun i _ => n - (intOf i).toNat)
          case atStart => exact ⟨0, Nat.zero_le _, rfl, Below.refl _ _, rfl⟩
          case round =>
            obtain ⟨k, hk, rfl, hb, HS⟩ := hrel
            by_cases hlt : k < n
            · obtain ⟨z, hz⟩ : ∃ z, zs[k]? = some z := ⟨zs[k]'(by rw [HN.out]; exact hlt), List.getElem?_eq_getElem (by rw [HN.out]; exact hlt)⟩
              obtain ⟨y, hy⟩ : ∃ y, ys[k]? = some y := ⟨ys[k]'(by rw [HM.out]; exact hlt), List.getElem?_eq_getElem (by rw [HM.out]; exact hlt)⟩
              have c1 : wr.cell? (a.add k) = some (.string z) := cell_keep hb (HC1.out k z hz)
              have c2 : wr.cell? (b.add k) = some (.string y) := cell_keep hb (HC2.out k y hy)
              have hk3 : (0 : Int) ≤ (k : Int) := by omega
              have hk4 : (k : Int) < (n : Int) := by omega
              have HZ := Lib.hid hz
              have HY := Lib.hid hy
              clear hz hy
              cases hzy : decide (z = y)
              · have he := (eq_bytes z y).trans hzy
                have HZY := Lib.hid hzy
                clear hzy
                go_wp2_with fail
                go_quiet (fail)
                go_wp2
                go_ret
                refine ⟨ret_bool ?_, below_drewN hb _⟩
                have hne : z ≠ y := of_decide_eq_false HZY.out
                symm
                rw [decide_eq_false_iff_not]
                intro h
                have h1 := HZ.out
                rw [h, HY.out] at h1
                exact hne (Option.some.inj h1).symm
              · have he := (eq_bytes z y).trans hzy
                have HZY := Lib.hid (of_decide_eq_true hzy)
                clear hzy
                go_wp2_with fail
                go_quiet (fail)
                go_wp2
                go_roundw
                case rel => exact ⟨k + 1, by omega, by go_num, below_drewN hb _, same_to HS.out HZ.out HY.out HZY.out⟩
                case measure => simp [intOf]; omega
            · obtain rfl : k = n := by omega
              go_wp2_with fail
              go_ret
              refine ⟨ret_bool ?_, hb⟩
              have h := HS.out
              rw [List.take_of_length_le (by rw [HN.out]; exact Nat.le_refl _), List.take_of_length_le (by rw [HM.out]; exact Nat.le_refl _)] at h
              rw [decide_eq_true h]
  · have e : decide (zs = ys) = false := by
      rw [decide_eq_false_iff_not]
      intro h
      exact hlen (by rw [h])
    have HE := Lib.hid e
    rcases h with ⟨rfl, rfl⟩ | ⟨a, cap, rfl, _, _⟩ <;> rcases k with ⟨rfl, rfl⟩ | ⟨b, cap', rfl, _, _⟩
    · exact absurd rfl hlen
    · obtain ⟨n, hnn⟩ : ∃ n : Nat, n = ys.length := ⟨_, rfl⟩
      rw [← hnn] at hlen ⊢
      have hn0 : ¬ (0 : Int) = (n : Int) := by
        rw [List.length_nil] at hlen
        omega
      clear hn hm e hnn hlen
      go_enter Tryz.func15, Tryz.ntmps15
      go_wp2
      go_ret
      exact ⟨ret_bool HE.out.symm, Below.refl _ _⟩
    · obtain ⟨n, hnn⟩ : ∃ n : Nat, n = zs.length := ⟨_, rfl⟩
      rw [← hnn] at hlen ⊢
      have hn0 : ¬ (n : Int) = 0 := by
        rw [List.length_nil] at hlen
        omega
      clear hn hm e hnn hlen
      go_enter Tryz.func15, Tryz.ntmps15
      go_wp2
      go_ret
      exact ⟨ret_bool HE.out.symm, Below.refl _ _⟩
    · obtain ⟨n, hnn⟩ : ∃ n : Nat, n = ys.length := ⟨_, rfl⟩
      obtain ⟨m, hmm⟩ : ∃ m : Nat, m = zs.length := ⟨_, rfl⟩
      rw [← hnn, ← hmm] at hlen
      rw [← hnn, ← hmm]
      have hn0 : ¬ (m : Int) = (n : Int) := by omega
      clear hn hm e hnn hmm hlen
      go_enter Tryz.func15, Tryz.ntmps15
      go_wp2
      go_ret
      exact ⟨ret_bool HE.out.symm, Below.refl _ _⟩

set_option maxHeartbeats 1600000 in
theorem toStrings_any (v : Value) (zs : List ByteArray) (w : World) (h : StrsAt w v zs) (hn : zs.length ≤ 1048576) :
    Calls Tryz.prog 12 #[v] w fun e w' => e = .returned (.slice (some ⟨w.heap.size, 0, none⟩) zs.length zs.length) ∧ w'.ownsRow w.heap.size 9 1 (.slice (some ⟨w.heap.size, 0, none⟩) zs.length zs.length) zs.length (strVals zs) ∧ Below w.heap.size w w' := by
  obtain ⟨i0, hi0, hz0, hz1, hz2⟩ := info_parts stringInfo
  rcases h with ⟨rfl, rfl⟩ | ⟨a, cap, rfl, hl, hc⟩
  · go_enter Tryz.func12, Tryz.ntmps12
    go_wp2_with (first
      | (at_make; refine wpList_make_full _ rfl _ _ 22 rfl w.heap.size 9 i0 _ 1 Tryz.underlying22 hi0 hz0 hz1 .i64 .i64 _ _ 0 rfl rfl rfl rfl (by rw [hz2]; omega) (by unfold maxLen; omega) (Nat.le_refl _) ?_; intro w1 hown1 hg1))
    refine wp_loop_rounds 1 ?_
    rw [rounds_succ]
    go_wp2
    go_ret
    have e0 := List.length_eq_zero_iff.1 (show _ = 0 from hown1.1)
    rw [e0] at hown1
    exact ⟨rfl, hown1, (Below.refl _ _).grown hg1 (Nat.le_refl _) (fun k hk => by cases hk)⟩
  · obtain ⟨n, hnn⟩ : ∃ n, zs.length = n := ⟨_, rfl⟩
    rw [hnn] at hn hl ⊢
    have HC := Lib.hid hc
    have HN := Lib.hid hnn
    clear hc hnn
    go_enter Tryz.func12, Tryz.ntmps12
    go_wp2_with (first
      | (at_make; refine wpList_make_full _ rfl _ _ 22 rfl w.heap.size 9 i0 _ 1 Tryz.underlying22 hi0 hz0 hz1 .i64 .i64 _ _ n rfl rfl rfl rfl (by rw [hz2]; omega) (by unfold maxLen; omega) (Nat.le_refl _) ?_; intro w1 hown1 hg1))
    have hb1 : Below w.heap.size w w1 := (Below.refl _ _).grown hg1 (Nat.le_refl _) (fun k hk => by cases hk)
    obtain ⟨xs, hxs⟩ : ∃ xs, (madeCells (Value.string ByteArray.empty).cells (n * 1)).toList = xs := ⟨_, rfl⟩
    rw [hxs] at hown1
    clear hg1 hxs
    go_loopw [4] (fun i wr => ∃ k : Nat, k ≤ n ∧ i = .int .i64 k ∧ Below w.heap.size w wr ∧ ∃ xs, wr.ownsRow w.heap.size 9 1 (.slice (some ⟨w.heap.size, 0, none⟩) n n) n xs ∧ Hid (∀ (j : Nat) z, j < k → zs[j]? = some z → xs[j]? = some (.string z))) (fun i _ => n - (intOf i).toNat)
    case atStart => exact ⟨0, Nat.zero_le _, rfl, hb1, xs, hown1, fun j z hj => by omega⟩
    case round =>
      obtain ⟨k, hk, rfl, hb, xs, hown, HX⟩ := hrel
      by_cases hlt : k < n
      · obtain ⟨z, hz⟩ : ∃ z, zs[k]? = some z := ⟨zs[k]'(by rw [HN.out]; exact hlt), List.getElem?_eq_getElem (by rw [HN.out]; exact hlt)⟩
        have c1 : wr.cell? (a.add k) = some (.string z) := cell_keep hb (HC.out k z hz)
        have hxl : xs.length = n * 1 := hown.1
        have c2 : wr.cell? ⟨w.heap.size, k, none⟩ = some (xs[k]'(by omega)) := (hown.cellAt k (by omega)).trans (List.getElem?_eq_getElem _)
        have f2 := hown.frozenAt k
        have hk3 : (0 : Int) ≤ (k : Int) := by omega
        have hk4 : (k : Int) < (n : Int) := by omega
        have hst := (hown.stored k (.string z)).1
        have HZ := Lib.hid hz
        clear hz
        go_wp2_with fail
        go_roundw
        case rel =>
          refine ⟨k + 1, by omega, by go_num, hb.setCell (by simp) _, _, hst, ?_⟩
          intro j y hj hy
          rw [List.getElem?_set]
          rcases Nat.lt_or_ge j k with h1 | h1
          · rw [if_neg (by omega)]
            exact HX.out j y h1 hy
          · obtain rfl : j = k := by omega
            rw [if_pos rfl, if_pos (by omega)]
            rw [HZ.out] at hy
            rw [Option.some.inj hy]
        case measure => simp [intOf]; omega
      · obtain rfl : k = n := by omega
        go_wp2_with fail
        go_ret
        have e : xs = strVals zs := by
          have hxl : xs.length = k * 1 := hown.1
          apply List.ext_getElem?
          intro j
          unfold strVals
          rw [List.getElem?_map]
          rcases Nat.lt_or_ge j k with h1 | h1
          · have hz : zs[j]? = some (zs[j]'(by rw [HN.out]; exact h1)) := List.getElem?_eq_getElem _
            rw [HX.out j _ h1 hz, hz]
            rfl
          · rw [List.getElem?_eq_none (by omega), List.getElem?_eq_none (by rw [HN.out]; exact h1)]
            rfl
        rw [e] at hown
        exact ⟨rfl, hown, hb⟩

end Go.Proofs.YtccdfndnjjjgfaaGreatDoor
