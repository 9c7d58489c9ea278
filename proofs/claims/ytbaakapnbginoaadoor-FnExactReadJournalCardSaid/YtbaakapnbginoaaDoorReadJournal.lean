/-
  Contracts of ReadJournal (both): the deeds of the lines with which a text begins, and how many bytes these lines have. Condition: a text of at most 2^20 bytes.
-/
import Derived.Test.YtbaakapnbginoaaDoorReadSpec
import Derived.Test.YtbaakapnbginoaaDoorDeedMarks
import Derived.Deep.AppendLies
namespace Go.Proofs.YtbaakapnbginoaaDoor
open Go.RowKit

/-- The deeds of the lines with which a text begins, and how many bytes these have. -/
noncomputable def rj : Nat → List UInt8 → List (Int × Int) × Nat
  | 0, _ => ([], 0)
  | f + 1, l => if (10 : UInt8) ∈ l then (if (readOf (l.takeWhile (· != 10))).2 = true then
      ((readOf (l.takeWhile (· != 10))).1 :: (rj f (l.drop ((l.takeWhile (· != 10)).length + 1))).1, (l.takeWhile (· != 10)).length + 1 + (rj f (l.drop ((l.takeWhile (· != 10)).length + 1))).2) else ([], 0)) else ([], 0)
theorem while_line : ∀ {a b : List UInt8}, (10 : UInt8) ∉ a → (a ++ 10 :: b).takeWhile (· != 10) = a
  | [], b, _ => by simp
  | x :: a, b, h => by
    have hx : x ≠ 10 := fun e => h (by rw [e]; exact List.mem_cons_self)
    have hb : (x != 10) = true := bne_iff_ne.2 hx
    rw [List.cons_append, List.takeWhile_cons, hb, if_pos rfl, while_line (fun e => h (List.mem_cons_of_mem _ e))]
theorem rj_none {f : Nat} {l : List UInt8} (h : (10 : UInt8) ∉ l) : rj f l = ([], 0) := by
  cases f with
  | zero => rfl
  | succ f => unfold rj; rw [if_neg h]
theorem rj_bad {f : Nat} {a b : List UInt8} (h : (10 : UInt8) ∉ a) (hr : (readOf a).2 = false) : rj f (a ++ 10 :: b) = ([], 0) := by
  cases f with
  | zero => rfl
  | succ f =>
    unfold rj
    rw [while_line h, hr, if_pos (by simp), if_neg (by simp)]
theorem rj_line {f : Nat} {a b : List UInt8} (h : (10 : UInt8) ∉ a) (hr : (readOf a).2 = true) : rj (f + 1) (a ++ 10 :: b) = ((readOf a).1 :: (rj f b).1, a.length + 1 + (rj f b).2) := by
  have hd : (a ++ 10 :: b).drop (a.length + 1) = b := by
    rw [show a ++ 10 :: b = (a ++ [10]) ++ b by simp, List.drop_left' (by simp)]
  conv => lhs; unfold rj
  rw [while_line h, hr, if_pos (by simp), if_pos rfl, hd]
noncomputable def journalOf (l : List UInt8) : List (Int × Int) × Nat := rj (l.length + 1) l
/-- Read up to a place. -/
def ReadTo (l : List UInt8) (ds : List (Int × Int)) (n : Nat) : Prop := ∃ f, l.length - n < f ∧ journalOf l = (ds ++ (rj f (l.drop n)).1, n + (rj f (l.drop n)).2)
theorem readTo_zero (l : List UInt8) : ReadTo l [] 0 := ⟨l.length + 1, by omega, by unfold journalOf; simp⟩
theorem readTo_line {l a b : List UInt8} {ds : List (Int × Int)} {n : Nat} (h : ReadTo l ds n) (hn : n ≤ l.length) (hl : l.drop n = a ++ 10 :: b) (ha : (10 : UInt8) ∉ a) (hr : (readOf a).2 = true) : ReadTo l (ds ++ [(readOf a).1]) (n + (a.length + 1)) := by
  obtain ⟨f, hf, e⟩ := h
  obtain ⟨g, rfl⟩ : ∃ g, f = g + 1 := ⟨f - 1, by omega⟩
  rw [hl, rj_line ha hr] at e
  have hb : l.drop (n + (a.length + 1)) = b := by
    rw [← List.drop_drop, hl, show a ++ 10 :: b = (a ++ [10]) ++ b by simp, List.drop_left' (by simp)]
  have hlen := congrArg List.length hl
  rw [List.length_drop, List.length_append, List.length_cons] at hlen
  refine ⟨g, by omega, ?_⟩
  rw [hb, e]
  simp
  omega
theorem readTo_bad {l a b : List UInt8} {ds : List (Int × Int)} {n : Nat} (h : ReadTo l ds n) (hl : l.drop n = a ++ 10 :: b) (ha : (10 : UInt8) ∉ a) (hr : (readOf a).2 = false) : journalOf l = (ds, n) := by
  obtain ⟨f, _, e⟩ := h
  rw [hl, rj_bad ha hr] at e
  simpa using e
theorem readTo_end {l : List UInt8} {ds : List (Int × Int)} {n : Nat} (h : ReadTo l ds n) (hl : (10 : UInt8) ∉ l.drop n) : journalOf l = (ds, n) := by
  obtain ⟨f, _, e⟩ := h
  rw [rj_none hl] at e
  simpa using e
def RjOut (w : World) (r : List (Int × Int) × Nat) (e : Ending) (w' : World) : Prop := ∃ v, e = .returned (.tuple #[v, .int .i64 (r.2 : Int)]) ∧ RowAt w' v r.1 ∧ Fresh w.heap.size v ∧ Below w.heap.size w w'
theorem rj_done {w W : World} {v : Value} {ds : List (Int × Int)} {n m : Nat} {r : List (Int × Int) × Nat} (hr : r = (ds, n)) (hown : W.ownsRow w.heap.size 23 2 v m (pairCells ds)) (hm : ds.length = m) (hb : Below w.heap.size w W) : RjOut w r (.returned (.tuple #[v, .int .i64 (n : Int)])) W := by
  subst hr
  exact ⟨_, rfl, row_own hown hm, fresh_own hown (Nat.le_refl _), hb⟩

theorem own_none2 (W : World) (t : TypeId) (base : Nat) (hb : base ≤ W.heap.size) : (W.alloc (.cells #[] t)).ownsRow base t 2 (.slice (some ⟨W.heap.size, 0, none⟩) 0 0) 0 [] :=
  ⟨rfl, .inr ⟨W.heap.size, 0, #[], rfl, hb, heap_alloc_new W _, Nat.le_refl _, by decide, rfl, rfl⟩⟩
set_option maxRecDepth 100000 in
set_option maxHeartbeats 1600000 in
theorem specReadJournal (s : ByteArray) (w : World) (hs : s.size ≤ 1048576) :
    Calls Tryd.prog 17 #[.string s] w (RjOut w (journalOf s.data.toList)) := by
  obtain ⟨i0, hi0, hz0, hz1, hz2⟩ := info_parts deedInfo
  have HO := Lib.hid (own_none2 w 23 w.heap.size (Nat.le_refl _))
  go_enter Tryd.func17, Tryd.ntmps17
  go_wp2
  go_loopw [4, 5, 6] (fun o f i wr => ∃ (from_ k : Nat) (ds : List (Int × Int)), f = .int .i64 from_ ∧ i = .int .i64 k ∧ k ≤ s.size ∧ from_ ≤ k ∧ ds.length ≤ k ∧ wr.ownsRow w.heap.size 23 2 o ds.length (pairCells ds) ∧ Hid (ReadTo s.data.toList ds from_) ∧ Hid ((10 : UInt8) ∉ (s.data.toList.take k).drop from_) ∧ Below w.heap.size w wr) (fun _ _ i _ => s.size - (intOf i).toNat)
  case atStart => exact ⟨0, 0, [], rfl, rfl, Nat.zero_le _, Nat.le_refl _, Nat.le_refl _, HO.out, readTo_zero _, (by show _ ∉ _; simp), (Below.refl _ _).alloc (Nat.le_refl _) _⟩
  case round =>
    obtain ⟨from_, k, ds, rfl, rfl, hk, hf, hn, hown, HR, HC, hb⟩ := hrel
    by_cases hlt : k < s.size
    · have hl : k < s.data.toList.length := by rw [size_data]; exact hlt
      cases hc : ((s[k].toNat : Int) == 10)
      · have HNE : Hid (s.data.toList[k] ≠ 10) := fun e => by
          have e2 : s[k] = 10 := e
          rw [e2] at hc
          exact absurd hc (by decide)
        have hne2 : ¬ (s[k].toNat : Int) = 10 := by simpa using hc
        go_wp2_with fail
        go_roundw
        case rel =>
          refine ⟨from_, k + 1, ds, rfl, by go_num, by omega, by omega, by omega, hown, HR.out, ?_, hb⟩
          show _ ∉ _
          rw [drop_snoc hl hf]
          intro hm
          rcases List.mem_append.1 hm with h9 | h9
          · exact HC.out h9
          · exact HNE.out (List.mem_singleton.1 h9).symm
        case measure => simp [intOf]; omega
      · have HEQ : Hid (s.data.toList[k] = 10) := by
          have := beq_iff_eq.1 hc
          have e2 : s[k].toNat = 10 := by omega
          show s[k] = 10
          rw [← UInt8.ofNat_toNat (x := s[k]), e2]
          rfl
        obtain ⟨p, hp⟩ : ∃ p, s.extract from_ k = p := ⟨_, rfl⟩
        have hpl : p.data.toList = (s.data.toList.take k).drop from_ := by rw [← hp, piece_at]; rfl
        have hpsz : p.size ≤ 1048576 := by rw [← size_data, hpl, List.length_drop, List.length_take, size_data]; omega
        have HPL : Hid (p.data.toList.length = k - from_) := by show _ = _; rw [hpl, List.length_drop, List.length_take, size_data]; omega
        have HLN : Hid (s.data.toList.drop from_ = p.data.toList ++ 10 :: s.data.toList.drop (k + 1)) := by
          show _ = _
          have e1 : s.data.toList.drop from_ = (s.data.toList.take k).drop from_ ++ s.data.toList.drop k := by
            conv => lhs; rw [← List.take_append_drop k s.data.toList]
            rw [List.drop_append_of_le_length (by rw [List.length_take, size_data]; omega)]
          rw [e1, hpl, List.drop_eq_getElem_cons hl, HEQ.out]
        have HCP : Hid ((10 : UInt8) ∉ p.data.toList) := by show _ ∉ _; rw [hpl]; exact HC.out
        obtain ⟨k1, h1⟩ : ∃ k1, (readOf p.data.toList).1.1 = k1 := ⟨_, rfl⟩
        obtain ⟨n1, h2⟩ : ∃ n1, (readOf p.data.toList).1.2 = n1 := ⟨_, rfl⟩
        obtain ⟨b1, h3⟩ : ∃ b1, (readOf p.data.toList).2 = b1 := ⟨_, rfl⟩
        have hrd := fun W => specReadDeed p W hpsz
        unfold ReadOut at hrd
        rw [h1, h2, h3] at hrd
        have HRD := Lib.hid hrd
        have H3 := Lib.hid h3
        have H12 : Hid ((readOf p.data.toList).1 = (k1, n1)) := Prod.ext h1 h2
        have HP := Lib.hid hp
        clear hrd h1 h2 h3 hpl hp
        have hpe : s.extract from_ k = p := HP.out
        cases b1
        · go_wp2_with (first
            | (go_at_call 14; refine (HRD.out _).mono ?_; rintro e w1 ⟨rfl, hb1⟩))
          go_ret2
          exact rj_done (readTo_bad HR.out HLN.out HCP.out H3.out) ((own_below hown hb1).alloc _) rfl ((hb.trans (hb1.mono hb.size)).alloc (by have := hb.size; have := hb1.size; omega) _)
        · go_wp2_with (first
            | (go_at_call 14; refine (HRD.out _).mono ?_; rintro e w1 ⟨rfl, hb1⟩; have hown1 := (own_below hown hb1).alloc (.cells #[.int .i64 k1, .int .i64 n1] 23); have hb2 := (hb.trans (hb1.mono hb.size)).alloc (by have := hb.size; have := hb1.size; omega) (.cells #[.int .i64 k1, .int .i64 n1] 23))
            | (at_builtin; refine wpList_append_lies _ rfl _ _ 28 rfl w.heap.size 23 i0 _ 2 16 Tryd.underlying28 hi0 hz0 hz1 hz2 rfl (by omega) _ ds.length (pairCells ds) rfl (hown1.alloc _) ⟨w1.heap.size + 1, 0, none⟩ 1 1 [.int .i64 k1, .int .i64 n1] rfl rfl (World.news_of_block (cs := #[.int .i64 k1, .int .i64 n1]) (t := 23) (fr := (0, 0)) (heap_alloc2_new w1 _ _)) (by simp [Value.oneCell']) (by omega) (by unfold maxLen; omega) (by omega) (by have := hb2.size; simp at this ⊢; omega) (w1.heap.size + 1 + 1) (by simp) ?_; intro g4 cap4 w4 hown4 hgrow4 hat4 hlt4))
          go_roundw
          case rel =>
            refine ⟨k + 1, k + 1, ds ++ [(k1, n1)], by go_num, by go_num, by omega, Nat.le_refl _, by rw [List.length_append, List.length_singleton]; omega, ?_, ?_, ?_, ?_⟩
            · rw [List.length_append, pairCells_append]
              exact hown4
            · have h9 := readTo_line HR.out (by rw [size_data]; omega) HLN.out HCP.out H3.out
              rw [H12.out, HPL.out, show from_ + (k - from_ + 1) = k + 1 by omega] at h9
              exact h9
            · show _ ∉ _
              rw [List.drop_of_length_le (by rw [List.length_take]; exact Nat.min_le_left _ _)]
              simp
            · exact (hb2.alloc (by have := hb2.size; omega) _).grown hgrow4 (by have := hb2.size; simp at this ⊢; omega) (fun j hj => (hown.lt j hj).1)
          case measure => simp [intOf]; omega
    · obtain rfl : k = s.size := by omega
      go_wp2_with fail
      go_ret2
      have hc := HC.out
      rw [List.take_of_length_le (by rw [size_data]; exact Nat.le_refl _)] at hc
      exact rj_done (readTo_end HR.out hc) hown rfl hb

set_option maxRecDepth 100000 in
set_option maxHeartbeats 1600000 in
theorem implReadJournal (s : ByteArray) (w : World) (hw : WordsAt w) (hm : MaxAt w) (hs : s.size ≤ 1048576) :
    Calls Tryd.prog 18 #[.string s] w (RjOut w (journalOf s.data.toList)) := by
  obtain ⟨i0, hi0, hz0, hz1, hz2⟩ := info_parts deedInfo
  have HO : Hid (w.ownsRow w.heap.size 23 2 (.slice none 0 0) 0 (pairCells [])) := ⟨rfl, .inl ⟨rfl, rfl⟩⟩
  go_enter Tryd.func18, Tryd.ntmps18
  go_wp2
  go_loopw [4, 5] (fun o r wr => ∃ (rd : Nat) (ds : List (Int × Int)), r = .int .i64 rd ∧ rd ≤ s.size ∧ ds.length ≤ rd ∧ wr.ownsRow w.heap.size 23 2 o ds.length (pairCells ds) ∧ Hid (ReadTo s.data.toList ds rd) ∧ Below w.heap.size w wr) (fun _ r _ => s.size - (intOf r).toNat)
  case atStart => exact ⟨0, [], rfl, Nat.zero_le _, Nat.le_refl _, HO.out, readTo_zero _, Below.refl _ _⟩
  case round =>
    obtain ⟨rd, ds, rfl, hk, hn, hown, HR, hb⟩ := hrel
    obtain ⟨p, hp⟩ : ∃ p, s.extract rd s.size = p := ⟨_, rfl⟩
    have hpl : p.data.toList = s.data.toList.drop rd := by rw [← hp, Lib.extract_to_end]
    have hpsz : p.size ≤ s.size := by rw [← size_data, hpl, List.length_drop, size_data]; omega
    have HPL := Lib.hid hpl
    have hrd0 : (0 : Int) ≤ (rd : Int) := by omega
    have HMR := Lib.hid (hm.below' (show Below w.heap.size w wr from hb))
    have HWR := Lib.hid (hw.below' (show Below w.heap.size w wr from hb))
    clear hpl
    go_upto_region 4 with (first
      | (go_at_call 62; refine (strCut_any p 10 _ HMR.out (by omega)).mono ?_; rintro e w1 ⟨a, b, f, rfl, hcut, hb1⟩; have HCU := Lib.hid hcut; have e1 : Ext wr w1 := hb1; clear hcut hb1))
    have hown1 := own_below hown e1
    have hbw1 := e1.below hb hb.size
    cases f
    · have HN : Hid ((10 : UInt8) ∉ s.data.toList.drop rd) := by
        show _ ∉ _
        rcases HCU.out with ⟨h9, _⟩ | ⟨_, _, h9, _⟩
        · cases h9
        · rw [← HPL.out]
          exact h9
      go_wp2_with fail
      go_ret2
      exact rj_done (readTo_end HR.out HN.out) hown1 rfl hbw1
    · obtain ⟨HLN, HA⟩ : Hid (s.data.toList.drop rd = a ++ 10 :: b) ∧ Hid ((10 : UInt8) ∉ a) := by
        rcases HCU.out with ⟨_, h8, h9⟩ | ⟨h9, _⟩
        · exact ⟨HPL.out ▸ h8, h9⟩
        · cases h9
      obtain ⟨x, hx⟩ : ∃ x, Tw.str a = x := ⟨_, rfl⟩
      have hxa : x.data.toList = a := by rw [← hx]; rfl
      have hxs : x.size + 1 + rd ≤ s.size := by
        have h9 := congrArg List.length HLN.out
        rw [List.length_drop, size_data, List.length_append, List.length_cons, ← hxa, size_data] at h9
        omega
      obtain ⟨k1, h1⟩ : ∃ k1, (readOf a).1.1 = k1 := ⟨_, rfl⟩
      obtain ⟨n1, h2⟩ : ∃ n1, (readOf a).1.2 = n1 := ⟨_, rfl⟩
      obtain ⟨b1, h3⟩ : ∃ b1, (readOf a).2 = b1 := ⟨_, rfl⟩
      have hrd := fun W hw hm => implReadDeed x W hw hm (by omega)
      unfold ReadOut at hrd
      rw [hxa, h1, h2, h3] at hrd
      have HRD := Lib.hid hrd
      have H3 := Lib.hid h3
      have H12 : Hid ((readOf a).1 = (k1, n1)) := Prod.ext h1 h2
      have HXL : Hid (a.length = x.size) := by show _ = _; rw [← hxa, size_data]
      clear hrd h1 h2 h3 hxa
      rw [hx]
      clear hx
      cases b1
      · go_wp2_with (first
          | (go_at_call 15; refine (HRD.out _ (HWR.out.below' e1) (HMR.out.below' e1)).mono ?_; rintro e w2 ⟨rfl, hb2⟩))
        go_ret2
        exact rj_done (readTo_bad HR.out HLN.out HA.out H3.out) ((own_below hown1 hb2).alloc _) rfl ((hbw1.trans (hb2.mono hbw1.size)).alloc (by have := hbw1.size; have := hb2.size; omega) _)
      · go_wp2_with (first
          | (go_at_call 15; refine (HRD.out _ (HWR.out.below' e1) (HMR.out.below' e1)).mono ?_; rintro e w2 ⟨rfl, hb2⟩; have hown2 := (own_below hown1 hb2).alloc (.cells #[.int .i64 k1, .int .i64 n1] 23); have hbw2 := (hbw1.trans (hb2.mono hbw1.size)).alloc (by have := hbw1.size; have := hb2.size; omega) (.cells #[.int .i64 k1, .int .i64 n1] 23))
          | (at_builtin; refine wpList_append_lies _ rfl _ _ 28 rfl w.heap.size 23 i0 _ 2 16 Tryd.underlying28 hi0 hz0 hz1 hz2 rfl (by omega) _ ds.length (pairCells ds) rfl (hown2.alloc _) ⟨w2.heap.size + 1, 0, none⟩ 1 1 [.int .i64 k1, .int .i64 n1] rfl rfl (World.news_of_block (cs := #[.int .i64 k1, .int .i64 n1]) (t := 23) (fr := (0, 0)) (heap_alloc2_new w2 _ _)) (by simp [Value.oneCell']) (by omega) (by unfold maxLen; omega) (by omega) (by have := hbw2.size; simp at this ⊢; omega) (w2.heap.size + 1 + 1) (by simp) ?_; intro g4 cap4 w4 hown4 hgrow4 hat4 hlt4))
        go_roundw
        case rel =>
          refine ⟨rd + (x.size + 1), ds ++ [(k1, n1)], by go_num, by omega, by rw [List.length_append, List.length_singleton]; omega, ?_, ?_, ?_⟩
          · rw [List.length_append, pairCells_append]
            exact hown4
          · have h9 := readTo_line HR.out (by rw [size_data]; omega) HLN.out HA.out H3.out
            rw [H12.out, HXL.out] at h9
            exact h9
          · exact (hbw2.alloc (by have := hbw2.size; omega) _).grown hgrow4 (by have := hbw2.size; simp at this ⊢; omega) (fun j hj => (hown.lt j hj).1)
        case measure => simp [intOf]; omega

end Go.Proofs.YtbaakapnbginoaaDoor
