/-
  Contracts of ReadDeed (both): the deed whose text a text is, and whether there is one. Condition: a text of at most 2^20 bytes.
-/
import Derived.Test.YtbaakapnbginoaaDoorCut
import Derived.Test.YtbaakapnbginoaaDoorReadNum
import Derived.Test.YtbaakapnbginoaaDoorDeedImpl
import Derived.Test.YtbaakapnbginoaaDoorDeedSpec
import Derived.Test.YtbaakapnbginoaaDoorDeeds
import Derived.Lib.IndexLaws
import Derived.Lib.IndexBytes
import Derived.Laws.AppendOwnNone
namespace Go.Proofs.YtbaakapnbginoaaDoor
open Go.RowKit

/-- A text cut at a byte, once. -/
def Cutting (c : UInt8) (s a b : List UInt8) (f : Bool) : Prop := (f = true ∧ s = a ++ c :: b ∧ c ∉ a) ∨ (f = false ∧ a = s ∧ c ∉ s ∧ b = [])
theorem cutting (c : UInt8) (s : List UInt8) : Cutting c s (Lib.cut s [c]).1 (Lib.cut s [c]).2.1 (Lib.cut s [c]).2.2 := by
  unfold Lib.cut
  rw [Lib.index_one]
  split
  · rename_i h
    obtain ⟨o, ho⟩ : ∃ o : Nat, Lib.indexByte s c = o := ⟨(Lib.indexByte s c).toNat, by omega⟩
    obtain ⟨h1, h2⟩ := Lib.indexByte_some ho
    have hlt := (List.getElem?_eq_some_iff.1 h1).1
    refine .inl ⟨rfl, ?_, ?_⟩
    · rw [ho]
      show s = s.take o ++ c :: s.drop (o + 1)
      have e : s[o] = c := (List.getElem?_eq_some_iff.1 h1).2
      rw [← e, ← List.drop_eq_getElem_cons hlt, List.take_append_drop]
    · rw [ho]
      intro hm
      obtain ⟨k, hk, e⟩ := List.getElem_of_mem hm
      have hk2 : k < o := by rw [List.length_take] at hk; simp at hk; omega
      refine h2 k hk2 ?_
      rw [List.getElem?_eq_getElem (by omega)]
      rw [List.getElem_take] at e
      rw [e]
  · rename_i h
    have hge := Lib.index_ge s [c]
    rw [Lib.index_one] at hge
    refine .inr ⟨rfl, rfl, fun hm => ?_, rfl⟩
    obtain ⟨k, hk, e⟩ := List.getElem_of_mem hm
    exact Lib.indexByte_none (l := s) (c := c) (by omega) k (by rw [List.getElem?_eq_getElem hk, e])
theorem cut_same {c : UInt8} : ∀ {a b a' b' : List UInt8}, a ++ c :: b = a' ++ c :: b' → c ∉ a → c ∉ a' → a = a' ∧ b = b'
  | [], _, [], _, h, _, _ => by simpa using h
  | [], _, x :: a', _, h, _, h2 => by
    simp at h
    exact absurd (by rw [h.1]; exact List.mem_cons_self) h2
  | x :: a, _, [], _, h, h1, _ => by
    simp at h
    exact absurd (by rw [h.1]; exact List.mem_cons_self) h1
  | x :: a, b, y :: a', b', h, h1, h2 => by
    simp only [List.cons_append, List.cons.injEq] at h
    have := cut_same h.2 (fun e => h1 (List.mem_cons_of_mem _ e)) (fun e => h2 (List.mem_cons_of_mem _ e))
    exact ⟨by rw [h.1, this.1], this.2⟩
theorem word_clean {k : Nat} (hk : k < 6) : (32 : UInt8) ∉ deedWord k ∧ deedWord k ≠ [] := by
  obtain rfl | rfl | rfl | rfl | rfl | rfl : k = 0 ∨ k = 1 ∨ k = 2 ∨ k = 3 ∨ k = 4 ∨ k = 5 := by omega
  all_goals decide
theorem told_kind {k n : Int} (h : told k n) : 0 ≤ k ∧ k < 6 := by unfold told at h; omega
def numbered (k : Nat) : Bool := k == 0 || k == 2 || k == 3
theorem numbered_iff {k : Int} (h0 : 0 ≤ k) : numbered k.toNat = true ↔ (k = 0 ∨ k = 2 ∨ k = 3) := by
  unfold numbered
  simp
  omega
/-- Of a text that is a deed's text: how it is cut. -/
theorem text_cut {s a b : List UInt8} {f : Bool} (h : Cutting 32 s a b f) {k n : Int} (h0 : s ≠ []) (ht : deedText k n = s) :
    0 ≤ k ∧ k < 6 ∧ a = deedWord k.toNat ∧ f = numbered k.toNat ∧ (f = true → 0 ≤ n ∧ n ≤ 99 ∧ b = Lib.decDigits n.toNat) ∧ (f = false → n = 0) := by
  have t := told_of (ht ▸ h0)
  obtain ⟨hk0, hk6⟩ := told_kind t
  have hw := word_clean (k := k.toNat) (by omega)
  rw [text_told t] at ht
  refine ⟨hk0, hk6, ?_⟩
  split at ht
  · rename_i hk
    have hn : 0 ≤ n ∧ n ≤ 99 := by unfold told at t; omega
    rcases h with ⟨rfl, hs, ha⟩ | ⟨rfl, rfl, hs, _⟩
    · obtain ⟨e1, e2⟩ := cut_same (ht.trans hs) hw.1 ha
      exact ⟨e1.symm, ((numbered_iff hk0).2 hk).symm, fun _ => ⟨hn.1, hn.2, e2.symm⟩, fun h => by cases h⟩
    · exact absurd (by rw [← ht]; simp) hs
  · rename_i hk
    have hn : n = 0 := by unfold told at t; omega
    have hf : numbered k.toNat = false := by rw [Bool.eq_false_iff]; exact fun h => hk ((numbered_iff hk0).1 h)
    rcases h with ⟨rfl, hs, ha⟩ | ⟨rfl, rfl, hs, _⟩
    · exact absurd (by rw [ht, hs]; simp) hw.1
    · exact ⟨ht.symm, hf.symm, fun h => (by cases h), fun _ => hn⟩
theorem read_plain {s a b : List UInt8} (h : Cutting 32 s a b false) {k : Nat} (hk : k < 6) (hw : deedWord k = a) (hn : numbered k = false) : readOf s = (((k : Int), 0), true) := by
  rcases h with ⟨h, _⟩ | ⟨_, rfl, _⟩
  · cases h
  · have hc := word_clean hk
    rw [hw] at hc
    refine readOf_of hc.2 ?_
    rw [text_told (.inr ⟨?_, rfl⟩), if_neg ?_]
    · exact hw
    · intro hx
      have := (numbered_iff (k := (k : Int)) (by omega)).2 hx
      rw [Int.toNat_natCast, hn] at this
      cases this
    · have hx : ¬ ((k : Int) = 0 ∨ (k : Int) = 2 ∨ (k : Int) = 3) := fun hx => by
        have := (numbered_iff (k := (k : Int)) (by omega)).2 hx
        rw [Int.toNat_natCast, hn] at this
        cases this
      omega
theorem read_number {s a b : List UInt8} (h : Cutting 32 s a b true) {k : Nat} (hk : k < 6) (hw : deedWord k = a) (hn : numbered k = true) (hb : numOk b 2 = true) : readOf s = (((k : Int), (numVal b : Int)), true) := by
  rcases h with ⟨_, hs, _⟩ | ⟨h, _⟩
  · obtain ⟨hd, hlt⟩ := dec_num hb
    have hx := (numbered_iff (k := (k : Int)) (by omega)).1 (by rw [Int.toNat_natCast]; exact hn)
    refine readOf_of (by rw [hs]; simp) ?_
    rw [text_told (.inl ⟨hx, by omega⟩), if_pos hx, Int.toNat_natCast, Int.toNat_natCast, hd, hw, hs]
  · cases h
theorem read_bad {s a b : List UInt8} (h : Cutting 32 s a b true) (hb : numOk b 2 = false) : readOf s = ((0, 0), false) := by
  refine readOf_none fun k n h0 ht => ?_
  obtain ⟨_, _, _, _, h1, _⟩ := text_cut h h0 ht
  obtain ⟨hn0, hn9, rfl⟩ := h1 rfl
  rw [(num_dec (by omega)).1] at hb
  cases hb
theorem read_other {s a b : List UInt8} {f : Bool} (h : Cutting 32 s a b f) (hno : ∀ j, j < 6 → ¬ (deedWord j = a ∧ numbered j = f)) : readOf s = ((0, 0), false) := by
  refine readOf_none fun k n h0 ht => ?_
  obtain ⟨hk0, hk6, h1, h2, _⟩ := text_cut h h0 ht
  exact hno k.toNat (by omega) ⟨h1.symm, h2.symm⟩

/-- What ReadDeed returns. -/
def ReadOut (s : List UInt8) (w : World) (e : Ending) (w' : World) : Prop := e = .returned (.tuple #[.agg #[.int .i64 (readOf s).1.1, .int .i64 (readOf s).1.2], .bool (readOf s).2]) ∧ Below w.heap.size w w'
theorem read_ret {s : List UInt8} {k n : Int} {b : Bool} (h : readOf s = ((k, n), b)) : Ending.returned (.tuple #[.agg #[.int .i64 k, .int .i64 n], .bool b]) = .returned (.tuple #[.agg #[.int .i64 (readOf s).1.1, .int .i64 (readOf s).1.2], .bool (readOf s).2]) := by rw [h]

/-- The library's own variable holds some number. -/
def MaxAt (w : World) : Prop := ∃ m, w.cell? ⟨3, 0, none⟩ = some (.int .i64 m)
theorem MaxAt.below' {w w' : World} (h : MaxAt w) (hb : Below w.heap.size w w') : MaxAt w' := by
  obtain ⟨m, hm⟩ := h
  exact ⟨m, cell_keep hb hm⟩
theorem maxAt {w : World} (h : w.ShapedOpen Tryd.prog) : MaxAt w := Tryd.laysM145.s1_3 w h
def CutOut (c : UInt8) (s : ByteArray) (w : World) (e : Ending) (w' : World) : Prop := ∃ (a b : List UInt8) (f : Bool), e = .returned (.tuple #[.string (Tw.str a), .string (Tw.str b), .bool f]) ∧ Cutting c s.data.toList a b f ∧ Below w.heap.size w w'
theorem strCut_any (s : ByteArray) (c : UInt8) (w : World) (hm : MaxAt w) (hs : s.size ≤ 1048576) :
    Calls Tryd.prog 62 #[.string s, .string ⟨#[c]⟩] w (CutOut c s w) := by
  obtain ⟨m, hm⟩ := hm
  refine (Tryd.strings_Cut s ⟨#[c]⟩ m w (by omega) hm).mono ?_
  rintro e w' ⟨rfl, n, rfl⟩
  exact ⟨_, _, _, rfl, cutting c s.data.toList, below_drewN (Below.refl _ _) _⟩

theorem withNumber_is (k : Nat) (hk : k < 6) (w : World) (b : Bool) (hb : numbered k = b) :
    Calls Tryd.prog 63 #[.int .i64 k] w fun e w' => e = .returned (.bool b) ∧ w = w' := hb ▸ withNumber_any k hk w
set_option maxRecDepth 100000 in
set_option maxHeartbeats 1600000 in
theorem implReadDeed (s : ByteArray) (w : World) (hw : WordsAt w) (hm : MaxAt w) (hs : s.size ≤ 1048576) :
    Calls Tryd.prog 15 #[.string s] w (ReadOut s.data.toList w) := by
  obtain ⟨W, hW⟩ : ∃ W, W = w.alloc (.cells #[.int .i64 0, .int .i64 0] 23) := ⟨_, rfl⟩
  have hb0 : Below w.heap.size w W := by rw [hW]; exact (Below.refl _ _).alloc (Nat.le_refl _) _
  have hWs : W.heap.size = w.heap.size + 1 := by rw [hW]; simp
  have hr0 : W.heap[w.heap.size]? = some (.cells #[.int .i64 0, .int .i64 0] 23 (0, 0)) := by rw [hW]; exact heap_alloc_new _ _
  have hct := strCut_any s 32 W (hm.below' hb0) hs
  have hwd := hw.below' hb0
  have HCT := Lib.hid hct
  have HWD := Lib.hid hwd
  have HR0 := Lib.hid hr0
  have HW := Lib.hid hW
  clear hct hwd hr0 hW
  go_enter Tryd.func15, Tryd.ntmps15
  go_wp2_with fail
  rw [← HW.out]
  go_wp2_with (first
    | (go_at_call 62; refine HCT.out.mono ?_; rintro e w1 ⟨a, b, f, rfl, hcut, hb1⟩; have HCU := Lib.hid hcut; clear hcut))
  have hb2 : Below w.heap.size w w1 := hb0.trans (hb1.mono hb0.size)
  have hrow := (hb1.block w.heap.size (by omega)).trans HR0.out
  have r0 := cell_of_row _ _ 0 _ _ _ hrow
  have r1 := cell_of_row _ _ 1 _ _ _ hrow
  have f0 := frozen_of_row _ _ 0 _ _ hrow
  have f1 := frozen_of_row _ _ 1 _ _ hrow
  have HROW := Lib.hid hrow
  have hwd1 := HWD.out.below' hb1
  have HWD1 := Lib.hid hwd1
  obtain ⟨x, hx⟩ : ∃ x, Tw.str a = x := ⟨_, rfl⟩
  obtain ⟨y, hy⟩ : ∃ y, Tw.str b = y := ⟨_, rfl⟩
  have hyd : y.data.toList = b := by rw [← hy]; rfl
  have hyl : y.size ≤ 1048576 := by
    rw [← hy, Tw.str_size]
    rcases HCU.out with ⟨_, e, _⟩ | ⟨_, _, _, e⟩
    · have e2 := congrArg List.length e
      rw [size_data, List.length_append, List.length_cons] at e2
      omega
    · rw [e]
      simp
  have hnum := fun W => readNumber_any y 2 (by omega) W (by omega)
  rw [hyd] at hnum
  obtain ⟨nr, hnr⟩ : ∃ r, numRes b 2 = r := ⟨_, rfl⟩
  obtain ⟨no, hno⟩ : ∃ r, numOk b 2 = r := ⟨_, rfl⟩
  have hnum2 : Hid (∀ W : World, Calls Tryd.prog 64 #[.string y, .int .i64 2] W fun e w' => e = .returned (.tuple #[.int .i64 nr, .bool no]) ∧ W = w') := fun W => by
    have := hnum W
    unfold NumOut at this
    rwa [hnr, hno] at this
  have HNR := Lib.hid hnr
  have HNO := Lib.hid hno
  rw [hx, hy]
  have HX := Lib.hid hx
  clear hrow hwd1 hyd hnum hnr hno hx hy hb1 hb0 hWs
  go_loop [16] (fun i => ∃ k : Nat, k ≤ 6 ∧ i = .int .i64 k ∧ Hid (∀ j, j < k → ¬ (deedWord j = a ∧ numbered j = f))) (fun i => 6 - (intOf i).toNat)
  case atStart => exact ⟨0, by omega, rfl, fun j hj => absurd hj (by omega)⟩
  case round =>
    obtain ⟨k, hk, rfl, HK⟩ := hrel
    by_cases hlt : k < 6
    · have c := HWD1.out k hlt
      obtain ⟨z, hz⟩ : ∃ z, Tw.str (deedWord k) = z := ⟨_, rfl⟩
      rw [hz] at c
      have hk3 : (0 : Int) ≤ (k : Int) := by omega
      have hk4 : (k : Int) < 6 := by omega
      have hwn := fun W => withNumber_is k hlt W _ rfl
      have hiff : (z.toList == x.toList) = decide (deedWord k = a) := by
        rw [eq_bytes, ← hz, ← HX.out]
        refine decide_eq_decide.2 ⟨fun h => ?_, fun h => by rw [h]⟩
        exact (Tw.str_data _).symm.trans ((congrArg (fun b : ByteArray => b.data.toList) h).trans (Tw.str_data _))
      have HZ := Lib.hid hz
      clear hz
      cases hd : decide (deedWord k = a)
      · rw [hd] at hiff
        have HD := Lib.hid (of_decide_eq_false hd)
        clear hd hwn
        go_wp2_with fail
        go_round
        case rel =>
          refine ⟨k + 1, by omega, by go_num, fun j hj h9 => ?_⟩
          rcases Nat.lt_or_ge j k with h8 | h8
          · exact HK.out j h8 h9
          · obtain rfl : j = k := by omega
            exact HD.out h9.1
        case measure => simp [intOf]; omega
      · rw [hd] at hiff
        have HD := Lib.hid (of_decide_eq_true hd)
        obtain ⟨b', hb'⟩ : ∃ b', numbered k = b' := ⟨_, rfl⟩
        rw [hb'] at hwn
        have HWN := Lib.hid hwn
        have HB := Lib.hid hb'
        clear hd hwn hb'
        rcases (by cases f <;> cases b' <;> simp : (f = false ∧ b' = false) ∨ (f = true ∧ b' = true) ∨ f ≠ b') with ⟨rfl, rfl⟩ | ⟨rfl, rfl⟩ | hne
        · have q := pair_put HROW.out (.int .i64 (k : Int)) (.int .i64 0)
          have q0 := cell_of_row _ _ 0 _ _ _ q
          have q1 := cell_of_row _ _ 1 _ _ _ q
          clear q
          go_wp2_with (first
            | (go_at_call 63; refine (HWN.out _).mono ?_; rintro e w' ⟨rfl, rfl⟩))
          refine bodyPost_ret (v := .tuple #[.agg #[.int .i64 (k : Int), .int .i64 0], .bool true]) (by simp [results, Tryd.results15, go_sem, q0, q1]) rfl ⟨read_ret (read_plain HCU.out hlt HD.out HB.out), ?_⟩
          exact (hb2.setCell (Nat.le_refl _) _).setCell (Nat.le_refl _) _
        · cases no
          · have q := pair_put HROW.out (.int .i64 0) (.int .i64 0)
            have q0 := cell_of_row _ _ 0 _ _ _ q
            have q1 := cell_of_row _ _ 1 _ _ _ q
            clear q
            go_wp2_with (first
              | (go_at_call 63; refine (HWN.out _).mono ?_; rintro e w' ⟨rfl, rfl⟩)
              | (go_at_call 64; refine (hnum2.out _).mono ?_; rintro e w' ⟨rfl, rfl⟩))
            refine bodyPost_ret (v := .tuple #[.agg #[.int .i64 0, .int .i64 0], .bool false]) (by simp [results, Tryd.results15, go_sem, q0, q1]) rfl ⟨read_ret (read_bad HCU.out HNO.out), ?_⟩
            exact (hb2.setCell (Nat.le_refl _) _).setCell (Nat.le_refl _) _
          · have q := pair_put HROW.out (.int .i64 (k : Int)) (.int .i64 nr)
            have q0 := cell_of_row _ _ 0 _ _ _ q
            have q1 := cell_of_row _ _ 1 _ _ _ q
            clear q
            go_wp2_with (first
              | (go_at_call 63; refine (HWN.out _).mono ?_; rintro e w' ⟨rfl, rfl⟩)
              | (go_at_call 64; refine (hnum2.out _).mono ?_; rintro e w' ⟨rfl, rfl⟩))
            have e9 : (numVal b : Int) = nr := by
              rw [← HNR.out]
              unfold numRes
              rw [HNO.out]
              rfl
            refine bodyPost_ret (v := .tuple #[.agg #[.int .i64 (k : Int), .int .i64 nr], .bool true]) (by simp [results, Tryd.results15, go_sem, q0, q1]) rfl ⟨read_ret (e9 ▸ read_number HCU.out hlt HD.out HB.out HNO.out), ?_⟩
            exact (hb2.setCell (Nat.le_refl _) _).setCell (Nat.le_refl _) _
        · have hnew : Hid (∀ j, j < k + 1 → ¬ (deedWord j = a ∧ numbered j = f)) := fun j hj h9 => by
            rcases Nat.lt_or_ge j k with h8 | h8
            · exact HK.out j h8 h9
            · obtain rfl : j = k := by omega
              exact hne (h9.2.symm.trans HB.out)
          have hbb : (f = false ∧ b' = true) ∨ (f = true ∧ b' = false) := by
            cases f <;> cases b' <;> simp at hne ⊢
          clear hne
          rcases hbb with ⟨rfl, rfl⟩ | ⟨rfl, rfl⟩
          all_goals
            go_wp2_with (first
              | (go_at_call 63; refine (HWN.out _).mono ?_; rintro e w' ⟨rfl, rfl⟩))
            go_round
            case rel => exact ⟨k + 1, by omega, by go_num, hnew⟩
            case measure => simp [intOf]; omega
    · obtain rfl : k = 6 := by omega
      have q := pair_put HROW.out (.int .i64 0) (.int .i64 0)
      have q0 := cell_of_row _ _ 0 _ _ _ q
      have q1 := cell_of_row _ _ 1 _ _ _ q
      clear q
      go_wp2_with fail
      refine bodyPost_ret (v := .tuple #[.agg #[.int .i64 0, .int .i64 0], .bool false]) (by simp [results, Tryd.results15, go_sem, q0, q1]) rfl ⟨read_ret (read_other HCU.out HK.out), ?_⟩
      exact (hb2.setCell (Nat.le_refl _) _).setCell (Nat.le_refl _) _

end Go.Proofs.YtbaakapnbginoaaDoor
