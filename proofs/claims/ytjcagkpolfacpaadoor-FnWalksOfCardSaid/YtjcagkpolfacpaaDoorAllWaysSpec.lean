/-
  AllWays, of the reference: the eight ways, put in one by one.
-/
import Derived.Test.YtjcagkpolfacpaaDoorAllWays
import Derived.Test.YtjcagkpolfacpaaDoorDeskDoImpl
import Derived.Test.YtjcagkpolfacpaaDoorExt
import Derived.Test.YtjcagkpolfacpaaDoorFirstSpec
namespace Go.Proofs.YtjcagkpolfacpaaDoor
open Go.RowKit

/-- A list of texts that the call makes. -/
structure RowOf (w W : World) (v : Value) (ts : List Tw.Tx) : Prop where
  own : W.ownsRow w.heap.size 9 1 v ts.length (strVals (ts.map Tw.str))
  ne : v ≠ .slice none 0 0
  below : Below w.heap.size w W
theorem take_texts (ts : List Tw.Tx) (k : Nat) : strVals ((ts.map Tw.str).take k) = (strVals (ts.map Tw.str)).take k := by unfold strVals; rw [List.map_take]
theorem pre_lt_succ {ts : List Tw.Tx} {x : Tw.Tx} {j : Nat} {z : Tw.Tx} (h : ∀ (i : Nat) (y : Tw.Tx), i < j → ts[i]? = some y → y < x) (hz : ts[j]? = some z) (hl : z < x) : ∀ (i : Nat) (y : Tw.Tx), i < j + 1 → ts[i]? = some y → y < x := by
  intro i y hi hy
  rcases Nat.lt_or_ge i j with h1 | h1
  · exact h i y h1 hy
  · obtain rfl : i = j := by omega
    rw [hz] at hy
    rw [← Option.some.inj hy]
    exact hl
theorem src_part {w : World} {g lo n cap : Nat} {us : List ByteArray} (h : ∀ (j : Nat) (z : ByteArray), us[j]? = some z → w.cell? ⟨g, lo + j, none⟩ = some (.string z)) (hl : us.length = n) :
    ((.slice (some ⟨g, lo, none⟩) n cap : Value) = .slice none 0 0 ∧ n = 0 ∧ strVals us = []) ∨ ∃ ad c, (.slice (some ⟨g, lo, none⟩) n cap : Value) = .slice (some ad) n c ∧ (strVals us).length = n * 1 ∧ ∀ j u, (strVals us)[j]? = some u → w.cell? (ad.add j) = some u := by
  refine .inr ⟨_, _, rfl, by rw [strVals_len, hl]; omega, fun j u hu => ?_⟩
  unfold strVals at hu
  rw [List.getElem?_map] at hu
  rw [add_plain]
  cases hz : us[j]? with
  | none => rw [hz] at hu; cases hu
  | some z =>
    rw [hz] at hu
    rw [h j z hz]
    exact hu

theorem past_at {w : World} {g n cap : Nat} {zs : List ByteArray} (h : PastAt w (.slice (some ⟨g, 0, none⟩) n cap) zs) {j : Nat} {z : ByteArray} (hz : zs[j]? = some z) : w.cell? ⟨g, j, none⟩ = some (.string z) := by
  rcases h with ⟨h, _⟩ | ⟨g', off, cap', cur, he, _, hg, _, hc⟩
  · cases h
  · cases he
    have := hc j z hz
    rw [Nat.zero_add] at this
    rw [cell_of_row _ _ _ _ _ _ hg, this]

theorem past_grownBy {X X' : World} {v : Value} {zs : List ByteArray} {row : Option Nat} (h : PastAt X v zs) (hg : X.grownBy X' row) (hne : v.ownBlock ≠ row) : PastAt X' v zs := by
  rcases h with h | ⟨g, off, cap, cur, rfl, hl, hr, hc, hz⟩
  · exact .inl h
  · exact .inr ⟨g, off, cap, cur, rfl, hl, (hg.block g (lt_at hr) hne).trans hr, hc, hz⟩
theorem src_take {W : World} {g n cap j : Nat} {zs : List ByteArray} (h : PastAt W (.slice (some ⟨g, 0, none⟩) n cap) zs) (hn : zs.length = n) (hj : j ≤ n) :
    ((.slice (some ⟨g, 0, none⟩) j cap : Value) = .slice none 0 0 ∧ j = 0 ∧ strVals (zs.take j) = []) ∨ ∃ ad c, (.slice (some ⟨g, 0, none⟩) j cap : Value) = .slice (some ad) j c ∧ (strVals (zs.take j)).length = j * 1 ∧ ∀ i u, (strVals (zs.take j))[i]? = some u → W.cell? (ad.add i) = some u := by
  refine src_part (fun i z hz => ?_) (by rw [List.length_take]; omega)
  rw [List.getElem?_take] at hz
  split at hz
  · rw [Nat.zero_add]; exact past_at h hz
  · cases hz
theorem src_drop {W : World} {g n cap j m c : Nat} {zs : List ByteArray} (h : PastAt W (.slice (some ⟨g, 0, none⟩) n cap) zs) (hn : zs.length = n) (hj : j ≤ n) (hm : n - j = m) :
    ((.slice (some ⟨g, j, none⟩) m c : Value) = .slice none 0 0 ∧ m = 0 ∧ strVals (zs.drop j) = []) ∨ ∃ ad c', (.slice (some ⟨g, j, none⟩) m c : Value) = .slice (some ad) m c' ∧ (strVals (zs.drop j)).length = m * 1 ∧ ∀ i u, (strVals (zs.drop j))[i]? = some u → W.cell? (ad.add i) = some u := by
  refine src_part (fun i z hz => ?_) (by rw [List.length_drop]; omega)
  rw [List.getElem?_drop] at hz
  exact past_at h hz
theorem src_none {W : World} {g cap : Nat} {zs : List ByteArray} {n : Nat} (hn : zs.length = n) :
    ((.slice (some ⟨g, 0, none⟩) 0 cap : Value) = .slice none 0 0 ∧ 0 = 0 ∧ strVals (zs.drop n) = []) ∨ ∃ ad c', (.slice (some ⟨g, 0, none⟩) 0 cap : Value) = .slice (some ad) 0 c' ∧ (strVals (zs.drop n)).length = 0 * 1 ∧ ∀ i u, (strVals (zs.drop n))[i]? = some u → W.cell? (ad.add i) = some u := by
  have e : zs.drop n = [] := List.drop_of_length_le (by omega)
  rw [e]
  exact .inr ⟨_, _, rfl, rfl, fun i u hu => by simp [strVals] at hu⟩

set_option maxRecDepth 100000 in
set_option maxHeartbeats 3200000 in
theorem specAllWays (s : ByteArray) (w : World) (hs : s.size ≤ 1048576) :
    Calls Tryd.prog 22 #[.string s] w (TextsOut w (allW s)) := by
  have hown0 := own_none w 9 w.heap.size (Nat.le_refl _)
  have HO := Lib.hid hown0
  clear hown0
  cases hok : Tw.walkOk s.data.toList
  · have HOK := Lib.hid hok
    have hr : allW s = [] := by unfold allW; rw [hok]; rfl
    have HR := Lib.hid hr
    clear hok hr
    go_enter Tryd.func22, Tryd.ntmps22
    go_wp2
    refine wp_loop_rounds 1 ?_
    rw [rounds_succ]
    go_wp2_with (first
      | (go_at_call 39; refine (specWalkOk_is _ _ hs false HOK.out).mono ?_; rintro e w' ⟨rfl, rfl⟩))
    go_ret
    exact ⟨_, rfl, by rw [HR.out]; exact past_own (base := w.heap.size) (ys := []) HO.out, Fresh.slice (Nat.le_refl _), (Below.refl _ _).alloc (Nat.le_refl _) _⟩
  · obtain ⟨l, hl⟩ : ∃ l, s.data.toList = l := ⟨_, rfl⟩
    have hr : allW s = (Tw.allWays l).map Tw.str := by unfold allW; rw [hok, hl]; rfl
    rw [hr]
    have HOK := Lib.hid hok
    have HOKL := Lib.hid (hl ▸ hok)
    have HSL := Lib.hid (show s = Tw.str l by rw [← hl, Tw.str_of])
    clear hok hr hl
    obtain ⟨i0, hi0, hz0, hz1, hz2⟩ := info_parts stringInfo
    go_enter Tryd.func22, Tryd.ntmps22
    go_wp2
    go_loopw [3, 4, 5, 6, 7] (fun v i _ _ _ wr => ∃ k : Nat, k ≤ 8 ∧ i = .int .i64 k ∧ Hid (RowOf w wr v (Tw.insAll (Tw.waysUpTo l k))))
      (fun _ i _ _ _ _ => 8 - (intOf i).toNat)
    case atStart => exact ⟨0, Nat.zero_le _, rfl, ⟨HO.out, by simp, (Below.refl _ _).alloc (Nat.le_refl _) _⟩⟩
    case round =>
      obtain ⟨k, hk, rfl, HR⟩ := hrel
      obtain ⟨g, cap, hv⟩ := own_slice HR.out.own HR.out.ne
      obtain ⟨ts, hts⟩ : ∃ ts, Tw.insAll (Tw.waysUpTo l k) = ts := ⟨_, rfl⟩
      have hfacts := Tw.insAll_facts (Tw.waysUpTo l k)
      rw [Tw.waysUpTo_length, hts] at hfacts
      have hn8 := hfacts.2.2
      rw [hts] at hv HR
      subst hv
      obtain ⟨n, hn⟩ : ∃ n, ts.length = n := ⟨_, rfl⟩
      rw [hn] at hn8 HR ⊢
      have hown := HR.out.own
      rw [hn] at hown
      have HOWN := Lib.hid hown
      have HN := Lib.hid hn
      have HTS := Lib.hid hts
      clear hfacts hn hts hown
      by_cases hlt : k < 8
      · obtain ⟨X, hX⟩ : ∃ X, Tw.wayList k l = X := ⟨_, rfl⟩
        have HX := Lib.hid hX
        have HSUCC := Lib.hid (show Tw.insAll (Tw.waysUpTo l (k + 1)) = Tw.insT X ts by rw [Tw.waysUpTo_succ, Tw.insAll_snoc, HTS.out, hX])
        clear hX
        have hsz := HR.out.below.size
        have hp := past_own (ys := ts.map Tw.str) (v := .slice (some ⟨g, 0, none⟩) n cap) (w := wr) (base := w.heap.size) (by rw [List.length_map, HN.out]; exact HOWN.out)
        have hgb := past_lt hp rfl
        have hnc := own_le HOWN.out
        have HP := Lib.hid hp
        have HC := Lib.hid (fun (j : Nat) (z : Tw.Tx) (hz : ts[j]? = some z) => past_at hp (j := j) (z := Tw.str z) (by rw [List.getElem?_map, hz]; rfl))
        clear hp
        go_wp2_with (first
          | (go_at_call 39; refine (specWalkOk_is _ _ hs true HOK.out).mono ?_; rintro e w' ⟨rfl, rfl⟩)
          | (go_at_call 40; refine (specWay_at HOKL.out hlt _ HSL.out _).mono ?_; rw [HX.out]; rintro e w' ⟨rfl, rfl⟩))
        go_loop [6] (fun i => ∃ j : Nat, j ≤ n ∧ i = .int .i64 j ∧ Hid (∀ (i : Nat) (y : Tw.Tx), i < j → ts[i]? = some y → y < X)) (fun i => n - (intOf i).toNat)
        case atStart => exact ⟨0, Nat.zero_le _, rfl, fun i y hi => absurd hi (by omega)⟩
        case round =>
          obtain ⟨j, hj, rfl, HJ⟩ := hrel
          by_cases hjn : j < n
          · obtain ⟨z, hz⟩ : ∃ z, ts[j]? = some z := ⟨ts[j]'(by rw [HN.out]; exact hjn), List.getElem?_eq_getElem (by rw [HN.out]; exact hjn)⟩
            have c1 := HC.out j z hz
            have hk3 : (0 : Int) ≤ (j : Int) := by omega
            have hk4 : (j : Int) < (n : Int) := by omega
            have HZ := Lib.hid hz
            clear hz
            have h1 := less_str z X
            cases hzx : decide (z < X)
            · rw [hzx] at h1
              have HZX := Lib.hid (of_decide_eq_false hzx)
              clear hzx
              cases hze : decide (Tw.str z = Tw.str X)
              · have he := (eq_bytes (Tw.str z) (Tw.str X)).trans hze
                have HNE := Lib.hid (show ¬ ts[j]? = some X from fun h9 => by rw [HZ.out] at h9; rw [Option.some.inj h9] at hze; simp at hze)
                have HNX := Lib.hid (show ∀ y, ts[j]? = some y → ¬ y < X from fun y hy => by rw [HZ.out] at hy; rw [← Option.some.inj hy]; exact HZX.out)
                clear hze
                have hgz := HP.out
                have e1 := (Ext.refl wr).alloc (.cells #[] 9)
                have hnz : ((ts.map Tw.str)).length = n := by rw [List.length_map, HN.out]
                have HZL := Lib.hid hnz
                clear hnz hgz e1
                go_wp2_with (first
                  | (at_builtin; refine wpList_append_src _ rfl (.tmp 46) (.tmp 49) 24 rfl wr.heap.size 9 i0 _ 1 16 Tryd.underlying24 hi0 hz0 hz1 hz2 rfl (by omega) (.slice (some ⟨wr.heap.size, 0, none⟩) 0 0) 0 [] rfl (own_none wr 9 wr.heap.size (Nat.le_refl _)) (by simp) (.slice (some ⟨g, 0, none⟩) j cap) j (strVals ((ts.map Tw.str).take j)) rfl (src_take (HP.out.below ((Below.refl _ _).alloc (Nat.le_refl _) _)) HZL.out (by omega)) (one_strs _) (by unfold maxLen; omega) (by omega) (by simp) ?_; intro v1 w1 hown1 hgrow1 hne1; simp only [Nat.zero_add, List.nil_append] at hown1; obtain ⟨g1, cap1, hv1⟩ := own_slice hown1 hne1; subst hv1; have hg1 := (hown1.lt g1 rfl).1; have OWN1 := Lib.hid hown1; have P1 := Lib.hid (past_grownBy (HP.out.below ((Below.refl _ _).alloc (Nat.le_refl _) _)) hgrow1 (fun h9 => by have h8 : g = wr.heap.size := Option.some.inj h9; omega)); have B1 := Lib.hid (((Below.refl wr.heap.size wr).alloc (Nat.le_refl _) (.cells #[] 9)).grown hgrow1 (by simp) (fun i hi => by have h8 : wr.heap.size = i := Option.some.inj hi; omega)); have hs1 := B1.out.size; clear hown1 hgrow1)
                  | (at_builtin; refine wpList_append_lies _ rfl (.tmp 51) (.tmp 53) 24 rfl wr.heap.size 9 i0 _ 1 16 Tryd.underlying24 hi0 hz0 hz1 hz2 rfl (by omega) _ j _ rfl (OWN1.out.alloc _) ⟨w1.heap.size, 0, none⟩ 1 1 [.string (Tw.str X)] rfl rfl (World.news_of_block (cs := #[.string (Tw.str X)]) (t := 9) (fr := (0, 0)) (heap_alloc_new w1 _)) (by simp [Value.oneCell']) (by omega) (by unfold maxLen; omega) (by omega) (by simp; omega) (w1.heap.size + 1) (by simp) ?_; intro g2 cap2 w2 hown2 hgrow2 hat2 hlt2; have hg2 := (hown2.lt g2 rfl).1; have OWN2 := Lib.hid hown2; have P2 := Lib.hid (past_grownBy (P1.out.below ((Below.refl _ _).alloc (Nat.le_refl _) _)) hgrow2 (fun h9 => by have h8 : g = g1 := Option.some.inj h9; omega)); have B2 := Lib.hid ((B1.out.alloc hs1 (.cells #[.string (Tw.str X)] 9)).grown hgrow2 (by simp; omega) (fun i hi => by have h8 : g1 = i := Option.some.inj hi; omega)); have hs2 := B2.out.size; clear hown2 hgrow2)
                  | (at_builtin; refine wpList_append_src _ rfl (.tmp 55) (.tmp 58) 24 rfl wr.heap.size 9 i0 _ 1 16 Tryd.underlying24 hi0 hz0 hz1 hz2 rfl (by omega) (.slice (some ⟨g2, 0, none⟩) (j + 1) cap2) (j + 1) _ rfl OWN2.out (by simp) (.slice (some ⟨g, j, none⟩) (n - j) (cap - j)) (n - j) (strVals ((ts.map Tw.str).drop j)) rfl (src_drop P2.out HZL.out (by omega) rfl) (one_strs _) (by unfold maxLen; omega) (by omega) (by omega) ?_; intro v3 w3 hown3 hgrow3 hne3; obtain ⟨g3, cap3, hv3⟩ := own_slice hown3 hne3; subst hv3; have hg3 := (hown3.lt g3 rfl).1; have OWN3 := Lib.hid hown3; have B3 := Lib.hid (B2.out.grown hgrow3 hs2 (fun i hi => by have h8 : g2 = i := Option.some.inj hi; omega)); clear hown3 hgrow3))
                go_roundw
                case rel =>
                  refine ⟨k + 1, by omega, by go_num, ?_⟩
                  show RowOf _ _ _ _
                  rw [HSUCC.out]
                  have hi := Tw.ins_at X ts j (by rw [HN.out]; omega) HJ.out HNX.out
                  rw [if_neg HNE.out] at hi
                  have hil : (Tw.insT X ts).length = j + 1 + (n - j) := by rw [hi]; simp [HN.out] <;> omega
                  have hiv : strVals ((Tw.insT X ts).map Tw.str) = strVals ((ts.map Tw.str).take j) ++ [.string (Tw.str X)] ++ strVals ((ts.map Tw.str).drop j) := by
                    rw [hi]
                    unfold strVals
                    simp [List.map_take, List.map_drop]
                  refine ⟨?_, by simp, HR.out.below.trans (B3.out.mono hsz)⟩
                  rw [hil, hiv]
                  exact Go.World.ownsRow.mono OWN3.out hsz
                case measure => simp [intOf]; omega
              · have he := (eq_bytes (Tw.str z) (Tw.str X)).trans hze
                have HEQ := Lib.hid (show ts[j]? = some X by rw [HZ.out]; have h9 : Tw.str z = Tw.str X := of_decide_eq_true hze; have := congrArg (fun b : ByteArray => b.data.toList) h9; simp only [Tw.str_data] at this; rw [this])
                clear hze
                go_wp2
                go_roundw
                case rel =>
                  refine ⟨k + 1, by omega, by go_num, ?_⟩
                  show RowOf _ _ _ _
                  rw [HSUCC.out]
                  have hi := Tw.ins_at X ts j (by rw [HN.out]; omega) HJ.out (fun y hy => by rw [HEQ.out] at hy; rw [← Option.some.inj hy]; exact Tw.lt_irrefl' X)
                  rw [if_pos HEQ.out] at hi
                  rw [hi]
                  exact HR.out
                case measure => simp [intOf]; omega
            · rw [hzx] at h1
              have HZX := Lib.hid (of_decide_eq_true hzx)
              clear hzx
              go_wp2
              go_round
              case rel => exact ⟨j + 1, by omega, by go_num, pre_lt_succ HJ.out HZ.out HZX.out⟩
              case measure => simp [intOf]; omega
          · obtain rfl : n = j := by omega
            have HNE := Lib.hid (show ¬ ts[n]? = some X from fun h9 => by rw [List.getElem?_eq_none (by rw [HN.out]; exact Nat.le_refl _)] at h9; cases h9)
            have HNX := Lib.hid (show ∀ y, ts[n]? = some y → ¬ y < X from fun y hy => by rw [List.getElem?_eq_none (by rw [HN.out]; exact Nat.le_refl _)] at hy; cases hy)
            rcases Nat.eq_or_lt_of_le hnc with hcap | hcap
            · subst hcap
              have hgz := HP.out
              have e1 := (Ext.refl wr).alloc (.cells #[] 9)
              have hnz : ((ts.map Tw.str)).length = n := by rw [List.length_map, HN.out]
              have HZL := Lib.hid hnz
              clear hnz hgz e1
              go_wp2_with (first
                | (at_builtin; refine wpList_append_src _ rfl (.tmp 46) (.tmp 49) 24 rfl wr.heap.size 9 i0 _ 1 16 Tryd.underlying24 hi0 hz0 hz1 hz2 rfl (by omega) (.slice (some ⟨wr.heap.size, 0, none⟩) 0 0) 0 [] rfl (own_none wr 9 wr.heap.size (Nat.le_refl _)) (by simp) (.slice (some ⟨g, 0, none⟩) n n) n (strVals ((ts.map Tw.str).take n)) rfl (src_take (HP.out.below ((Below.refl _ _).alloc (Nat.le_refl _) _)) HZL.out (by omega)) (one_strs _) (by unfold maxLen; omega) (by omega) (by simp) ?_; intro v1 w1 hown1 hgrow1 hne1; simp only [Nat.zero_add, List.nil_append] at hown1; obtain ⟨g1, cap1, hv1⟩ := own_slice hown1 hne1; subst hv1; have hg1 := (hown1.lt g1 rfl).1; have OWN1 := Lib.hid hown1; have P1 := Lib.hid (past_grownBy (HP.out.below ((Below.refl _ _).alloc (Nat.le_refl _) _)) hgrow1 (fun h9 => by have h8 : g = wr.heap.size := Option.some.inj h9; omega)); have B1 := Lib.hid (((Below.refl wr.heap.size wr).alloc (Nat.le_refl _) (.cells #[] 9)).grown hgrow1 (by simp) (fun i hi => by have h8 : wr.heap.size = i := Option.some.inj hi; omega)); have hs1 := B1.out.size; clear hown1 hgrow1)
                | (at_builtin; refine wpList_append_lies _ rfl (.tmp 51) (.tmp 53) 24 rfl wr.heap.size 9 i0 _ 1 16 Tryd.underlying24 hi0 hz0 hz1 hz2 rfl (by omega) _ n _ rfl (OWN1.out.alloc _) ⟨w1.heap.size, 0, none⟩ 1 1 [.string (Tw.str X)] rfl rfl (World.news_of_block (cs := #[.string (Tw.str X)]) (t := 9) (fr := (0, 0)) (heap_alloc_new w1 _)) (by simp [Value.oneCell']) (by omega) (by unfold maxLen; omega) (by omega) (by simp; omega) (w1.heap.size + 1) (by simp) ?_; intro g2 cap2 w2 hown2 hgrow2 hat2 hlt2; have hg2 := (hown2.lt g2 rfl).1; have OWN2 := Lib.hid hown2; have P2 := Lib.hid (past_grownBy (P1.out.below ((Below.refl _ _).alloc (Nat.le_refl _) _)) hgrow2 (fun h9 => by have h8 : g = g1 := Option.some.inj h9; omega)); have B2 := Lib.hid ((B1.out.alloc hs1 (.cells #[.string (Tw.str X)] 9)).grown hgrow2 (by simp; omega) (fun i hi => by have h8 : g1 = i := Option.some.inj hi; omega)); have hs2 := B2.out.size; clear hown2 hgrow2)
                | (at_builtin; refine wpList_append_src _ rfl (.tmp 55) (.tmp 58) 24 rfl wr.heap.size 9 i0 _ 1 16 Tryd.underlying24 hi0 hz0 hz1 hz2 rfl (by omega) (.slice (some ⟨g2, 0, none⟩) (n + 1) cap2) (n + 1) _ rfl OWN2.out (by simp) (.slice (some ⟨g, 0, none⟩) 0 0) 0 (strVals ((ts.map Tw.str).drop n)) rfl (src_none HZL.out) (one_strs _) (by unfold maxLen; omega) (by omega) (by omega) ?_; intro v3 w3 hown3 hgrow3 hne3; obtain ⟨g3, cap3, hv3⟩ := own_slice hown3 hne3; subst hv3; have hg3 := (hown3.lt g3 rfl).1; have OWN3 := Lib.hid hown3; have B3 := Lib.hid (B2.out.grown hgrow3 hs2 (fun i hi => by have h8 : g2 = i := Option.some.inj hi; omega)); clear hown3 hgrow3))
              go_roundw
              case rel =>
                refine ⟨k + 1, by omega, by go_num, ?_⟩
                show RowOf _ _ _ _
                rw [HSUCC.out]
                have hi := Tw.ins_at X ts n (by rw [HN.out]; omega) HJ.out HNX.out
                rw [if_neg HNE.out] at hi
                have hil : (Tw.insT X ts).length = n + 1 + 0 := by rw [hi]; simp [HN.out] <;> omega
                have hiv : strVals ((Tw.insT X ts).map Tw.str) = strVals ((ts.map Tw.str).take n) ++ [.string (Tw.str X)] ++ strVals ((ts.map Tw.str).drop n) := by
                  rw [hi]
                  unfold strVals
                  simp [List.map_take, List.map_drop]
                refine ⟨?_, by simp, HR.out.below.trans (B3.out.mono hsz)⟩
                rw [hil, hiv]
                exact Go.World.ownsRow.mono OWN3.out hsz
              case measure => simp [intOf]; omega
            · have hgz := HP.out
              have e1 := (Ext.refl wr).alloc (.cells #[] 9)
              have hnz : ((ts.map Tw.str)).length = n := by rw [List.length_map, HN.out]
              have HZL := Lib.hid hnz
              clear hnz hgz e1
              go_wp2_with (first
                | (at_builtin; refine wpList_append_src _ rfl (.tmp 46) (.tmp 49) 24 rfl wr.heap.size 9 i0 _ 1 16 Tryd.underlying24 hi0 hz0 hz1 hz2 rfl (by omega) (.slice (some ⟨wr.heap.size, 0, none⟩) 0 0) 0 [] rfl (own_none wr 9 wr.heap.size (Nat.le_refl _)) (by simp) (.slice (some ⟨g, 0, none⟩) n cap) n (strVals ((ts.map Tw.str).take n)) rfl (src_take (HP.out.below ((Below.refl _ _).alloc (Nat.le_refl _) _)) HZL.out (by omega)) (one_strs _) (by unfold maxLen; omega) (by omega) (by simp) ?_; intro v1 w1 hown1 hgrow1 hne1; simp only [Nat.zero_add, List.nil_append] at hown1; obtain ⟨g1, cap1, hv1⟩ := own_slice hown1 hne1; subst hv1; have hg1 := (hown1.lt g1 rfl).1; have OWN1 := Lib.hid hown1; have P1 := Lib.hid (past_grownBy (HP.out.below ((Below.refl _ _).alloc (Nat.le_refl _) _)) hgrow1 (fun h9 => by have h8 : g = wr.heap.size := Option.some.inj h9; omega)); have B1 := Lib.hid (((Below.refl wr.heap.size wr).alloc (Nat.le_refl _) (.cells #[] 9)).grown hgrow1 (by simp) (fun i hi => by have h8 : wr.heap.size = i := Option.some.inj hi; omega)); have hs1 := B1.out.size; clear hown1 hgrow1)
                | (at_builtin; refine wpList_append_lies _ rfl (.tmp 51) (.tmp 53) 24 rfl wr.heap.size 9 i0 _ 1 16 Tryd.underlying24 hi0 hz0 hz1 hz2 rfl (by omega) _ n _ rfl (OWN1.out.alloc _) ⟨w1.heap.size, 0, none⟩ 1 1 [.string (Tw.str X)] rfl rfl (World.news_of_block (cs := #[.string (Tw.str X)]) (t := 9) (fr := (0, 0)) (heap_alloc_new w1 _)) (by simp [Value.oneCell']) (by omega) (by unfold maxLen; omega) (by omega) (by simp; omega) (w1.heap.size + 1) (by simp) ?_; intro g2 cap2 w2 hown2 hgrow2 hat2 hlt2; have hg2 := (hown2.lt g2 rfl).1; have OWN2 := Lib.hid hown2; have P2 := Lib.hid (past_grownBy (P1.out.below ((Below.refl _ _).alloc (Nat.le_refl _) _)) hgrow2 (fun h9 => by have h8 : g = g1 := Option.some.inj h9; omega)); have B2 := Lib.hid ((B1.out.alloc hs1 (.cells #[.string (Tw.str X)] 9)).grown hgrow2 (by simp; omega) (fun i hi => by have h8 : g1 = i := Option.some.inj hi; omega)); have hs2 := B2.out.size; clear hown2 hgrow2)
                | (at_builtin; refine wpList_append_src _ rfl (.tmp 55) (.tmp 58) 24 rfl wr.heap.size 9 i0 _ 1 16 Tryd.underlying24 hi0 hz0 hz1 hz2 rfl (by omega) (.slice (some ⟨g2, 0, none⟩) (n + 1) cap2) (n + 1) _ rfl OWN2.out (by simp) (.slice (some ⟨g, n, none⟩) 0 (cap - n)) 0 (strVals ((ts.map Tw.str).drop n)) rfl (src_drop P2.out HZL.out (Nat.le_refl _) (by omega)) (one_strs _) (by unfold maxLen; omega) (by omega) (by omega) ?_; intro v3 w3 hown3 hgrow3 hne3; obtain ⟨g3, cap3, hv3⟩ := own_slice hown3 hne3; subst hv3; have hg3 := (hown3.lt g3 rfl).1; have OWN3 := Lib.hid hown3; have B3 := Lib.hid (B2.out.grown hgrow3 hs2 (fun i hi => by have h8 : g2 = i := Option.some.inj hi; omega)); clear hown3 hgrow3))
              go_roundw
              case rel =>
                refine ⟨k + 1, by omega, by go_num, ?_⟩
                show RowOf _ _ _ _
                rw [HSUCC.out]
                have hi := Tw.ins_at X ts n (by rw [HN.out]; omega) HJ.out HNX.out
                rw [if_neg HNE.out] at hi
                have hil : (Tw.insT X ts).length = n + 1 + 0 := by rw [hi]; simp [HN.out] <;> omega
                have hiv : strVals ((Tw.insT X ts).map Tw.str) = strVals ((ts.map Tw.str).take n) ++ [.string (Tw.str X)] ++ strVals ((ts.map Tw.str).drop n) := by
                  rw [hi]
                  unfold strVals
                  simp [List.map_take, List.map_drop]
                refine ⟨?_, by simp, HR.out.below.trans (B3.out.mono hsz)⟩
                rw [hil, hiv]
                exact Go.World.ownsRow.mono OWN3.out hsz
              case measure => simp [intOf]; omega
      · obtain rfl : k = 8 := by omega
        go_wp2_with fail
        go_ret
        have e : Tw.allWays l = ts := HTS.out
        refine ⟨_, rfl, ?_, fresh_own HOWN.out (Nat.le_refl _), HR.out.below⟩
        rw [e]
        exact past_own (w := wr) (base := w.heap.size) (by rw [List.length_map, HN.out]; exact HOWN.out)
end Go.Proofs.YtjcagkpolfacpaaDoor
