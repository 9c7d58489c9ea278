/-
  Contract of the reference's l1Cut: what stands between the bytes of a kind, in new memory. Condition: a text of at most 2^20 bytes.
-/
import Derived.Test.YtccdfndnjjjgfaaGreatDoorReadPure
import Derived.Test.YtccdfndnjjjgfaaGreatDoorDeskDone
namespace Go.Proofs.YtccdfndnjjjgfaaGreatDoor
open Go.RowKit

def words (sep : UInt8) (s : ByteArray) : List ByteArray := (cutAll sep s.data.toList).map Tw.str
theorem cut_count (sep : UInt8) : ∀ (l : List UInt8) (ps : List (List UInt8)) (cur : List UInt8), (l.foldl (cutStep sep) (ps, cur)).1.length ≤ ps.length + l.length
  | [], ps, cur => by simp
  | c :: l, ps, cur => by
    rw [List.foldl_cons, show cutStep sep (ps, cur) c = if c = sep then (ps ++ [cur], []) else (ps, cur ++ [c]) from rfl]
    split
    · have := cut_count sep l (ps ++ [cur]) []
      simp at *
      omega
    · have := cut_count sep l ps (cur ++ [c])
      simp at *
      omega
theorem cutState_few (sep : UInt8) (l : List UInt8) : (cutState sep l).1.length ≤ l.length := by
  have := cut_count sep l [] []
  unfold cutState
  simpa using this
theorem words_few (sep : UInt8) (s : ByteArray) : (words sep s).length ≤ s.size + 1 := by
  unfold words cutAll
  have := cutState_few sep s.data.toList
  rw [size_data] at this
  simp
  omega
theorem cut_small (sep : UInt8) : ∀ (l : List UInt8) (ps : List (List UInt8)) (cur : List UInt8) (B : Nat), (∀ p ∈ ps, p.length ≤ B) → cur.length + l.length ≤ B → (∀ p ∈ (l.foldl (cutStep sep) (ps, cur)).1, p.length ≤ B) ∧ (l.foldl (cutStep sep) (ps, cur)).2.length ≤ B
  | [], ps, cur, B, hp, hc => ⟨hp, by simpa using hc⟩
  | c :: l, ps, cur, B, hp, hc => by
    rw [List.foldl_cons, show cutStep sep (ps, cur) c = if c = sep then (ps ++ [cur], []) else (ps, cur ++ [c]) from rfl]
    rw [List.length_cons] at hc
    split
    · refine cut_small sep l (ps ++ [cur]) [] B (fun p h => ?_) (by simp; omega)
      rcases List.mem_append.1 h with h | h
      · exact hp p h
      · rw [List.mem_singleton.1 h]
        omega
    · exact cut_small sep l ps (cur ++ [c]) B hp (by simp; omega)
theorem part_size {sep : UInt8} {l p : List UInt8} (h : p ∈ cutAll sep l) : p.length ≤ l.length := by
  have := cut_small sep l [] [] l.length (fun p h => by cases h) (by simp)
  unfold cutAll cutState at h
  rcases List.mem_append.1 h with h | h
  · exact this.1 p h
  · rw [List.mem_singleton.1 h]
    exact this.2
theorem piece_at {s : ByteArray} {f k : Nat} : s.extract f k = Tw.str ((s.data.toList.take k).drop f) := by
  rw [← Tw.str_of (s.extract f k), Lib.extract_data]
  congr 1
  rw [List.drop_take]
theorem drop_snoc {l : List UInt8} {f k : Nat} (hk : k < l.length) (hf : f ≤ k) : (l.take (k + 1)).drop f = (l.take k).drop f ++ [l[k]] := by
  rw [List.take_succ_eq_append_getElem hk, List.drop_append_of_le_length (by rw [List.length_take]; omega)]

set_option maxRecDepth 100000 in
set_option maxHeartbeats 1600000 in
theorem cut_any (s : ByteArray) (sep : UInt8) (w : World) (hs : s.size ≤ 1048576) :
    Calls Tryz.prog 61 #[.string s, .int .u8 sep.toNat] w fun e w' => ∃ g cap, e = .returned (.slice (some ⟨g, 0, none⟩) (words sep s).length cap) ∧ w'.ownsRow w.heap.size 9 1 (.slice (some ⟨g, 0, none⟩) (words sep s).length cap) (words sep s).length (strVals (words sep s)) ∧ Below w.heap.size w w' := by
  obtain ⟨i0, hi0, hz0, hz1, hz2⟩ := info_parts stringInfo
  have hown0 := own_none w 9 w.heap.size (Nat.le_refl _)
  have HO := Lib.hid hown0
  clear hown0
  go_enter Tryz.func61, Tryz.ntmps61
  go_wp2
  go_loopw [5, 6, 7] (fun o f i wr => ∃ (g cap n from_ k : Nat) (ps : List (List UInt8)), o = .slice (some ⟨g, 0, none⟩) n cap ∧ f = .int .i64 from_ ∧ i = .int .i64 k ∧ k ≤ s.size ∧ from_ ≤ k ∧ n ≤ k ∧ wr.ownsRow w.heap.size 9 1 (.slice (some ⟨g, 0, none⟩) n cap) n (strVals (ps.map Tw.str)) ∧ Hid (cutState sep (s.data.toList.take k) = (ps, (s.data.toList.take k).drop from_)) ∧ Below w.heap.size w wr) (fun _ _ i _ => s.size - (intOf i).toNat)
  case atStart => exact ⟨_, _, 0, 0, 0, [], rfl, rfl, rfl, Nat.zero_le _, Nat.le_refl _, Nat.le_refl _, HO.out, rfl, (Below.refl _ _).alloc (Nat.le_refl _) _⟩
  case round =>
    obtain ⟨g, cap, n, from_, k, ps, rfl, rfl, rfl, hk, hf, hn, hown, HC, hb⟩ := hrel
    by_cases hlt : k < s.size
    · have hl : k < s.data.toList.length := by rw [size_data]; exact hlt
      cases hc : ((s[k].toNat : Int) == (sep.toNat : Int))
      · have hne : s.data.toList[k] ≠ sep := fun e => by
          have e2 : s[k] = sep := e
          rw [e2] at hc
          simp at hc
        have hne2 : ¬ (s[k].toNat : Int) = (sep.toNat : Int) := by simpa using hc
        have HNE := Lib.hid hne
        clear hne
        go_wp2_with fail
        go_roundw
        case rel =>
          refine ⟨g, cap, n, from_, k + 1, ps, rfl, rfl, by go_num, by omega, by omega, by omega, hown, ?_, hb⟩
          show _ = _
          rw [cutState_not hl HNE.out, HC.out, drop_snoc hl hf]
        case measure => simp [intOf]; omega
      · have heq : s.data.toList[k] = sep := by
          have := beq_iff_eq.1 hc
          have e2 : s[k].toNat = sep.toNat := by omega
          show s[k] = sep
          rw [← UInt8.ofNat_toNat (x := s[k]), e2, UInt8.ofNat_toNat]
        have HEQ := Lib.hid heq
        clear heq
        have hlen := hown.1
        go_wp2_with (first
          | (at_builtin; refine wpList_append_lies _ rfl _ _ 22 rfl w.heap.size 9 i0 _ 1 16 Tryz.underlying22 hi0 hz0 hz1 hz2 rfl (by omega) _ n (strVals (ps.map Tw.str)) rfl (hown.alloc _) ⟨wr.heap.size, 0, none⟩ 1 1 [.string (s.extract from_ k)] rfl rfl (World.news_of_block (cs := #[.string (s.extract from_ k)]) (t := 9) (fr := (0, 0)) (heap_alloc_new wr _)) (by simp [Value.oneCell']) (by omega) (by unfold maxLen; omega) (by omega) (by have := hb.size; simp; omega) (wr.heap.size + 1) (by simp) ?_; intro g4 cap4 w4 hown4 hgrow4 hat4 hlt4))
        go_roundw
        case rel =>
          refine ⟨g4, cap4, n + 1, k + 1, k + 1, ps ++ [(s.data.toList.take k).drop from_], rfl, by go_num, by go_num, by omega, Nat.le_refl _, by omega, ?_, ?_, ?_⟩
          · have e : strVals ((ps ++ [(s.data.toList.take k).drop from_]).map Tw.str) = strVals (ps.map Tw.str) ++ [.string (s.extract from_ k)] := by
              unfold strVals
              rw [piece_at]
              simp
            rw [e]
            exact hown4
          · show _ = _
            have e : (s.data.toList.take (k + 1)).drop (k + 1) = [] := List.drop_of_length_le (by rw [List.length_take]; exact Nat.min_le_left _ _)
            rw [cutState_sep hl HEQ.out, HC.out, e]
          · exact (hb.alloc hb.size _).grown hgrow4 (by have := hb.size; simp; omega) (fun j hj => by have := hown.lt j hj; omega)
        case measure => simp [intOf]; omega
    · obtain rfl : k = s.size := by omega
      go_wp2_with (first
        | (at_builtin; refine wpList_append_lies _ rfl _ _ 22 rfl w.heap.size 9 i0 _ 1 16 Tryz.underlying22 hi0 hz0 hz1 hz2 rfl (by omega) _ n (strVals (ps.map Tw.str)) rfl (hown.alloc _) ⟨wr.heap.size, 0, none⟩ 1 1 [.string (s.extract from_ s.size)] rfl rfl (World.news_of_block (cs := #[.string (s.extract from_ s.size)]) (t := 9) (fr := (0, 0)) (heap_alloc_new wr _)) (by simp [Value.oneCell']) (by omega) (by unfold maxLen; omega) (by omega) (by have := hb.size; simp; omega) (wr.heap.size + 1) (by simp) ?_; intro g4 cap4 w4 hown4 hgrow4 hat4 hlt4))
      go_ret
      have hlen := hown.1
      have hps : ps.length = n := by simpa [strVals] using hlen
      have hc := HC.out
      rw [List.take_of_length_le (by rw [size_data]; exact Nat.le_refl _)] at hc
      have e : words sep s = ps.map Tw.str ++ [s.extract from_ s.size] := by
        unfold words cutAll
        rw [hc, piece_at, List.take_of_length_le (by rw [size_data]; exact Nat.le_refl _)]
        simp
      have e1 : (words sep s).length = n + 1 := by rw [e]; simp [hps]
      have e2 : strVals (words sep s) = strVals (ps.map Tw.str) ++ [.string (s.extract from_ s.size)] := by rw [e]; unfold strVals; rw [List.map_append]; rfl
      rw [e1, e2]
      exact ⟨g4, cap4, rfl, hown4, (hb.alloc hb.size _).grown hgrow4 (by have := hb.size; simp; omega) (fun j hj => by have := hown.lt j hj; omega)⟩

end Go.Proofs.YtccdfndnjjjgfaaGreatDoor
