/-
  Contract of the program's DeskDo. Condition: a desk and a deed as Go's ints and short texts hold them.
-/
import Derived.Test.YtccdfndnjjjgfaaGreatDoorDeskAfter
import Derived.Test.YtccdfndnjjjgfaaGreatDoorRunPure
import Derived.Laws.AppendOwnNone
namespace Go.Proofs.YtccdfndnjjjgfaaGreatDoor
open Go.RowKit

/-- Append to a slice of the call's own of a slice that is nil or lies as told. -/
theorem wpList_append_src {P : Program} (w : World) {ops : Array Oper} {rest : List Oper} {o : Oper} {a : Act} {Q : Exit → Act → World → Prop} (hgd : o.guard = none) (s x : Operand) (t : TypeId)
    (ho : o.op = .call { callee := .builtin .append, args := #[s, x], argTypes := #[t, t] })
    (base : Nat) (e : TypeId) (i : TypeInfo) (z : Value) (size bytes : Nat) (ht : P.underlying t = some (.slice e)) (hi : P.info? e = some i) (hz : i.zero = some z)
    (hsize : i.size = size) (hby : i.bytes = bytes) (hzs : z.cells.size = size) (hsz : 0 < size)
    (v : Value) (n : Nat) (xs : List Value) (hs : a.eval s = v) (hown : w.ownsRow base e size v n xs) (hv : v ≠ .slice none 0 0)
    (u : Value) (m : Nat) (news : List Value) (hx : a.eval x = u) (hsrc : (u = .slice none 0 0 ∧ m = 0 ∧ news = []) ∨ ∃ ad c, u = .slice (some ad) m c ∧ news.length = m * size ∧ ∀ j u, news[j]? = some u → w.cell? (ad.add j) = some u)
    (h1 : ∀ u ∈ news, u.oneCell' = true) (h63 : n + m ≤ maxLen) (hbytes : (n + m) * bytes ≤ 140737488355328) (hbase : base ≤ w.heap.size)
    (h : ∀ v' w', w'.ownsRow base e size v' (n + m) (xs ++ news) → w.grownBy w' v.ownBlock → v' ≠ .slice none 0 0 → wpList P ops Q rest (a.put o.dst v') w') : wpList P ops Q (o :: rest) a w := by
  rcases hsrc with ⟨rfl, rfl, rfl⟩ | ⟨ad, c, rfl, hl, hnews⟩
  · exact wpList_append_own_none hgd s x t ho base e i size ht hi v n xs hs hown hx (h v w (by simpa using hown) ⟨rfl, rfl, rfl, Nat.le_refl _, fun _ _ _ => rfl⟩ hv)
  · exact wpList_append_own w hgd s x t ho base e i z size bytes ht hi hz hsize hby hzs hsz v n xs hs hown ad m c news hx hl hnews h1 h63 hbytes hbase (fun v' w' h2 h3 h4 => h v' w' h2 h3 (fun e => hv (h4.1 e).1))

theorem deskOk_namedI (s : ByteArray) (v : Value) (zs : List ByteArray) (w : World) (h : StrsAt w v zs) (hs : s.size ≤ 1048576) (hn : zs.length ≤ 1048576) (hz : ∀ z ∈ zs, z.size ≤ 1048576) (b : Bool) (hb : deskOk s zs = b) :
    Calls Tryz.prog 27 #[.agg #[.string s, v]] w fun e w' => e = .returned (.bool b) ∧ Below w.heap.size w w' := hb ▸ implDeskOk s v zs w h hs hn hz
set_option maxRecDepth 100000 in
set_option maxHeartbeats 1600000 in
theorem doI_none (s : ByteArray) (v : Value) (zs : List ByteArray) (k n : Int) (w : World) (h : StrsAt w v zs) (hs : s.size ≤ 1048576) (hn : zs.length ≤ 1048576) (hz : ∀ z ∈ zs, z.size ≤ 1048576) (hok : deskOk s zs = false) :
    Calls Tryz.prog 45 #[.agg #[.string s, v], .agg #[.int .i64 k, .int .i64 n]] w (DeskOut w ⟨#[]⟩ [] false) := by
  obtain ⟨hbx, hb, hsz⟩ := boxes_start w s v k n
  obtain ⟨W, hW⟩ : ∃ W, boxWorld w s v k n = W := ⟨_, rfl⟩
  rw [hW] at hbx hb hsz
  have hdk := deskOk_namedI s v zs W (h.below' hb) hs hn hz false hok
  have hv : ∃ a m c, v = .slice a m c := by
    rcases h with ⟨rfl, _⟩ | ⟨a, cap, rfl, _⟩
    · exact ⟨_, _, _, rfl⟩
    · exact ⟨_, _, _, rfl⟩
  have d0 := cell_of_row _ _ 0 _ _ _ hbx.d
  have d1 := cell_of_row _ _ 1 _ _ _ hbx.d
  have HDK := Lib.hid hdk
  have HBX := Lib.hid hbx
  unfold boxWorld at hW
  have HW := Lib.hid hW
  clear hdk hbx hW h hz hok
  obtain ⟨a, m, c, rfl⟩ := hv
  go_enter Tryz.func45, Tryz.ntmps45
  go_wp2_with fail
  rw [HW.out]
  go_wp2_with (first
    | (go_at_call 27; refine HDK.out.mono ?_; rintro e w1 ⟨rfl, hb1⟩; have hbx1 := HBX.out.below hb1; have r0 := cell_of_row _ _ 0 _ _ _ hbx1.r; have r1 := cell_of_row _ _ 1 _ _ _ hbx1.r; have f0 := frozen_of_row _ _ 0 _ _ hbx1.r; have f1 := frozen_of_row _ _ 1 _ _ hbx1.r; have q := pair_put hbx1.r (.string ⟨#[]⟩) (.slice none 0 0); have q0 := cell_of_row _ _ 0 _ _ _ q; have q1 := cell_of_row _ _ 1 _ _ _ q; clear hbx1 q))
  refine bodyPost_ret (v := .tuple #[.agg #[.string ⟨#[]⟩, .slice none 0 0], .bool false]) (by simp [results, Tryz.results45, go_sem, q0, q1]) rfl ?_
  exact ⟨_, rfl, .inl ⟨rfl, rfl⟩, Fresh.none _, ((hb.trans (hb1.mono hb.size)).setCell (by show w.heap.size ≤ w.heap.size + 1 + 1; omega) _).setCell (by show w.heap.size ≤ w.heap.size + 1 + 1; omega) _⟩

/-- What putBack makes of a desk. -/
theorem putBack_any (s : ByteArray) (v : Value) (zs : List ByteArray) (n : Int) (w : World) (h : PastAt w v zs) (hok : deskOk s zs = true) :
    Calls Tryz.prog 86 #[.agg #[.string s, v], .int .i64 n] w (DeskOut w (deskDone s zs 5 n).1 (deskDone s zs 5 n).2.1 (deskDone s zs 5 n).2.2) := by
  obtain ⟨_, h8, _⟩ := deskOk_parts hok
  have hm5 : made s 5 n = (s, false) := by unfold made; rfl
  by_cases h0 : n = 0 ∧ 0 < zs.length
  · obtain ⟨rfl, hl⟩ := h0
    have e : deskDone s zs 5 0 = (zs.getLastD ⟨#[]⟩, zs.take (zs.length - 1), true) := by unfold deskDone; rw [if_pos ⟨rfl, rfl, hl⟩]
    rw [e]
    refine putBack_yes s v zs w h (by omega) (zs.length - 1) (Lib.hid (by omega)) _ (Lib.hid ?_)
    cases zs with
    | nil => exact absurd hl (by simp)
    | cons y ys =>
      rw [List.getLastD_cons, List.getLast?_eq_getElem?.symm]
      simp [List.getLast?_cons]
  · rw [deskDone_same (fun h9 => h0 h9.2) (fun h9 => by rw [hm5] at h9; exact absurd h9.1 (by simp))]
    refine putBack_no s v zs n w h (by omega) ?_
    rcases Decidable.em (n = 0) with rfl | hn
    · exact .inr ⟨rfl, by have : ¬ 0 < zs.length := fun h9 => h0 ⟨rfl, h9⟩; omega⟩
    · exact .inl (bne_iff_ne.2 hn)

set_option maxRecDepth 100000 in
set_option maxHeartbeats 1600000 in
theorem doI_back (s : ByteArray) (a : Option Addr) (c L : Nat) (zs : List ByteArray) (n : Int) (w : World) (h : PastAt w (.slice a L c) zs) (hok : Hid (deskOk s zs = true)) :
    Calls Tryz.prog 45 #[.agg #[.string s, .slice a L c], .agg #[.int .i64 5, .int .i64 n]] w (DeskOut w (deskDone s zs 5 n).1 (deskDone s zs 5 n).2.1 (deskDone s zs 5 n).2.2) := by
  obtain ⟨hbx, hb, hsz⟩ := boxes_start w s (.slice a L c) 5 n
  obtain ⟨W, hW⟩ : ∃ W, boxWorld w s (.slice a L c) 5 n = W := ⟨_, rfl⟩
  rw [hW] at hbx hb hsz
  obtain ⟨h1, h8, h2⟩ := deskOk_parts hok.out
  have hs := ok_size h1
  have hdk := deskOk_namedI s (.slice a L c) zs W (h.strs.below' hb) (by omega) (by omega) (fun z hz => by have := ok_size (h2 z hz); omega) true hok.out
  have hpb := fun W1 (hb1 : Below W.heap.size W W1) => putBack_any s (.slice a L c) zs n W1 ((h.below hb).below hb1) hok.out
  obtain ⟨x, hx⟩ : ∃ x, (deskDone s zs 5 n).1 = x := ⟨_, rfl⟩
  obtain ⟨ys, hy⟩ : ∃ x, (deskDone s zs 5 n).2.1 = x := ⟨_, rfl⟩
  obtain ⟨t, ht⟩ : ∃ x, (deskDone s zs 5 n).2.2 = x := ⟨_, rfl⟩
  rw [hx, hy, ht] at hpb ⊢
  obtain ⟨⟨d0, d1⟩, ho⟩ := hbx.cells
  clear ho
  have HDK := Lib.hid hdk
  have HPB := Lib.hid hpb
  have HBX := Lib.hid hbx
  unfold boxWorld at hW
  have HW := Lib.hid hW
  clear hdk hbx hW h hpb hx hy ht h8 h2 h1 hs
  go_enter Tryz.func45, Tryz.ntmps45
  go_wp2_with fail
  rw [HW.out]
  go_wp2_with (first
    | (go_at_call 27; refine HDK.out.mono ?_; rintro e w1 ⟨rfl, hb1⟩; have hbx1 := HBX.out.below hb1; obtain ⟨⟨e0, e1⟩, ⟨k0, k1⟩, ho⟩ := hbx1.cells; clear ho; have BX1 := Lib.hid hbx1; clear hbx1)
    | (go_at_call 86; refine (HPB.out w1 hb1).mono ?_; rintro e w2 ⟨v2, rfl, hp2, hf2, hb2⟩; obtain ⟨a2, c2, hv2⟩ := past_value hp2; subst hv2; have hbx2 := BX1.out.below hb2; have r0 := cell_of_row _ _ 0 _ _ _ hbx2.r; have r1 := cell_of_row _ _ 1 _ _ _ hbx2.r; have f0 := frozen_of_row _ _ 0 _ _ hbx2.r; have f1 := frozen_of_row _ _ 1 _ _ hbx2.r; have q := pair_put hbx2.r (.string x) (.slice a2 ys.length c2); have q0 := cell_of_row _ _ 0 _ _ _ q; have q1 := cell_of_row _ _ 1 _ _ _ q; have HP2 := Lib.hid hp2; clear hbx2 q hp2))
  have hb3 : Below w.heap.size w w2 := (hb.trans (hb1.mono hb.size)).trans (hb2.mono (by have := hb.size; have := hb1.size; omega))
  have hne3 : (Value.slice a2 ys.length c2).ownBlock ≠ some (w.heap.size + 1 + 1) := by
    intro e
    have := hf2 _ e
    have := hb1.size
    omega
  refine bodyPost_ret (v := .tuple #[.agg #[.string x, .slice a2 ys.length c2], .bool t]) (by simp [results, Tryz.results45, go_sem, q0, q1]) rfl ⟨_, rfl, ?_, ?_, ?_⟩
  · exact past_put (past_put HP2.out _ _ hne3) _ _ hne3
  · intro b e
    have := hf2 b e
    have := hb1.size
    omega
  · exact (hb3.setCell (by show w.heap.size ≤ w.heap.size + 1 + 1; omega) _).setCell (by show w.heap.size ≤ w.heap.size + 1 + 1; omega) _

set_option maxRecDepth 100000 in
set_option maxHeartbeats 1600000 in
theorem doI_same (s : ByteArray) (a : Option Addr) (c L : Nat) (zs : List ByteArray) (k n : Int) (w : World) (h : PastAt w (.slice a L c) zs) (HL : Hid (zs.length = L)) (hok : Hid (deskOk s zs = true)) (hk : (k == 5) = false)
    (x : ByteArray) (t : Bool) (hno : t = false ∨ (t = true ∧ (x.toList == s.toList) = true)) (haf : Hid (∀ (u : Value) (W : World), WaysAt W → DirsAt W → Calls Tryz.prog 87 #[.agg #[.string s, u], .agg #[.int .i64 k, .int .i64 n]] W fun e w' => e = .returned (.tuple #[.string x, .bool t]) ∧ Below W.heap.size W w')) (hw : WaysAt w) (hd : DirsAt w) :
    Calls Tryz.prog 45 #[.agg #[.string s, .slice a L c], .agg #[.int .i64 k, .int .i64 n]] w (DeskOut w s zs false) := by
  obtain ⟨hbx, hb, hsz⟩ := boxes_start w s (.slice a L c) k n
  obtain ⟨W, hW⟩ : ∃ W, boxWorld w s (.slice a L c) k n = W := ⟨_, rfl⟩
  rw [hW] at hbx hb hsz
  obtain ⟨h1, h8, h2⟩ := deskOk_parts hok.out
  have hs := ok_size h1
  rw [HL.out] at h8
  have hdk := deskOk_namedI s (.slice a L c) zs W (h.strs.below' hb) (by omega) (by rw [HL.out]; omega) (fun z hz => by have := ok_size (h2 z hz); omega) true hok.out
  have hpw := h.below hb
  have hww := hw.below' hb
  have hdw := hd.below' hb
  obtain ⟨⟨d0, d1⟩, ho⟩ := hbx.cells
  clear ho
  have HDK := Lib.hid hdk
  have HPW := Lib.hid hpw
  have HWW := Lib.hid hww
  have HDW := Lib.hid hdw
  have HBX := Lib.hid hbx
  unfold boxWorld at hW
  have HW := Lib.hid hW
  clear hdk hbx hW h hpw hww hdw h2 h1 hw hd
  have hcp := fun W1 (hp : PastAt W1 (.slice a L c) zs) => copied_any s (.slice a L c) zs W1 hp (by rw [HL.out]; omega)
  rw [HL.out] at hcp
  have HCP := Lib.hid hcp
  clear hcp
  rcases hno with rfl | ⟨rfl, hxs⟩
  all_goals
    go_enter Tryz.func45, Tryz.ntmps45
    go_wp2_with fail
    rw [HW.out]
    go_wp2_with (first
      | (go_at_call 27; refine HDK.out.mono ?_; rintro e w1 ⟨rfl, hb1⟩; have hbx1 := HBX.out.below hb1; obtain ⟨⟨e0, e1⟩, ⟨k0, k1⟩, ho⟩ := hbx1.cells; clear ho; have BX1 := Lib.hid hbx1; have PW1 := Lib.hid (HPW.out.below hb1); have WW1 := Lib.hid (HWW.out.below' hb1); have DW1 := Lib.hid (HDW.out.below' hb1); have hs1 := hb1.size; clear hbx1)
      | (go_at_call 87; refine (haf.out _ w1 WW1.out DW1.out).mono ?_; rintro e w2 ⟨rfl, hb2⟩; have hbx2 := BX1.out.below hb2; obtain ⟨⟨g0, g1⟩, ho, ⟨x0, x1⟩, xf0, xf1⟩ := hbx2.cells; clear ho; have BX2 := Lib.hid hbx2; have PW2 := Lib.hid (PW1.out.below hb2); have hs2 := hb2.size; clear hbx2)
      | (go_at_call 39; refine (HCP.out w2 PW2.out).mono ?_; rintro e w3 ⟨a3, c3, rfl, hp3, hf3, hb3⟩; have hbx3 := BX2.out.below hb3; have r0 := cell_of_row _ _ 0 _ _ _ hbx3.r; have r1 := cell_of_row _ _ 1 _ _ _ hbx3.r; have f0 := frozen_of_row _ _ 0 _ _ hbx3.r; have f1 := frozen_of_row _ _ 1 _ _ hbx3.r; have q := pair_put hbx3.r (.string s) (.slice a3 L c3); have q0 := cell_of_row _ _ 0 _ _ _ q; have q1 := cell_of_row _ _ 1 _ _ _ q; have HP3 := Lib.hid hp3; clear hbx3 q hp3))
    have hb4 : Below w.heap.size w w3 := ((hb.trans (hb1.mono hb.size)).trans (hb2.mono (by omega))).trans (hb3.mono (by omega))
    have hne3 : (Value.slice a3 L c3).ownBlock ≠ some (w.heap.size + 1 + 1) := by
      intro e
      have := hf3 _ e
      omega
    refine bodyPost_ret (v := .tuple #[.agg #[.string s, .slice a3 L c3], .bool false]) (by simp [results, Tryz.results45, go_sem, q0, q1]) rfl ⟨_, rfl, ?_, ?_, ?_⟩
    · exact past_put (past_put HP3.out _ _ hne3) _ _ hne3
    · intro b e
      have := hf3 b e
      omega
    · exact (hb4.setCell (by show w.heap.size ≤ w.heap.size + 1 + 1; omega) _).setCell (by show w.heap.size ≤ w.heap.size + 1 + 1; omega) _

set_option maxRecDepth 100000 in
set_option maxHeartbeats 1600000 in
theorem doI_few (s : ByteArray) (a : Option Addr) (c L : Nat) (zs : List ByteArray) (k n : Int) (w : World) (h : PastAt w (.slice a L c) zs) (HL : Hid (zs.length = L)) (hok : Hid (deskOk s zs = true)) (hk : (k == 5) = false)
    (x : ByteArray) (haf : Hid (∀ (u : Value) (W : World), WaysAt W → DirsAt W → Calls Tryz.prog 87 #[.agg #[.string s, u], .agg #[.int .i64 k, .int .i64 n]] W fun e w' => e = .returned (.tuple #[.string x, .bool true]) ∧ Below W.heap.size W w')) (hw : WaysAt w) (hd : DirsAt w) (hx : (x.toList == s.toList) = false) (hL : L < 8) :
    Calls Tryz.prog 45 #[.agg #[.string s, .slice a L c], .agg #[.int .i64 k, .int .i64 n]] w (DeskOut w x (zs ++ [s]) true) := by
  obtain ⟨hbx, hb, hsz⟩ := boxes_start w s (.slice a L c) k n
  obtain ⟨W, hW⟩ : ∃ W, boxWorld w s (.slice a L c) k n = W := ⟨_, rfl⟩
  rw [hW] at hbx hb hsz
  obtain ⟨h1, h8, h2⟩ := deskOk_parts hok.out
  have hs := ok_size h1
  rw [HL.out] at h8
  have hdk := deskOk_namedI s (.slice a L c) zs W (h.strs.below' hb) (by omega) (by rw [HL.out]; omega) (fun z hz => by have := ok_size (h2 z hz); omega) true hok.out
  have hpw := h.below hb
  have hww := hw.below' hb
  have hdw := hd.below' hb
  obtain ⟨⟨d0, d1⟩, ho⟩ := hbx.cells
  clear ho
  have HDK := Lib.hid hdk
  have HPW := Lib.hid hpw
  have HWW := Lib.hid hww
  have HDW := Lib.hid hdw
  have HBX := Lib.hid hbx
  unfold boxWorld at hW
  have HW := Lib.hid hW
  clear hdk hbx hW h hpw hww hdw h2 h1 hw hd
  obtain ⟨i0, hi0, hz0, hz1, hz2⟩ := info_parts stringInfo
  have hmax : max ((L : Int) + 1 - 8) 0 = 0 := by omega
  go_enter Tryz.func45, Tryz.ntmps45
  go_wp2_with fail
  rw [HW.out]
  go_wp2_with (first
    | (go_at_call 27; refine HDK.out.mono ?_; rintro e w1 ⟨rfl, hb1⟩; have hbx1 := HBX.out.below hb1; obtain ⟨⟨e0, e1⟩, ⟨k0, k1⟩, ho⟩ := hbx1.cells; clear ho; have BX1 := Lib.hid hbx1; have PW1 := Lib.hid (HPW.out.below hb1); have WW1 := Lib.hid (HWW.out.below' hb1); have DW1 := Lib.hid (HDW.out.below' hb1); have hs1 := hb1.size; clear hbx1)
    | (go_at_call 87; refine (haf.out _ w1 WW1.out DW1.out).mono ?_; rintro e w2 ⟨rfl, hb2⟩; have hbx2 := BX1.out.below hb2; obtain ⟨⟨g0, g1⟩, ho, ⟨x0, x1⟩, xf0, xf1⟩ := hbx2.cells; clear ho; have BX2 := Lib.hid hbx2; have PW2 := Lib.hid (PW1.out.below hb2); have hs2 := hb2.size; clear hbx2)
    | (at_make; refine wpList_make_own _ rfl _ _ 22 rfl w2.heap.size 9 i0 _ 1 Tryz.underlying22 hi0 hz0 hz1 .i64 .i64 _ (L + 1) rfl rfl rfl (by rw [hz2]; omega) (by unfold maxLen; omega) (Nat.le_refl _) ?_; intro w3 hown3 hg3; have hb3 : Below w2.heap.size w2 w3 := (Below.refl _ _).grown hg3 (Nat.le_refl _) (fun j hj => by cases hj); have hsrc := src_of (PW2.out.below hb3).strs; rw [HL.out] at hsrc; obtain ⟨⟨j0, j1⟩, ho⟩ := (BX2.out.below hb3).cells; clear ho; have OWN3 := Lib.hid hown3; have SRC := Lib.hid hsrc; have hs3 := hb3.size; clear hown3 hsrc hg3)
    | (at_builtin; refine wpList_append_src _ rfl (.tmp 44) (.tmp 46) 22 rfl w2.heap.size 9 i0 _ 1 16 Tryz.underlying22 hi0 hz0 hz1 hz2 rfl (by omega) (.slice (some ⟨w2.heap.size, 0, none⟩) 0 (L + 1)) 0 [] rfl OWN3.out (fun h9 => by cases h9) _ L (strVals zs) rfl SRC.out (one_strs zs) (by unfold maxLen; omega) (by omega) (by omega) ?_; intro v4 w4 hown4 hgrow4 hne4; have hb4 : Below w2.heap.size w2 w4 := hb3.grown hgrow4 hb3.size (fun j hj => by have h9 : w2.heap.size = j := Option.some.inj hj; omega); simp only [Nat.zero_add, List.nil_append] at hown4; obtain ⟨g4, cap4, rfl⟩ := own_slice hown4 hne4; have hbx4 := BX2.out.below hb4; obtain ⟨⟨l0, l1⟩, ho⟩ := hbx4.cells; clear ho; have hg4 := hown4.lt g4 rfl; have OWN4 := Lib.hid hown4; have BX4 := Lib.hid hbx4; have hs4 := hb4.size; clear hown4 hbx4 hgrow4 hne4)
    | (at_builtin; refine wpList_append_lies _ rfl (.tmp 48) (.tmp 51) 22 rfl w2.heap.size 9 i0 _ 1 16 Tryz.underlying22 hi0 hz0 hz1 hz2 rfl (by omega) _ L _ rfl (OWN4.out.alloc _) ⟨w4.heap.size, 0, none⟩ 1 1 [.string s] rfl rfl (World.news_of_block (cs := #[.string s]) (t := 9) (fr := (0, 0)) (heap_alloc_new w4 _)) (by simp [Value.oneCell']) (by omega) (by unfold maxLen; omega) (by omega) (by simp; omega) (w4.heap.size + 1) (by simp) ?_; intro g5 cap5 w5 hown5 hgrow5 hat5 hlt5; have hb5 : Below w2.heap.size w2 w5 := (hb4.alloc hb4.size _).grown hgrow5 (by simp; omega) (fun j hj => by have h9 : g4 = j := Option.some.inj hj; omega); have hbx5 := BX2.out.below hb5; obtain ⟨ho, ho2, ⟨t0, t1⟩, tf0, tf1⟩ := hbx5.cells; clear ho ho2; have hc5 := own_le hown5; have q := pair_put hbx5.r (.string x) (Value.slice (some ⟨g5, 0, none⟩) (L + 1) cap5); have q0 := cell_of_row _ _ 0 _ _ _ q; have q1 := cell_of_row _ _ 1 _ _ _ q; have OWN5 := Lib.hid hown5; have hs5 := hb5.size; clear hown5 hbx5 q hgrow5))
  have hg5 : w2.heap.size ≤ g5 := by
    rcases hat5 with h9 | h9
    · have h9 : g4 = g5 := Option.some.inj h9
      omega
    · omega
  have hp5 : PastAt w5 (.slice (some ⟨g5, 0, none⟩) (L + 1) cap5) (zs ++ [s]) := by
    have e1 : strVals (zs ++ [s]) = strVals zs ++ [.string s] := by unfold strVals; rw [List.map_append]; rfl
    have e2 : (zs ++ [s]).length = L + 1 := by rw [List.length_append, HL.out]; rfl
    exact past_own (v := .slice (some ⟨g5, 0, none⟩) (L + 1) cap5) (ys := zs ++ [s]) (w := w5) (base := w2.heap.size) (by rw [e1, e2]; exact OWN5.out)
  have hb6 : Below w.heap.size w w5 := ((hb.trans (hb1.mono hb.size)).trans (hb2.mono (by omega))).trans (hb5.mono (by omega))
  have hne3 : (Value.slice (some ⟨g5, 0, none⟩) (L + 1) cap5).ownBlock ≠ some (w.heap.size + 1 + 1) := by
    intro e
    have h9 : g5 = w.heap.size + 1 + 1 := Option.some.inj e
    omega
  refine bodyPost_ret (v := .tuple #[.agg #[.string x, Value.slice (some ⟨g5, 0, none⟩) (L + 1) cap5], .bool true]) (by simp [results, Tryz.results45, go_sem, q0, q1]) rfl ⟨_, rfl, ?_, Fresh.slice (by omega), ?_⟩
  · exact past_put (past_put (hp5) _ _ hne3) _ _ hne3
  · exact (hb6.setCell (by show w.heap.size ≤ w.heap.size + 1 + 1; omega) _).setCell (by show w.heap.size ≤ w.heap.size + 1 + 1; omega) _

set_option maxRecDepth 100000 in
set_option maxHeartbeats 1600000 in
theorem doI_full (s : ByteArray) (a : Option Addr) (c L : Nat) (zs : List ByteArray) (k n : Int) (w : World) (h : PastAt w (.slice a L c) zs) (HL : Hid (zs.length = L)) (hok : Hid (deskOk s zs = true)) (hk : (k == 5) = false)
    (x : ByteArray) (haf : Hid (∀ (u : Value) (W : World), WaysAt W → DirsAt W → Calls Tryz.prog 87 #[.agg #[.string s, u], .agg #[.int .i64 k, .int .i64 n]] W fun e w' => e = .returned (.tuple #[.string x, .bool true]) ∧ Below W.heap.size W w')) (hw : WaysAt w) (hd : DirsAt w) (hx : (x.toList == s.toList) = false) (hL : L = 8) :
    Calls Tryz.prog 45 #[.agg #[.string s, .slice a L c], .agg #[.int .i64 k, .int .i64 n]] w (DeskOut w x ((zs ++ [s]).drop 1) true) := by
  obtain ⟨hbx, hb, hsz⟩ := boxes_start w s (.slice a L c) k n
  obtain ⟨W, hW⟩ : ∃ W, boxWorld w s (.slice a L c) k n = W := ⟨_, rfl⟩
  rw [hW] at hbx hb hsz
  obtain ⟨h1, h8, h2⟩ := deskOk_parts hok.out
  have hs := ok_size h1
  rw [HL.out] at h8
  have hdk := deskOk_namedI s (.slice a L c) zs W (h.strs.below' hb) (by omega) (by rw [HL.out]; omega) (fun z hz => by have := ok_size (h2 z hz); omega) true hok.out
  have hpw := h.below hb
  have hww := hw.below' hb
  have hdw := hd.below' hb
  obtain ⟨⟨d0, d1⟩, ho⟩ := hbx.cells
  clear ho
  have HDK := Lib.hid hdk
  have HPW := Lib.hid hpw
  have HWW := Lib.hid hww
  have HDW := Lib.hid hdw
  have HBX := Lib.hid hbx
  unfold boxWorld at hW
  have HW := Lib.hid hW
  clear hdk hbx hW h hpw hww hdw h2 h1 hw hd
  obtain ⟨i0, hi0, hz0, hz1, hz2⟩ := info_parts stringInfo
  subst hL
  have hmax : max (1 : Int) 0 = 1 := rfl
  go_enter Tryz.func45, Tryz.ntmps45
  go_wp2_with fail
  rw [HW.out]
  go_wp2_with (first
    | (go_at_call 27; refine HDK.out.mono ?_; rintro e w1 ⟨rfl, hb1⟩; have hbx1 := HBX.out.below hb1; obtain ⟨⟨e0, e1⟩, ⟨k0, k1⟩, ho⟩ := hbx1.cells; clear ho; have BX1 := Lib.hid hbx1; have PW1 := Lib.hid (HPW.out.below hb1); have WW1 := Lib.hid (HWW.out.below' hb1); have DW1 := Lib.hid (HDW.out.below' hb1); have hs1 := hb1.size; clear hbx1)
    | (go_at_call 87; refine (haf.out _ w1 WW1.out DW1.out).mono ?_; rintro e w2 ⟨rfl, hb2⟩; have hbx2 := BX1.out.below hb2; obtain ⟨⟨g0, g1⟩, ho, ⟨x0, x1⟩, xf0, xf1⟩ := hbx2.cells; clear ho; have BX2 := Lib.hid hbx2; have PW2 := Lib.hid (PW1.out.below hb2); have hs2 := hb2.size; clear hbx2)
    | (at_make; refine wpList_make_own _ rfl _ _ 22 rfl w2.heap.size 9 i0 _ 1 Tryz.underlying22 hi0 hz0 hz1 .i64 .i64 _ (8 + 1) rfl rfl rfl (by rw [hz2]; omega) (by unfold maxLen; omega) (Nat.le_refl _) ?_; intro w3 hown3 hg3; have hb3 : Below w2.heap.size w2 w3 := (Below.refl _ _).grown hg3 (Nat.le_refl _) (fun j hj => by cases hj); have hsrc := src_of (PW2.out.below hb3).strs; rw [HL.out] at hsrc; obtain ⟨⟨j0, j1⟩, ho⟩ := (BX2.out.below hb3).cells; clear ho; have OWN3 := Lib.hid hown3; have SRC := Lib.hid hsrc; have hs3 := hb3.size; clear hown3 hsrc hg3)
    | (at_builtin; refine wpList_append_src _ rfl (.tmp 44) (.tmp 46) 22 rfl w2.heap.size 9 i0 _ 1 16 Tryz.underlying22 hi0 hz0 hz1 hz2 rfl (by omega) (.slice (some ⟨w2.heap.size, 0, none⟩) 0 (8 + 1)) 0 [] rfl OWN3.out (fun h9 => by cases h9) _ 8 (strVals zs) rfl SRC.out (one_strs zs) (by unfold maxLen; omega) (by omega) (by omega) ?_; intro v4 w4 hown4 hgrow4 hne4; have hb4 : Below w2.heap.size w2 w4 := hb3.grown hgrow4 hb3.size (fun j hj => by have h9 : w2.heap.size = j := Option.some.inj hj; omega); simp only [Nat.zero_add, List.nil_append] at hown4; obtain ⟨g4, cap4, rfl⟩ := own_slice hown4 hne4; have hbx4 := BX2.out.below hb4; obtain ⟨⟨l0, l1⟩, ho⟩ := hbx4.cells; clear ho; have hg4 := hown4.lt g4 rfl; have OWN4 := Lib.hid hown4; have BX4 := Lib.hid hbx4; have hs4 := hb4.size; clear hown4 hbx4 hgrow4 hne4)
    | (at_builtin; refine wpList_append_lies _ rfl (.tmp 48) (.tmp 51) 22 rfl w2.heap.size 9 i0 _ 1 16 Tryz.underlying22 hi0 hz0 hz1 hz2 rfl (by omega) _ 8 _ rfl (OWN4.out.alloc _) ⟨w4.heap.size, 0, none⟩ 1 1 [.string s] rfl rfl (World.news_of_block (cs := #[.string s]) (t := 9) (fr := (0, 0)) (heap_alloc_new w4 _)) (by simp [Value.oneCell']) (by omega) (by unfold maxLen; omega) (by omega) (by simp; omega) (w4.heap.size + 1) (by simp) ?_; intro g5 cap5 w5 hown5 hgrow5 hat5 hlt5; have hb5 : Below w2.heap.size w2 w5 := (hb4.alloc hb4.size _).grown hgrow5 (by simp; omega) (fun j hj => by have h9 : g4 = j := Option.some.inj hj; omega); have hbx5 := BX2.out.below hb5; obtain ⟨ho, ho2, ⟨t0, t1⟩, tf0, tf1⟩ := hbx5.cells; clear ho ho2; have hc5 := own_le hown5; have q := pair_put hbx5.r (.string x) (Value.slice (some ⟨g5, 1, none⟩) 8 (cap5 - 1)); have q0 := cell_of_row _ _ 0 _ _ _ q; have q1 := cell_of_row _ _ 1 _ _ _ q; have OWN5 := Lib.hid hown5; have hs5 := hb5.size; clear hown5 hbx5 q hgrow5))
  have hg5 : w2.heap.size ≤ g5 := by
    rcases hat5 with h9 | h9
    · have h9 : g4 = g5 := Option.some.inj h9
      omega
    · omega
  have hp5 : PastAt w5 (.slice (some ⟨g5, 0, none⟩) (8 + 1) cap5) (zs ++ [s]) := by
    have e1 : strVals (zs ++ [s]) = strVals zs ++ [.string s] := by unfold strVals; rw [List.map_append]; rfl
    have e2 : (zs ++ [s]).length = 8 + 1 := by rw [List.length_append, HL.out]; rfl
    exact past_own (v := .slice (some ⟨g5, 0, none⟩) (8 + 1) cap5) (ys := zs ++ [s]) (w := w5) (base := w2.heap.size) (by rw [e1, e2]; exact OWN5.out)
  have hb6 : Below w.heap.size w w5 := ((hb.trans (hb1.mono hb.size)).trans (hb2.mono (by omega))).trans (hb5.mono (by omega))
  have hne3 : (Value.slice (some ⟨g5, 1, none⟩) 8 (cap5 - 1)).ownBlock ≠ some (w.heap.size + 1 + 1) := by
    intro e
    have h9 : g5 = w.heap.size + 1 + 1 := Option.some.inj e
    omega
  refine bodyPost_ret (v := .tuple #[.agg #[.string x, Value.slice (some ⟨g5, 1, none⟩) 8 (cap5 - 1)], .bool true]) (by simp [results, Tryz.results45, go_sem, q0, q1]) rfl ⟨_, rfl, ?_, Fresh.slice (by omega), ?_⟩
  · exact past_put (past_put (past_drop hp5 (by rw [List.length_append, HL.out]; rfl)) _ _ hne3) _ _ hne3
  · exact (hb6.setCell (by show w.heap.size ≤ w.heap.size + 1 + 1; omega) _).setCell (by show w.heap.size ≤ w.heap.size + 1 + 1; omega) _

theorem aft_call (s : ByteArray) (k n : Int) (hok : Tw.walkOk s.data.toList = true) (x : ByteArray) (t : Bool) (h : aft s k n = (x, t)) (u : Value) (W : World) (hw : WaysAt W) (hd : DirsAt W) :
    Calls Tryz.prog 87 #[.agg #[.string s, u], .agg #[.int .i64 k, .int .i64 n]] W fun e w' => e = .returned (.tuple #[.string x, .bool t]) ∧ Below W.heap.size W w' := by
  refine (after_any s u k n W (by have := ok_size hok; omega) hw hd hok).mono ?_
  rintro e w' ⟨he, _, hb⟩
  rw [h] at he
  exact ⟨he, hb⟩
theorem aft_is (s : ByteArray) (k n : Int) (hok : Tw.walkOk s.data.toList = true) : AfterOk s k n (aft s k n).1 (aft s k n).2 := by
  rcases Decidable.em (k = 0) with rfl | h0
  · show AfterOk s 0 n (aftStep s n).1 (aftStep s n).2
    unfold aftStep
    split
    · rename_i h
      exact after_made (by show madeStep s n = _; unfold madeStep; rw [if_pos h])
    · rename_i h
      exact after_not (by show (madeStep s n).2 = _; unfold madeStep; rw [if_neg h])
  rcases Decidable.em (k = 1) with rfl | h1
  · show AfterOk s 1 n (aftDrop s n).1 (aftDrop s n).2
    unfold aftDrop
    split
    · rename_i h
      exact after_made (by show madeDrop s n = _; unfold madeDrop; rw [if_pos h])
    · rename_i h
      exact after_not (by show (madeDrop s n).2 = _; unfold madeDrop; rw [if_neg h])
  rcases Decidable.em (k = 2) with rfl | h2
  · exact after_way hok
  rcases Decidable.em (k = 3) with rfl | h3
  · exact after_on
  rcases Decidable.em (k = 4) with rfl | h4
  · show AfterOk s 4 n (aftFirst s n).1 (aftFirst s n).2
    unfold aftFirst
    split
    · rename_i h
      exact after_made (by show madeFirst s n = _; unfold madeFirst; rw [if_pos h])
    · rename_i h
      exact after_not (by show (madeFirst s n).2 = _; unfold madeFirst; rw [if_neg h])
  have e : aft s k n = (⟨#[]⟩, false) := by unfold aft; rw [if_neg h0, if_neg h1, if_neg h2, if_neg h3, if_neg h4]
  rw [e]
  exact after_not (by unfold made; rw [if_neg h0, if_neg h1, if_neg h2, if_neg h3, if_neg h4])
theorem implDeskDone (s : ByteArray) (v : Value) (zs : List ByteArray) (k n : Int) (w : World) (h : PastAt w v zs) (hok : deskOk s zs = true) (hw : WaysAt w) (hd : DirsAt w) :
    Calls Tryz.prog 45 #[.agg #[.string s, v], .agg #[.int .i64 k, .int .i64 n]] w (DeskOut w (deskDone s zs k n).1 (deskDone s zs k n).2.1 (deskDone s zs k n).2.2) := by
  obtain ⟨h1, h8, _⟩ := deskOk_parts hok
  obtain ⟨a, c, rfl⟩ := past_value h
  rcases Decidable.em (k = 5) with rfl | hk
  · exact doI_back s a c zs.length zs n w h (Lib.hid hok)
  · have hk5 := beq_false_of_ne hk
    have hc := fun u W hw hd => aft_call s k n h1 (aft s k n).1 (aft s k n).2 rfl u W hw hd
    rcases aft_is s k n h1 with ⟨ht, hx, hm⟩ | ⟨hno, hm⟩
    · rw [ht] at hc
      rw [deskDone_made hk hm hx]
      have hx2 : ((aft s k n).1.toList == s.toList) = false := (eq_bytes _ _).trans (decide_eq_false hx)
      rcases Nat.lt_or_ge zs.length 8 with hl | hl
      · rw [show zs.length + 1 - 8 = 0 by omega]
        exact doI_few s a c zs.length zs k n w h (Lib.hid rfl) (Lib.hid hok) hk5 _ (Lib.hid hc) hw hd hx2 hl
      · rw [show zs.length + 1 - 8 = 1 by omega]
        exact doI_full s a c zs.length zs k n w h (Lib.hid rfl) (Lib.hid hok) hk5 _ (Lib.hid hc) hw hd hx2 (by omega)
    · rw [deskDone_same (fun h9 => hk h9.1) hm]
      refine doI_same s a c zs.length zs k n w h (Lib.hid rfl) (Lib.hid hok) hk5 _ _ ?_ (Lib.hid hc) hw hd
      cases hb : (aft s k n).2
      · exact .inl rfl
      · refine .inr ⟨rfl, (eq_bytes _ _).trans (decide_eq_true ?_)⟩
        rcases hno with h9 | h9
        · rw [hb] at h9
          cases h9
        · exact h9
theorem implDeskDo (s : ByteArray) (v : Value) (zs : List ByteArray) (k n : Int) (w : World) (h : PastAt w v zs) (hs : s.size ≤ 1048576) (hn : zs.length ≤ 1048576) (hz : ∀ z ∈ zs, z.size ≤ 1048576) (hw : WaysAt w) (hd : DirsAt w) :
    Calls Tryz.prog 45 #[.agg #[.string s, v], .agg #[.int .i64 k, .int .i64 n]] w (DeskOut w (deskDo s zs k n).1 (deskDo s zs k n).2.1 (deskDo s zs k n).2.2) := by
  unfold deskDo
  split
  · rename_i hok
    exact implDeskDone s v zs k n w h hok hw hd
  · rename_i hok
    exact doI_none s v zs k n w h.strs hs hn hz (by simpa using hok)

end Go.Proofs.YtccdfndnjjjgfaaGreatDoor
