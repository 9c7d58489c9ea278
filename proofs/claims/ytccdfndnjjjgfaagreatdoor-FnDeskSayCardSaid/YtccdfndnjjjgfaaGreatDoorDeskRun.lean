/-
  Contracts of DeskRun (both). Condition: a desk and deeds as Go's ints and short texts hold them.
-/
import Derived.Test.YtccdfndnjjjgfaaGreatDoorExt
import Derived.Test.YtccdfndnjjjgfaaGreatDoorDeskDoImpl
import Derived.Test.YtccdfndnjjjgfaaGreatDoorDeeds
import Derived.Deep.RegionHeld3
namespace Go.Proofs.YtccdfndnjjjgfaaGreatDoor
open Go.RowKit

theorem deeds_parts {w : World} {u : Value} {ds : List (Int × Int)} (h : DeedsAt w u ds) : ∃ a c, u = .slice a ds.length c ∧ ds.length ≤ c ∧ ∀ (j : Nat) (d : Int × Int), ds[j]? = some d → ∃ b, a = some b ∧ w.cell? (b.add (j * 2)) = some (.int .i64 d.1) ∧ w.cell? ⟨(b.add (j * 2)).block, (b.add (j * 2)).off + 1, none⟩ = some (.int .i64 d.2) := by
  rcases h with ⟨rfl, rfl⟩ | ⟨a, cap, rfl, hl, hc⟩
  · exact ⟨none, 0, rfl, Nat.le_refl _, fun j d h => by simp at h⟩
  · exact ⟨some a, cap, rfl, hl, fun j d h => ⟨a, rfl, hc j d h⟩⟩
def RunOut (w : World) (r : (ByteArray × List ByteArray) × Nat) (e : Ending) (w' : World) : Prop := ∃ v', e = .returned (.tuple #[.agg #[.string r.1.1, v'], .int .i64 (r.2 : Int)]) ∧ PastAt w' v' r.1.2 ∧ Fresh w.heap.size v' ∧ Below w.heap.size w w'
theorem run_few {s : ByteArray} {zs : List ByteArray} (h : deskOk s zs = true) : ∀ (ds : List (Int × Int)), deskOk (runTo s zs ds).1.1 (runTo s zs ds).1.2 = true ∧ (runTo s zs ds).2 ≤ ds.length := by
  have gen : ∀ (ds : List (Int × Int)) (st : (ByteArray × List ByteArray) × Nat), deskOk st.1.1 st.1.2 = true → deskOk (ds.foldl runStep st).1.1 (ds.foldl runStep st).1.2 = true ∧ (ds.foldl runStep st).2 ≤ st.2 + ds.length := by
    intro ds
    induction ds with
    | nil => intro st hst; exact ⟨hst, Nat.le_refl _⟩
    | cons d ds ih =>
      intro st hst
      have h1 := runStep_ok hst d
      have h2 := ih _ h1.1
      rw [List.foldl_cons]
      refine ⟨h2.1, ?_⟩
      have h3 := h2.2
      have h4 := h1.2
      rw [List.length_cons]
      omega
  intro ds
  have := gen ds ((s, zs), 0) h
  unfold runTo
  simpa using this

theorem BoxB.two {A B C D : Nat} {W0 X : World} {N O : Nat} {x x' : ByteArray} {v v' : Value} {ys ys' : List ByteArray} (_ : BoxB A B X N x v ys) (h : BoxB C D W0 O x' v' ys') (k : Ext W0 X) : BoxB C D X O x' v' ys' := h.ext k
def deskBox2 (w : World) (s : ByteArray) (v : Value) : World := (w.alloc (.cells #[.string s, v] 27)).alloc (.cells #[.string ⟨#[]⟩, .slice none 0 0] 27)
theorem desk2_in (w : World) (s : ByteArray) (v : Value) : Ext w (deskBox2 w s v) ∧ (deskBox2 w s v).heap.size = w.heap.size + 2 ∧ (deskBox2 w s v).heap[w.heap.size]? = some (.cells #[.string s, v] 27 (0, 0)) ∧ (deskBox2 w s v).heap[w.heap.size + 1]? = some (.cells #[.string ⟨#[]⟩, .slice none 0 0] 27 (0, 0)) := by
  unfold deskBox2
  exact ⟨((Ext.refl w).alloc _).alloc _, by simp, heap_alloc2_old _ _ _, heap_alloc2_new _ _ _⟩
/-- A result is stored. -/
theorem run_done {w X : World} {R : Nat} {x : ByteArray} {v : Value} {ys : List ByteArray} {m : Nat} {r : (ByteArray × List ByteArray) × Nat} (e : Ext w X) (hp : PastAt X v ys) (hf : Fresh w.heap.size v) (hne : v.ownBlock ≠ some R) (hR : w.heap.size ≤ R) (hr : r = ((x, ys), m)) :
    RunOut w r (.returned (.tuple #[.agg #[.string x, v], .int .i64 (m : Int)])) ((X.setCell ⟨R, 0, none⟩ (.string x)).setCell ⟨R, 1, none⟩ v) := by
  subst hr
  exact ⟨_, rfl, past_put (past_put hp _ _ hne) _ _ hne, hf, (e.setCell hR _).setCell hR _⟩

theorem Ext.setCell2 {a X : World} (h : Ext a X) {N : Nat} (hN : a.heap.size ≤ N) (u v : Value) : Ext a ((X.setCell ⟨N, 0, none⟩ u).setCell ⟨N, 1, none⟩ v) := (h.setCell hN u).setCell hN v
theorem ext_new {A B : Nat} {a X : World} {N : Nat} {x : ByteArray} {v : Value} {ys : List ByteArray} {o : Obj} (_ : BoxB A B (X.alloc o) N x v ys) (h : Ext a X) : Ext a (X.alloc o) := h.alloc o
theorem ext_set {A B : Nat} {a X : World} {N : Nat} {x : ByteArray} {v : Value} {ys : List ByteArray} {u u' : Value} (_ : BoxB A B ((X.setCell ⟨N, 0, none⟩ u).setCell ⟨N, 1, none⟩ u') N x v ys) (h : Ext a X) (hN : a.heap.size ≤ N) : Ext a ((X.setCell ⟨N, 0, none⟩ u).setCell ⟨N, 1, none⟩ u') := h.setCell2 hN u u'
theorem boxB_size {A B : Nat} {W : World} {N : Nat} {x : ByteArray} {v : Value} {ys : List ByteArray} (h : BoxB A B W N x v ys) : BoxB A W.heap.size W N x v ys := ⟨h.row, h.past, h.ne, h.ge, h.fresh, lt_at h.row, fun _ hb => past_lt h.past hb⟩
set_option maxRecDepth 100000 in
set_option maxHeartbeats 800000 in
theorem implDeskRun_no (s : ByteArray) (a : Option Addr) (c L : Nat) (zs : List ByteArray) (b : Option Addr) (cb n : Nat) (w : World) (h : StrsAt w (.slice a L c) zs) (HL : Hid (zs.length = L)) (hs : s.size ≤ 1048576) (hL : L ≤ 1048576) (hz : ∀ z ∈ zs, z.size ≤ 1048576) (hn : n ≤ 1048576) (t : Bool) (hok : deskOk s zs = t) (hno : t = false ∨ (t = true ∧ 40 < n)) :
    Calls Tryz.prog 36 #[.agg #[.string s, .slice a L c], .slice b n cb] w (RunOut w ((⟨#[]⟩, []), 0)) := by
  obtain ⟨e0, hsz, r0, r1⟩ := desk2_in w s (.slice a L c)
  obtain ⟨W, hW⟩ : ∃ W, deskBox2 w s (.slice a L c) = W := ⟨_, rfl⟩
  rw [hW] at e0 hsz r0 r1
  unfold deskBox2 at hW
  have HW := Lib.hid hW
  have HDK := Lib.hid (deskOk_namedI s (.slice a L c) zs W (e0.strs h) hs (by rw [HL.out]; exact hL) hz t hok)
  have R1 := Lib.hid r1
  have c0 := cell_of_row _ _ 0 _ _ _ r0
  have c1 := cell_of_row _ _ 1 _ _ _ r0
  clear hW r0 r1 h hok hz
  rcases hno with rfl | ⟨rfl, h40⟩
  all_goals
    go_enter Tryz.func36, Tryz.ntmps36
    go_wp2_with fail
    rw [HW.out]
    go_wp2_with (first
      | (go_at_call 27; refine HDK.out.mono ?_; rintro e w1 ⟨rfl, hb1⟩; have e1 : Ext W w1 := hb1; have hr := e1.row R1.out; have f0 := frozen_of_row _ _ 0 _ _ hr; have f1 := frozen_of_row _ _ 1 _ _ hr; have k0 := cell_of_row _ _ 0 _ _ _ hr; have k1 := cell_of_row _ _ 1 _ _ _ hr; have q := pair_put hr (.string ⟨#[]⟩) (.slice none 0 0); have q0 := cell_of_row _ _ 0 _ _ _ q; have q1 := cell_of_row _ _ 1 _ _ _ q; clear hr q hb1))
    refine bodyPost_ret (v := .tuple #[.agg #[.string ⟨#[]⟩, .slice none 0 0], .int .i64 0]) (by simp [results, Tryz.results36, go_sem, q0, q1]) rfl ?_
    exact run_done (m := 0) (e0.trans e1) (.inl ⟨rfl, rfl⟩) (Fresh.none _) (fun h9 => by cases h9) (by omega) rfl

set_option maxRecDepth 100000 in
set_option maxHeartbeats 3200000 in
theorem implDeskRun_yes (s : ByteArray) (a : Option Addr) (c L : Nat) (zs : List ByteArray) (b : Option Addr) (cb n : Nat) (w : World) (h : StrsAt w (.slice a L c) zs) (HL : Hid (zs.length = L)) (hs : s.size ≤ 1048576) (hL : L ≤ 1048576) (hz : ∀ z ∈ zs, z.size ≤ 1048576) (ds : List (Int × Int)) (HN : Hid (ds.length = n)) (hn : n ≤ 40) (hncb : n ≤ cb) (HC : Hid (∀ (j : Nat) (d : Int × Int), ds[j]? = some d → ∃ b', b = some b' ∧ w.cell? (b'.add (j * 2)) = some (.int .i64 d.1) ∧ w.cell? ⟨(b'.add (j * 2)).block, (b'.add (j * 2)).off + 1, none⟩ = some (.int .i64 d.2))) (HKN : Hid (∀ d ∈ ds, -9223372036854775808 ≤ d.2 ∧ d.2 ≤ 9223372036854775807)) (hok : Hid (deskOk s zs = true)) (hw : WaysAt w) (hd : DirsAt w) (hp : PastAt w (.slice a L c) zs) :
    Calls Tryz.prog 36 #[.agg #[.string s, .slice a L c], .slice b n cb] w (RunOut w (runTo s zs ds)) := by
  obtain ⟨e0, hsz, r0, r1⟩ := desk2_in w s (.slice a L c)
  obtain ⟨W, hW⟩ : ∃ W, deskBox2 w s (.slice a L c) = W := ⟨_, rfl⟩
  rw [hW] at e0 hsz r0 r1
  unfold deskBox2 at hW
  have HW := Lib.hid hW
  have HDK := Lib.hid (deskOk_namedI s (.slice a L c) zs W (e0.strs h) hs (by rw [HL.out]; exact hL) hz true hok.out)
  have R0 := Lib.hid r0
  have R1 := Lib.hid r1
  have c0 := cell_of_row _ _ 0 _ _ _ r0
  have c1 := cell_of_row _ _ 1 _ _ _ r0
  have HST := Lib.hid (e0.strs h)
  have PW := Lib.hid (e0.past hp)
  have WW := Lib.hid (hw.below' e0)
  have DW := Lib.hid (hd.below' e0)
  have hcp := fun W1 (hp : PastAt W1 (.slice a L c) zs) => copied_any s (.slice a L c) zs W1 hp (by rw [HL.out]; exact hL)
  rw [HL.out] at hcp
  have HCP := Lib.hid hcp
  clear hcp hp hw hd
  clear hW r0 r1 h hz
  go_enter Tryz.func36, Tryz.ntmps36
  go_wp2_with fail
  rw [HW.out]
  go_wp2_with (first
    | (go_at_call 27; refine HDK.out.mono ?_; rintro e w1 ⟨rfl, hb1⟩; have e1 : Ext W w1 := hb1; have hr := e1.row R0.out; have k0 := cell_of_row _ _ 0 _ _ _ hr; have k1 := cell_of_row _ _ 1 _ _ _ hr; have s1 := e1.size; have PW1 := Lib.hid (e1.past PW.out); clear hr hb1)
    | (go_at_call 39; refine (HCP.out w1 PW1.out).mono ?_; rintro e w2 ⟨a2, c2, rfl, hp2, hf2, hb2⟩; have e2 : Ext w1 w2 := hb2; have P2 := Lib.hid hp2; have F2 := Lib.hid hf2; have s2 := e2.size; clear hp2 hf2 hb2))
  have hbo := box_new (x := s) P2.out (fresh_ext e1 F2.out) ((e1.trans e2).size)
  obtain ⟨w3, hw3⟩ : ∃ w3, w2.alloc (.cells #[.string s, .slice a2 L c2] 27) = w3 := ⟨_, rfl⟩
  have e3 : Ext W w3 := hw3 ▸ (e1.trans e2).alloc _
  rw [hw3] at hbo ⊢
  obtain ⟨O, hO⟩ : ∃ O, w2.heap.size = O := ⟨_, rfl⟩
  rw [hO] at hbo ⊢
  have hO1 : w.heap.size + 1 < O := by omega
  have s3 := e3.size
  have HBO := Lib.hid hbo
  clear hw3 hbo hO
  go_loopw [7, 25] (fun m i wr => ∃ (k mm : Nat) (x : ByteArray) (v : Value) (ys : List ByteArray), k ≤ n ∧ i = .int .i64 k ∧ m = .int .i64 mm ∧ mm ≤ k ∧ Hid (runTo s zs (ds.take k) = ((x, ys), mm)) ∧ Hid (BoxB W.heap.size wr.heap.size wr O x v ys) ∧ Hid (deskOk x ys = true) ∧ Ext W wr ∧ w.heap.size + 1 < wr.heap.size) (fun _ i _ => n - (intOf i).toNat)
  case atStart => exact ⟨0, 0, s, _, zs, Nat.zero_le _, rfl, rfl, Nat.le_refl _, rfl, HBO.out, hok.out, e3, by omega⟩
  case round =>
    obtain ⟨k, mm, x, vx, ys, hk, rfl, rfl, hm, HT, HB, HOK, er, hlr⟩ := hrel
    obtain ⟨ax, cx, hvx⟩ := past_value HB.out.past
    subst hvx
    obtain ⟨o0, o1⟩ := HB.out.cells
    have hrr := er.row R1.out
    have HRR := Lib.hid hrr
    clear hrr
    by_cases hlt : k < n
    · obtain ⟨d, hd⟩ : ∃ d, ds[k]? = some d := ⟨ds[k]'(by rw [HN.out]; exact hlt), List.getElem?_eq_getElem (by rw [HN.out]; exact hlt)⟩
      obtain ⟨b', rfl, hc0, hc1⟩ := HC.out k d hd
      have hk3 : (0 : Int) ≤ (k : Int) := by omega
      have hk4 : (k : Int) < (n : Int) := by omega
      have hkn := HKN.out d (List.mem_of_getElem? hd)
      have ewr : Ext w wr := e0.trans er
      have l0 := cell_keep ewr hc0
      have l1 := cell_keep ewr hc1
      have HTN := Lib.hid (runTo_succ (s := s) (zs := zs) hd)
      obtain ⟨hx1, hx8, hx2⟩ := deskOk_parts HOK.out
      have hxs := ok_size hx1
      have HZX : Hid (∀ z ∈ ys, z.size ≤ 1048576) := fun z hz => by have := ok_size (hx2 z hz); omega
      obtain ⟨x1, h1⟩ : ∃ x1, (deskDo x ys d.1 d.2).1 = x1 := ⟨_, rfl⟩
      obtain ⟨y1, h2⟩ : ∃ x1, (deskDo x ys d.1 d.2).2.1 = x1 := ⟨_, rfl⟩
      obtain ⟨t1, h3⟩ : ∃ x1, (deskDo x ys d.1 d.2).2.2 = x1 := ⟨_, rfl⟩
      have hok1 := deskOk_do HOK.out d.1 d.2
      rw [h1, h2] at hok1
      have hstep : runStep ((x, ys), mm) d = if t1 = true then ((x1, y1), mm + 1) else ((x, ys), mm) := by unfold runStep; rw [h1, h2, h3]
      have hdo : ∀ X, PastAt X (.slice ax ys.length cx) ys → WaysAt X → DirsAt X → Calls Tryz.prog 45 #[.agg #[.string x, .slice ax ys.length cx], .agg #[.int .i64 d.1, .int .i64 d.2]] X (DeskOut X x1 y1 t1) := fun X hX hXw hXd => by
        have := implDeskDo x (.slice ax ys.length cx) ys d.1 d.2 X hX (by omega) (by omega) HZX.out hXw hXd
        rwa [h1, h2, h3] at this
      have HDO := Lib.hid hdo
      have HSTEP := Lib.hid hstep
      have HOK1 := Lib.hid hok1
      have hOlt := HB.out.lt
      clear hstep hok1 hdo h1 h2 h3 hd hc0 hc1 hx2 hx1
      have HWR : Hid (∀ X, Ext wr X → WaysAt X) := fun X hX => WW.out.below' (er.trans hX)
      have HDR : Hid (∀ X, Ext wr X → DirsAt X) := fun X hX => DW.out.below' (er.trans hX)
      have oo0 := fun o : Obj => (HB.out.ext ((Ext.refl wr).alloc o)).cells.1
      have oo1 := fun o : Obj => (HB.out.ext ((Ext.refl wr).alloc o)).cells.2
      cases t1
      all_goals
       go_wp2_with (first
        | (go_at_call 45; refine (HDO.out _ (((Ext.refl wr).alloc _).past HB.out.past) (HWR.out _ ((Ext.refl wr).alloc _)) (HDR.out _ ((Ext.refl wr).alloc _))).mono ?_; rintro e wC ⟨vC, rfl, hpC, hfC, hbC⟩; obtain ⟨aC, cC, hvC⟩ := past_value hpC; subst hvC; have eC : Ext wr wC := Ext.call ((Ext.refl wr).alloc _) hbC; have gC := fresh_ext ((Ext.refl wr).alloc _) hfC; have sC := eC.size; have hBN := box_new (x := x1) hpC gC sC; have hBO := BoxB.two hBN HB.out (eC.alloc _); obtain ⟨n0, n1⟩ := hBN.cells; obtain ⟨p0, p1⟩ := hBO.cells; have pf0 := frozen_of_row _ _ 0 _ _ hBO.row; have pf1 := frozen_of_row _ _ 1 _ _ hBO.row; have HBN := Lib.hid hBN; have HBO2 := Lib.hid hBO; have PC := Lib.hid hpC; clear hBN hBO hpC hfC hbC))
      · go_roundw
        case rel =>
          refine ⟨k + 1, mm, x, _, ys, by omega, by go_num, rfl, by omega, ?_, boxB_size HBO2.out, HOK.out, er.trans (eC.alloc _), by have := (eC.alloc (.cells #[.string x1, .slice aC y1.length cC] 27)).size; omega⟩
          show _ = _
          rw [HTN.out, HT.out, HSTEP.out]
          rfl
        case measure => simp [intOf]; omega
      · go_roundw
        case rel =>
          have hneO : (Value.slice aC y1.length cC).ownBlock ≠ some O := fun h9 => by
            have h8 := HBN.out.fresh _ h9
            omega
          refine ⟨k + 1, mm + 1, x1, _, y1, by omega, by go_num, by go_num, by omega, ?_, box_set HBO2.out.row HBN.out.past (fun q hq => Nat.le_trans er.size (HBN.out.fresh q hq)) hneO (by omega), HOK1.out, (er.trans (eC.alloc _)).setCell2 (by omega) _ _, by have := (eC.alloc (.cells #[.string x1, .slice aC y1.length cC] 27)).size; simp [World.setCell] at this ⊢; omega⟩
          show _ = _
          rw [HTN.out, HT.out, HSTEP.out]
          rfl
        case measure => simp [intOf]; omega
    · obtain rfl : k = n := by omega
      have hall := HT.out
      rw [List.take_of_length_le (by rw [HN.out]; exact Nat.le_refl _)] at hall
      have HALL := Lib.hid hall
      have f0 := frozen_of_row _ _ 0 _ _ HRR.out
      have f1 := frozen_of_row _ _ 1 _ _ HRR.out
      have k0' := cell_of_row _ _ 0 _ _ _ HRR.out
      have k1' := cell_of_row _ _ 1 _ _ _ HRR.out
      have q := pair_put HRR.out (.string x) (.slice ax ys.length cx)
      have q0 := cell_of_row _ _ 0 _ _ _ q
      have q1 := cell_of_row _ _ 1 _ _ _ q
      clear hall q
      go_wp2_with fail
      refine bodyPost_ret (v := .tuple #[.agg #[.string x, .slice ax ys.length cx], .int .i64 (mm : Int)]) (by simp [results, Tryz.results36, go_sem, q0, q1]) rfl ?_
      exact run_done (e0.trans er) HB.out.past (fun b hb => by have := HB.out.fresh b hb; omega) (fun h9 => by have := HB.out.fresh _ h9; omega) (by omega) HALL.out

theorem implDeskRun (s : ByteArray) (v : Value) (zs : List ByteArray) (u : Value) (ds : List (Int × Int)) (w : World) (h : PastAt w v zs) (hd : DeedsAt w u ds) (hs : s.size ≤ 1048576) (hL : zs.length ≤ 1048576) (hz : ∀ z ∈ zs, z.size ≤ 1048576) (hn : ds.length ≤ 1048576) (hkn : ∀ d ∈ ds, -9223372036854775808 ≤ d.2 ∧ d.2 ≤ 9223372036854775807) (hw : WaysAt w) (hdd : DirsAt w) :
    Calls Tryz.prog 36 #[.agg #[.string s, v], u] w (RunOut w (deskRun s zs ds)) := by
  obtain ⟨a, c, rfl⟩ := past_value h
  obtain ⟨b, cb, rfl, hcb, hc⟩ := deeds_parts hd
  by_cases hok : deskOk s zs = true ∧ ds.length ≤ 40
  · have e : deskRun s zs ds = runTo s zs ds := by unfold deskRun; rw [if_pos hok]
    rw [e]
    exact implDeskRun_yes s a c zs.length zs b cb ds.length w h.strs (Lib.hid rfl) hs hL hz ds (Lib.hid rfl) hok.2 hcb (Lib.hid hc) (Lib.hid hkn) (Lib.hid hok.1) hw hdd h
  · have e : deskRun s zs ds = ((⟨#[]⟩, []), 0) := by unfold deskRun; rw [if_neg hok]
    rw [e]
    refine implDeskRun_no s a c zs.length zs b cb ds.length w h.strs (Lib.hid rfl) hs hL hz hn (deskOk s zs) rfl ?_
    cases hb : deskOk s zs
    · exact .inl rfl
    · exact .inr ⟨rfl, by have : ¬ ds.length ≤ 40 := fun h => hok ⟨hb, h⟩; omega⟩
theorem deskRun_few (s : ByteArray) (zs : List ByteArray) (ds : List (Int × Int)) : (deskRun s zs ds).1.2.length ≤ 8 := by
  unfold deskRun
  split
  · rename_i h
    exact (deskOk_parts (run_few h.1 ds).1).2.1
  · exact Nat.zero_le _

end Go.Proofs.YtccdfndnjjjgfaaGreatDoor
