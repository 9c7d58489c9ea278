/-
  FnReadJournal: for all codes: what is read of the drawn text is what the reference reads, of each of its beginnings the first deeds; line by line the deeds lead where they lead together; written again they are the read beginning. No condition beyond what the given statement itself bears.
-/
import Derived.Test.YtccdfndnjjjgfaaGreatDoorLFnReadJournalB
import Derived.Test.YtccdfndnjjjgfaaGreatDoorDeskDoImpl
import Derived.Test.YtccdfndnjjjgfaaGreatDoorDeeds
import Derived.Deep.RegionHeld3
import Derived.Test.YtccdfndnjjjgfaaGreatDoorDraw
import Derived.ArgAppend
import Derived.Test.YtccdfndnjjjgfaaGreatDoorDrawDeed
import Derived.Test.YtccdfndnjjjgfaaGreatDoorDrawAvoid
import Derived.Test.YtccdfndnjjjgfaaGreatDoorBase
import Derived.Lib.Builder
import Derived.Lib.UnsafeStr
import Derived.Lib.Walk
import Derived.Lib.Strings
import Derived.Lib.AppendStr
import Derived.Laws.Externs
import Derived.Maps.AppendAt
import Derived.Test.YtccdfndnjjjgfaaGreatDoorSteps
import Derived.Test.YtccdfndnjjjgfaaGreatDoorDeedSpec
import Derived.Deep.AppendLies
import Derived.Test.YtccdfndnjjjgfaaGreatDoorReadPure
import Derived.BigQuiet
import Derived.Deep.QuietTactic
import Derived.Test.YtccdfndnjjjgfaaGreatDoorRunPure
import Derived.Test.YtccdfndnjjjgfaaGreatDoorFirstOf
import Derived.Test.YtccdfndnjjjgfaaGreatDoorFirstSpec
import Derived.Test.YtccdfndnjjjgfaaGreatDoorShapeLaw
import Derived.Test.YtccdfndnjjjgfaaGreatDoorDeskDone
import Derived.Test.YtccdfndnjjjgfaaGreatDoorStrs
import Derived.Test.YtccdfndnjjjgfaaGreatDoorPure
import Derived.Test.YtccdfndnjjjgfaaGreatDoorTabs
import Derived.Test.YtccdfndnjjjgfaaGreatDoorRows
import Derived.WalkKit
import Derived.ProofKit
import Derived.OpenShut
import Derived.Carry
import Derived.WalkSmall
import Derived.MakeChecks
import Derived.Deep.DeepHandedRow
import Derived.Lib.LaidTab
import Derived.ChangeSlices
import Derived.Test.YtccdfndnjjjgfaaGreatDoorDeedImpl
import Derived.Deep.DeepCutAuto
import Derived.Test.YtccdfndnjjjgfaaGreatDoorCards
import Derived.Test.YtccdfndnjjjgfaaGreatDoorTie

namespace Go.Proofs.YtccdfndnjjjgfaaGreatDoor
open Go.RowKit

theorem deeds_parts {w : World} {u : Value} {ds : List (Int × Int)} (h : DeedsAt w u ds) : ∃ a c, u = .slice a ds.length c ∧ ds.length ≤ c ∧ ∀ (j : Nat) (d : Int × Int), ds[j]? = some d → ∃ b, a = some b ∧ w.cell? (b.add (j * 2)) = some (.int .i64 d.1) ∧ w.cell? ⟨(b.add (j * 2)).block, (b.add (j * 2)).off + 1, none⟩ = some (.int .i64 d.2) := by
  rcases h with ⟨rfl, rfl⟩ | ⟨a, cap, rfl, hl, hc⟩
  · exact ⟨none, 0, rfl, Nat.le_refl _, fun j d h => by simp at h⟩
  · exact ⟨some a, cap, rfl, hl, fun j d h => ⟨a, rfl, hc j d h⟩⟩
def RunOut (w : World) (r : (ByteArray × List ByteArray) × Nat) (e : Ending) (w' : World) : Prop := ∃ v', e = .returned (.tuple #[.agg #[.string r.1.1, v'], .int .i64 (r.2 : Int)]) ∧ PastAt w' v' r.1.2 ∧ Fresh w.heap.size v' ∧ Below w.heap.size w w'
theorem run_few {s : ByteArray} {zs : List ByteArray} (h : deskOk s zs = true) : ∀ (ds : List (Int × Int)), deskOk (runTo s zs ds).1.1 (runTo s zs ds).1.2 = true ∧ (runTo s zs ds).2 ≤ ds.length := by
  have gen : ∀ (ds : List (Int × Int)) (st : (ByteArray × List ByteArray) × Nat), deskOk st.1.1 st.1.2 = true → deskOk (ds.foldl runStep st).1.1 (ds.foldl runStep st).1.2 = true ∧ (ds.foldl runStep st).2 ≤ st.2 + ds.length := by
    intro ds
    induction ds with
    | nil => intro st hst; exact ⟨hst, Nat.le_refl _⟩
    | cons d ds ih =>
      intro st hst
      have h1 := runStep_ok hst d
      have h2 := ih _ h1.1
      rw [List.foldl_cons]
      refine ⟨h2.1, ?_⟩
      have h3 := h2.2
      have h4 := h1.2
      rw [List.length_cons]
      omega
  intro ds
  have := gen ds ((s, zs), 0) h
  unfold runTo
  simpa using this

theorem BoxB.two {A B C D : Nat} {W0 X : World} {N O : Nat} {x x' : ByteArray} {v v' : Value} {ys ys' : List ByteArray} (_ : BoxB A B X N x v ys) (h : BoxB C D W0 O x' v' ys') (k : Ext W0 X) : BoxB C D X O x' v' ys' := h.ext k
def deskBox2 (w : World) (s : ByteArray) (v : Value) : World := (w.alloc (.cells #[.string s, v] 27)).alloc (.cells #[.string ⟨#[]⟩, .slice none 0 0] 27)
theorem desk2_in (w : World) (s : ByteArray) (v : Value) : Ext w (deskBox2 w s v) ∧ (deskBox2 w s v).heap.size = w.heap.size + 2 ∧ (deskBox2 w s v).heap[w.heap.size]? = some (.cells #[.string s, v] 27 (0, 0)) ∧ (deskBox2 w s v).heap[w.heap.size + 1]? = some (.cells #[.string ⟨#[]⟩, .slice none 0 0] 27 (0, 0)) := by
  unfold deskBox2
  exact ⟨((Ext.refl w).alloc _).alloc _, by simp, heap_alloc2_old _ _ _, heap_alloc2_new _ _ _⟩
/-- A result is stored. -/
theorem run_done {w X : World} {R : Nat} {x : ByteArray} {v : Value} {ys : List ByteArray} {m : Nat} {r : (ByteArray × List ByteArray) × Nat} (e : Ext w X) (hp : PastAt X v ys) (hf : Fresh w.heap.size v) (hne : v.ownBlock ≠ some R) (hR : w.heap.size ≤ R) (hr : r = ((x, ys), m)) :
    RunOut w r (.returned (.tuple #[.agg #[.string x, v], .int .i64 (m : Int)])) ((X.setCell ⟨R, 0, none⟩ (.string x)).setCell ⟨R, 1, none⟩ v) := by
  subst hr
  exact ⟨_, rfl, past_put (past_put hp _ _ hne) _ _ hne, hf, (e.setCell hR _).setCell hR _⟩

theorem Ext.setCell2 {a X : World} (h : Ext a X) {N : Nat} (hN : a.heap.size ≤ N) (u v : Value) : Ext a ((X.setCell ⟨N, 0, none⟩ u).setCell ⟨N, 1, none⟩ v) := (h.setCell hN u).setCell hN v
theorem ext_new {A B : Nat} {a X : World} {N : Nat} {x : ByteArray} {v : Value} {ys : List ByteArray} {o : Obj} (_ : BoxB A B (X.alloc o) N x v ys) (h : Ext a X) : Ext a (X.alloc o) := h.alloc o
theorem ext_set {A B : Nat} {a X : World} {N : Nat} {x : ByteArray} {v : Value} {ys : List ByteArray} {u u' : Value} (_ : BoxB A B ((X.setCell ⟨N, 0, none⟩ u).setCell ⟨N, 1, none⟩ u') N x v ys) (h : Ext a X) (hN : a.heap.size ≤ N) : Ext a ((X.setCell ⟨N, 0, none⟩ u).setCell ⟨N, 1, none⟩ u') := h.setCell2 hN u u'
theorem boxB_size {A B : Nat} {W : World} {N : Nat} {x : ByteArray} {v : Value} {ys : List ByteArray} (h : BoxB A B W N x v ys) : BoxB A W.heap.size W N x v ys := ⟨h.row, h.past, h.ne, h.ge, h.fresh, lt_at h.row, fun _ hb => past_lt h.past hb⟩
set_option maxRecDepth 100000 in
set_option maxHeartbeats 800000 in
theorem implDeskRun_no (s : ByteArray) (a : Option Addr) (c L : Nat) (zs : List ByteArray) (b : Option Addr) (cb n : Nat) (w : World) (h : StrsAt w (.slice a L c) zs) (HL : Hid (zs.length = L)) (hs : s.size ≤ 1048576) (hL : L ≤ 1048576) (hz : ∀ z ∈ zs, z.size ≤ 1048576) (hn : n ≤ 1048576) (t : Bool) (hok : deskOk s zs = t) (hno : t = false ∨ (t = true ∧ 40 < n)) :
    Calls Tryz.prog 36 #[.agg #[.string s, .slice a L c], .slice b n cb] w (RunOut w ((⟨#[]⟩, []), 0)) := by
  obtain ⟨e0, hsz, r0, r1⟩ := desk2_in w s (.slice a L c)
  obtain ⟨W, hW⟩ : ∃ W, deskBox2 w s (.slice a L c) = W := ⟨_, rfl⟩
  rw [hW] at e0 hsz r0 r1
  unfold deskBox2 at hW
  have HW := Lib.hid hW
  have HDK := Lib.hid (deskOk_namedI s (.slice a L c) zs W (e0.strs h) hs (by rw [HL.out]; exact hL) hz t hok)
  have R1 := Lib.hid r1
  have c0 := cell_of_row _ _ 0 _ _ _ r0
  have c1 := cell_of_row _ _ 1 _ _ _ r0
  clear hW r0 r1 h hok hz
  rcases hno with rfl | ⟨rfl, h40⟩
  all_goals
    go_enter Tryz.func36, Tryz.ntmps36
    go_wp2_with fail
    rw [HW.out]
    go_wp2_with (first
      | (go_at_call 27; refine HDK.out.mono ?_; rintro e w1 ⟨rfl, hb1⟩; have e1 : Ext W w1 := hb1; have hr := e1.row R1.out; have f0 := frozen_of_row _ _ 0 _ _ hr; have f1 := frozen_of_row _ _ 1 _ _ hr; have k0 := cell_of_row _ _ 0 _ _ _ hr; have k1 := cell_of_row _ _ 1 _ _ _ hr; have q := pair_put hr (.string ⟨#[]⟩) (.slice none 0 0); have q0 := cell_of_row _ _ 0 _ _ _ q; have q1 := cell_of_row _ _ 1 _ _ _ q; clear hr q hb1))
    refine bodyPost_ret (v := .tuple #[.agg #[.string ⟨#[]⟩, .slice none 0 0], .int .i64 0]) (by simp [results, Tryz.results36, go_sem, q0, q1]) rfl ?_
    exact run_done (m := 0) (e0.trans e1) (.inl ⟨rfl, rfl⟩) (Fresh.none _) (fun h9 => by cases h9) (by omega) rfl

set_option maxRecDepth 100000 in
set_option maxHeartbeats 3200000 in
theorem implDeskRun_yes (s : ByteArray) (a : Option Addr) (c L : Nat) (zs : List ByteArray) (b : Option Addr) (cb n : Nat) (w : World) (h : StrsAt w (.slice a L c) zs) (HL : Hid (zs.length = L)) (hs : s.size ≤ 1048576) (hL : L ≤ 1048576) (hz : ∀ z ∈ zs, z.size ≤ 1048576) (ds : List (Int × Int)) (HN : Hid (ds.length = n)) (hn : n ≤ 40) (hncb : n ≤ cb) (HC : Hid (∀ (j : Nat) (d : Int × Int), ds[j]? = some d → ∃ b', b = some b' ∧ w.cell? (b'.add (j * 2)) = some (.int .i64 d.1) ∧ w.cell? ⟨(b'.add (j * 2)).block, (b'.add (j * 2)).off + 1, none⟩ = some (.int .i64 d.2))) (HKN : Hid (∀ d ∈ ds, -9223372036854775808 ≤ d.2 ∧ d.2 ≤ 9223372036854775807)) (hok : Hid (deskOk s zs = true)) (hw : WaysAt w) (hd : DirsAt w) (hp : PastAt w (.slice a L c) zs) :
    Calls Tryz.prog 36 #[.agg #[.string s, .slice a L c], .slice b n cb] w (RunOut w (runTo s zs ds)) := by
  obtain ⟨e0, hsz, r0, r1⟩ := desk2_in w s (.slice a L c)
  obtain ⟨W, hW⟩ : ∃ W, deskBox2 w s (.slice a L c) = W := ⟨_, rfl⟩
  rw [hW] at e0 hsz r0 r1
  unfold deskBox2 at hW
  have HW := Lib.hid hW
  have HDK := Lib.hid (deskOk_namedI s (.slice a L c) zs W (e0.strs h) hs (by rw [HL.out]; exact hL) hz true hok.out)
  have R0 := Lib.hid r0
  have R1 := Lib.hid r1
  have c0 := cell_of_row _ _ 0 _ _ _ r0
  have c1 := cell_of_row _ _ 1 _ _ _ r0
  have HST := Lib.hid (e0.strs h)
  have PW := Lib.hid (e0.past hp)
  have WW := Lib.hid (hw.below' e0)
  have DW := Lib.hid (hd.below' e0)
  have hcp := fun W1 (hp : PastAt W1 (.slice a L c) zs) => copied_any s (.slice a L c) zs W1 hp (by rw [HL.out]; exact hL)
  rw [HL.out] at hcp
  have HCP := Lib.hid hcp
  clear hcp hp hw hd
  clear hW r0 r1 h hz
  go_enter Tryz.func36, Tryz.ntmps36
  go_wp2_with fail
  rw [HW.out]
  go_wp2_with (first
    | (go_at_call 27; refine HDK.out.mono ?_; rintro e w1 ⟨rfl, hb1⟩; have e1 : Ext W w1 := hb1; have hr := e1.row R0.out; have k0 := cell_of_row _ _ 0 _ _ _ hr; have k1 := cell_of_row _ _ 1 _ _ _ hr; have s1 := e1.size; have PW1 := Lib.hid (e1.past PW.out); clear hr hb1)
    | (go_at_call 39; refine (HCP.out w1 PW1.out).mono ?_; rintro e w2 ⟨a2, c2, rfl, hp2, hf2, hb2⟩; have e2 : Ext w1 w2 := hb2; have P2 := Lib.hid hp2; have F2 := Lib.hid hf2; have s2 := e2.size; clear hp2 hf2 hb2))
  have hbo := box_new (x := s) P2.out (fresh_ext e1 F2.out) ((e1.trans e2).size)
  obtain ⟨w3, hw3⟩ : ∃ w3, w2.alloc (.cells #[.string s, .slice a2 L c2] 27) = w3 := ⟨_, rfl⟩
  have e3 : Ext W w3 := hw3 ▸ (e1.trans e2).alloc _
  rw [hw3] at hbo ⊢
  obtain ⟨O, hO⟩ : ∃ O, w2.heap.size = O := ⟨_, rfl⟩
  rw [hO] at hbo ⊢
  have hO1 : w.heap.size + 1 < O := by omega
  have s3 := e3.size
  have HBO := Lib.hid hbo
  clear hw3 hbo hO
  go_loopw [7, 25] (fun m i wr => ∃ (k mm : Nat) (x : ByteArray) (v : Value) (ys : List ByteArray), k ≤ n ∧ i = .int .i64 k ∧ m = .int .i64 mm ∧ mm ≤ k ∧ Hid (runTo s zs (ds.take k) = ((x, ys), mm)) ∧ Hid (BoxB W.heap.size wr.heap.size wr O x v ys) ∧ Hid (deskOk x ys = true) ∧ Ext W wr ∧ w.heap.size + 1 < wr.heap.size) (fun _ i _ => n - (intOf i).toNat)
  case atStart => exact ⟨0, 0, s, _, zs, Nat.zero_le _, rfl, rfl, Nat.le_refl _, rfl, HBO.out, hok.out, e3, by omega⟩
  case round =>
    obtain ⟨k, mm, x, vx, ys, hk, rfl, rfl, hm, HT, HB, HOK, er, hlr⟩ := hrel
    obtain ⟨ax, cx, hvx⟩ := past_value HB.out.past
    subst hvx
    obtain ⟨o0, o1⟩ := HB.out.cells
    have hrr := er.row R1.out
    have HRR := Lib.hid hrr
    clear hrr
    by_cases hlt : k < n
    · obtain ⟨d, hd⟩ : ∃ d, ds[k]? = some d := ⟨ds[k]'(by rw [HN.out]; exact hlt), List.getElem?_eq_getElem (by rw [HN.out]; exact hlt)⟩
      obtain ⟨b', rfl, hc0, hc1⟩ := HC.out k d hd
      have hk3 : (0 : Int) ≤ (k : Int) := by omega
      have hk4 : (k : Int) < (n : Int) := by omega
      have hkn := HKN.out d (List.mem_of_getElem? hd)
      have ewr : Ext w wr := e0.trans er
      have l0 := cell_keep ewr hc0
      have l1 := cell_keep ewr hc1
      have HTN := Lib.hid (runTo_succ (s := s) (zs := zs) hd)
      obtain ⟨hx1, hx8, hx2⟩ := deskOk_parts HOK.out
      have hxs := ok_size hx1
      have HZX : Hid (∀ z ∈ ys, z.size ≤ 1048576) := fun z hz => by have := ok_size (hx2 z hz); omega
      obtain ⟨x1, h1⟩ : ∃ x1, (deskDo x ys d.1 d.2).1 = x1 := ⟨_, rfl⟩
      obtain ⟨y1, h2⟩ : ∃ x1, (deskDo x ys d.1 d.2).2.1 = x1 := ⟨_, rfl⟩
      obtain ⟨t1, h3⟩ : ∃ x1, (deskDo x ys d.1 d.2).2.2 = x1 := ⟨_, rfl⟩
      have hok1 := deskOk_do HOK.out d.1 d.2
      rw [h1, h2] at hok1
      have hstep : runStep ((x, ys), mm) d = if t1 = true then ((x1, y1), mm + 1) else ((x, ys), mm) := by unfold runStep; rw [h1, h2, h3]
      have hdo : ∀ X, PastAt X (.slice ax ys.length cx) ys → WaysAt X → DirsAt X → Calls Tryz.prog 45 #[.agg #[.string x, .slice ax ys.length cx], .agg #[.int .i64 d.1, .int .i64 d.2]] X (DeskOut X x1 y1 t1) := fun X hX hXw hXd => by
        have := implDeskDo x (.slice ax ys.length cx) ys d.1 d.2 X hX (by omega) (by omega) HZX.out hXw hXd
        rwa [h1, h2, h3] at this
      have HDO := Lib.hid hdo
      have HSTEP := Lib.hid hstep
      have HOK1 := Lib.hid hok1
      have hOlt := HB.out.lt
      clear hstep hok1 hdo h1 h2 h3 hd hc0 hc1 hx2 hx1
      have HWR : Hid (∀ X, Ext wr X → WaysAt X) := fun X hX => WW.out.below' (er.trans hX)
      have HDR : Hid (∀ X, Ext wr X → DirsAt X) := fun X hX => DW.out.below' (er.trans hX)
      have oo0 := fun o : Obj => (HB.out.ext ((Ext.refl wr).alloc o)).cells.1
      have oo1 := fun o : Obj => (HB.out.ext ((Ext.refl wr).alloc o)).cells.2
      cases t1
      all_goals
       go_wp2_with (first
        | (go_at_call 45; refine (HDO.out _ (((Ext.refl wr).alloc _).past HB.out.past) (HWR.out _ ((Ext.refl wr).alloc _)) (HDR.out _ ((Ext.refl wr).alloc _))).mono ?_; rintro e wC ⟨vC, rfl, hpC, hfC, hbC⟩; obtain ⟨aC, cC, hvC⟩ := past_value hpC; subst hvC; have eC : Ext wr wC := Ext.call ((Ext.refl wr).alloc _) hbC; have gC := fresh_ext ((Ext.refl wr).alloc _) hfC; have sC := eC.size; have hBN := box_new (x := x1) hpC gC sC; have hBO := BoxB.two hBN HB.out (eC.alloc _); obtain ⟨n0, n1⟩ := hBN.cells; obtain ⟨p0, p1⟩ := hBO.cells; have pf0 := frozen_of_row _ _ 0 _ _ hBO.row; have pf1 := frozen_of_row _ _ 1 _ _ hBO.row; have HBN := Lib.hid hBN; have HBO2 := Lib.hid hBO; have PC := Lib.hid hpC; clear hBN hBO hpC hfC hbC))
      · go_roundw
        case rel =>
          refine ⟨k + 1, mm, x, _, ys, by omega, by go_num, rfl, by omega, ?_, boxB_size HBO2.out, HOK.out, er.trans (eC.alloc _), by have := (eC.alloc (.cells #[.string x1, .slice aC y1.length cC] 27)).size; omega⟩
          show _ = _
          rw [HTN.out, HT.out, HSTEP.out]
          rfl
        case measure => simp [intOf]; omega
      · go_roundw
        case rel =>
          have hneO : (Value.slice aC y1.length cC).ownBlock ≠ some O := fun h9 => by
            have h8 := HBN.out.fresh _ h9
            omega
          refine ⟨k + 1, mm + 1, x1, _, y1, by omega, by go_num, by go_num, by omega, ?_, box_set HBO2.out.row HBN.out.past (fun q hq => Nat.le_trans er.size (HBN.out.fresh q hq)) hneO (by omega), HOK1.out, (er.trans (eC.alloc _)).setCell2 (by omega) _ _, by have := (eC.alloc (.cells #[.string x1, .slice aC y1.length cC] 27)).size; simp [World.setCell] at this ⊢; omega⟩
          show _ = _
          rw [HTN.out, HT.out, HSTEP.out]
          rfl
        case measure => simp [intOf]; omega
    · obtain rfl : k = n := by omega
      have hall := HT.out
      rw [List.take_of_length_le (by rw [HN.out]; exact Nat.le_refl _)] at hall
      have HALL := Lib.hid hall
      have f0 := frozen_of_row _ _ 0 _ _ HRR.out
      have f1 := frozen_of_row _ _ 1 _ _ HRR.out
      have k0' := cell_of_row _ _ 0 _ _ _ HRR.out
      have k1' := cell_of_row _ _ 1 _ _ _ HRR.out
      have q := pair_put HRR.out (.string x) (.slice ax ys.length cx)
      have q0 := cell_of_row _ _ 0 _ _ _ q
      have q1 := cell_of_row _ _ 1 _ _ _ q
      clear hall q
      go_wp2_with fail
      refine bodyPost_ret (v := .tuple #[.agg #[.string x, .slice ax ys.length cx], .int .i64 (mm : Int)]) (by simp [results, Tryz.results36, go_sem, q0, q1]) rfl ?_
      exact run_done (e0.trans er) HB.out.past (fun b hb => by have := HB.out.fresh b hb; omega) (fun h9 => by have := HB.out.fresh _ h9; omega) (by omega) HALL.out

theorem implDeskRun (s : ByteArray) (v : Value) (zs : List ByteArray) (u : Value) (ds : List (Int × Int)) (w : World) (h : PastAt w v zs) (hd : DeedsAt w u ds) (hs : s.size ≤ 1048576) (hL : zs.length ≤ 1048576) (hz : ∀ z ∈ zs, z.size ≤ 1048576) (hn : ds.length ≤ 1048576) (hkn : ∀ d ∈ ds, -9223372036854775808 ≤ d.2 ∧ d.2 ≤ 9223372036854775807) (hw : WaysAt w) (hdd : DirsAt w) :
    Calls Tryz.prog 36 #[.agg #[.string s, v], u] w (RunOut w (deskRun s zs ds)) := by
  obtain ⟨a, c, rfl⟩ := past_value h
  obtain ⟨b, cb, rfl, hcb, hc⟩ := deeds_parts hd
  by_cases hok : deskOk s zs = true ∧ ds.length ≤ 40
  · have e : deskRun s zs ds = runTo s zs ds := by unfold deskRun; rw [if_pos hok]
    rw [e]
    exact implDeskRun_yes s a c zs.length zs b cb ds.length w h.strs (Lib.hid rfl) hs hL hz ds (Lib.hid rfl) hok.2 hcb (Lib.hid hc) (Lib.hid hkn) (Lib.hid hok.1) hw hdd h
  · have e : deskRun s zs ds = ((⟨#[]⟩, []), 0) := by unfold deskRun; rw [if_neg hok]
    rw [e]
    refine implDeskRun_no s a c zs.length zs b cb ds.length w h.strs (Lib.hid rfl) hs hL hz hn (deskOk s zs) rfl ?_
    cases hb : deskOk s zs
    · exact .inl rfl
    · exact .inr ⟨rfl, by have : ¬ ds.length ≤ 40 := fun h => hok ⟨hb, h⟩; omega⟩
theorem deskRun_few (s : ByteArray) (zs : List ByteArray) (ds : List (Int × Int)) : (deskRun s zs ds).1.2.length ≤ 8 := by
  unfold deskRun
  split
  · rename_i h
    exact (deskOk_parts (run_few h.1 ds).1).2.1
  · exact Nat.zero_le _

end Go.Proofs.YtccdfndnjjjgfaaGreatDoor

namespace Go.Proofs.YtccdfndnjjjgfaaGreatDoor
open Go.RowKit

theorem past_end {w : World} {g off cap : Nat} {cur : Array Value} {zs : List ByteArray} (hl : zs.length + 1 ≤ cap) (hg : w.heap[g]? = some (.cells cur 9 (0, 0))) (hc : off + cap ≤ cur.size) (hz : ∀ (j : Nat) (z : ByteArray), zs[j]? = some z → cur[off + j]? = some (.string z)) (z : ByteArray) :
    PastAt (w.setCell ⟨g, off + zs.length, none⟩ (.string z)) (.slice (some ⟨g, off, none⟩) (zs.length + 1) cap) (zs ++ [z]) := by
  have e0 : (zs ++ [z]).length = zs.length + 1 := by simp
  refine .inr ⟨g, off, cap, cur.set! (off + zs.length) (.string z), by rw [e0], by rw [e0]; exact hl, ?_, by simpa using hc, fun i y hi => ?_⟩
  · simp [World.setCell, Array.getElem?_modify, hg]
  · rw [Array.set!_eq_setIfInBounds, Array.getElem?_setIfInBounds]
    rcases Nat.lt_trichotomy i zs.length with h | h | h
    · rw [if_neg (by omega)]
      rw [List.getElem?_append_left h] at hi
      exact hz i y hi
    · subst h
      rw [if_pos rfl, if_pos (by omega)]
      simp at hi
      rw [hi]
    · have := (List.getElem?_eq_some_iff.1 hi).1
      omega
theorem wpList_append_past {w : World} {ops : Array Oper} {rest : List Oper} {o : Oper} {a : Act} {Q : Exit → Act → World → Prop} (hgd : o.guard = none) (s x : Operand)
    (ho : o.op = .call { callee := .builtin .append, args := #[s, x], argTypes := #[22, 22] })
    {v : Value} {zs : List ByteArray} (hs : a.eval s = v) (hp : PastAt w v zs) (hl : zs.length ≤ 1000) {b c : Nat} {z : ByteArray} (hx : a.eval x = .slice (some ⟨b, 0, none⟩) 1 c) (hz : w.cell? ⟨b, 0, none⟩ = some (.string z))
    (h : ∀ v' w', PastAt w' v' (zs ++ [z]) → But v w w' → (∀ g, v'.ownBlock = some g → v.ownBlock = some g ∨ w.heap.size ≤ g) → wpList Tryz.prog ops Q rest (a.put o.dst v') w') : wpList Tryz.prog ops Q (o :: rest) a w := by
  obtain ⟨i0, hi0, hz0, hz1, hz2⟩ := info_parts stringInfo
  have hnews : ∀ j u, [Value.string z][j]? = some u → w.cell? ((⟨b, 0, none⟩ : Addr).add j) = some u := by
    intro j u hj
    cases j with
    | zero => rw [add_plain]; rw [← hj]; exact hz
    | succ j => simp at hj
  have hown : ∀ v' w', w'.ownsRow w.heap.size 9 1 v' (zs.length + 1) (strVals zs ++ [.string z]) → w.grownBy w' none → wpList Tryz.prog ops Q rest (a.put o.dst v') w' := by
    intro v' w' hw hg
    have e1 : strVals (zs ++ [z]) = strVals zs ++ [.string z] := by unfold strVals; rw [List.map_append]; rfl
    have e2 : (zs ++ [z]).length = zs.length + 1 := by simp
    refine h v' w' (past_own (by rw [e1, e2]; exact hw)) ⟨hg.os, hg.tape, hg.output, hg.size, fun k hk _ => hg.block k hk (by simp)⟩ (fun g hg' => .inr ?_)
    rcases hw.2 with ⟨rfl, _⟩ | ⟨g', _, _, rfl, hb, _⟩
    · cases hg'
    · cases hg'
      exact hb
  rcases hp with ⟨rfl, rfl⟩ | ⟨g, off, cap, cur, rfl, hlc, hg, hc, hzz⟩
  · exact wpList_append_grows w hgd s x _ ho 9 i0 _ 1 16 Tryz.underlying22 hi0 hz0 hz1 hz2 rfl (by omega) none 0 0 [] hs (fun _ => ⟨rfl, rfl⟩) rfl (fun b h => by cases h) ⟨b, 0, none⟩ 1 c [.string z] hx rfl hnews (by simp [Value.oneCell']) (by omega) (by unfold maxLen; omega) (by omega) (fun v' w' h1 h2 => hown v' w' h1 h2)
  · refine wpList_append_arg w hgd s x _ ho 9 i0 _ 1 16 Tryz.underlying22 hi0 hz0 hz1 hz2 rfl (by omega) g off zs.length cap (strVals zs) hs (by rw [strVals_len]; omega) (fun j u hj => ?_) ⟨b, 0, none⟩ 1 c [.string z] hx rfl hnews (by simp [Value.oneCell']) (fun hr j hj => ?_) (by unfold maxLen; omega) (by omega) (fun hr => ?_) (fun _ v' w' h1 h2 => hown v' w' h1 h2)
    · unfold strVals at hj
      rw [List.getElem?_map] at hj
      cases hzj : zs[j]? with
      | none => rw [hzj] at hj; cases hj
      | some y =>
        rw [hzj] at hj
        rw [cell_of_row _ _ _ _ _ _ hg, hzz j y hzj]
        exact hj
    · refine ⟨?_, frozen_of_row _ _ _ _ _ hg⟩
      simp only [List.length_singleton] at hj
      rw [cell_of_row _ _ _ _ _ _ hg, Array.getElem?_eq_getElem (by omega)]
      rfl
    · have e : w.setCells g (off + zs.length * 1) [.string z] = w.setCell ⟨g, off + zs.length, none⟩ (.string z) := by rw [Nat.mul_one]; rfl
      rw [e]
      exact h _ _ (past_end hr hg hc hzz z) (But.setCell w rfl _) (fun g' hg' => .inl hg')
end Go.Proofs.YtccdfndnjjjgfaaGreatDoor

namespace Go.Proofs.YtccdfndnjjjgfaaGreatDoor
open Go.RowKit

theorem Drawn.belowB {w W W' W1 : World} {R n p k k0 : Nat} {v : Value} (h : Drawn w W R v n p k) (h0 : Drawn w W1 R v n p k0) (hb : Below W1.heap.size W W') : Drawn w W' R v n p k := by
  obtain ⟨p', hp, hr, hg⟩ := h
  obtain ⟨p0, _, hr0, hg0⟩ := h0
  have hlR := hr0.lt
  have hsz := hg0.size
  refine ⟨p', hp, ⟨(hb.block R hlR).trans hr.cells, ?_, hr.few, hr.off⟩, ⟨hb.os.trans hg.os, hb.tape.trans hg.tape, hb.output.trans hg.output, Nat.le_trans hg.size hb.size, fun i hi hR => (hb.block i (by omega)).trans (hg.block i hi hR)⟩⟩
  rcases hr.code with hc | ⟨a, cap, hv, hl, hc⟩
  · exact .inl hc
  · refine .inr ⟨a, cap, hv, hl, fun i hi => ?_⟩
    obtain ⟨b, h1, h2, h3⟩ := hc i hi
    refine ⟨b, h1, h2, ?_⟩
    have hlt : a.block < W1.heap.size := by
      rcases hr0.code with ⟨hv0, _⟩ | ⟨a0, cap0, hv0, _, hc0⟩
      · rw [hv0] at hv
        cases hv
      · rw [hv0] at hv
        simp only [Value.slice.injEq, Option.some.injEq] at hv
        obtain ⟨rfl, _, _⟩ := hv
        obtain ⟨_, _, _, h4⟩ := hc0 i hi
        have := World.block_lt_of_cell? W1 _ h4
        rwa [show (a0.add i).block = a0.block by unfold Addr.add; split <;> rfl] at this
    rw [← h3]
    exact World.cell?_of_block (hb.block _ (by rw [show (a.add i).block = a.block by unfold Addr.add; split <;> rfl]; exact hlt))
theorem past_grown {X X' : World} {v : Value} {zs : List ByteArray} {R : Nat} (h : PastAt X v zs) (hg : X.grownBy X' (some R)) (hne : v.ownBlock ≠ some R) : PastAt X' v zs := by
  rcases h with h | ⟨g, off, cap, cur, rfl, hl, hr, hc, hz⟩
  · exact .inl h
  · exact .inr ⟨g, off, cap, cur, rfl, hl, grow_row' hg hr (fun e => hne (by rw [← e]; rfl)), hc, hz⟩

structure FinSt (w W1 X : World) (R D B : Nat) (v0 : Value) (n p m : Nat) (s : ByteArray) (v : Value) (zs : List ByteArray) : Prop where
  row : X.heap[D]? = some (.cells #[.string s, v] 27 (0, 0))
  past : PastAt X v zs
  ne : v.ownBlock ≠ some D
  ge : W1.heap.size ≤ D
  fresh : Fresh W1.heap.size v
  drawn : Drawn w X R v0 n p m
  res : X.heap[B]? = some (.cells #[.string ⟨#[]⟩, .slice none 0 0] 27 (0, 0))
  size : W1.heap.size ≤ X.heap.size
  hs : s.size ≤ 41
  hl : zs.length ≤ 9
  hz : ∀ z ∈ zs, z.size ≤ 41
section
variable {w W1 X : World} {R D B n p m k0 : Nat} {v0 : Value} {s : ByteArray} {v : Value} {zs : List ByteArray}
theorem FinSt.facts (h : FinSt w W1 X R D B v0 n p m s v zs) : X.cell? ⟨D, 0, none⟩ = some (.string s) ∧ X.cell? ⟨D, 1, none⟩ = some v ∧ X.frozen? ⟨D, 0, none⟩ = false ∧ X.frozen? ⟨D, 1, none⟩ = false ∧ X.cell? ⟨B, 0, none⟩ = some (.string ⟨#[]⟩) ∧ X.cell? ⟨B, 1, none⟩ = some (.slice none 0 0) ∧ X.frozen? ⟨B, 0, none⟩ = false ∧ X.frozen? ⟨B, 1, none⟩ = false :=
  ⟨cell_of_row _ _ 0 _ _ _ h.row, cell_of_row _ _ 1 _ _ _ h.row, frozen_of_row _ _ 0 _ _ h.row, frozen_of_row _ _ 1 _ _ h.row, cell_of_row _ _ 0 _ _ _ h.res, cell_of_row _ _ 1 _ _ _ h.res, frozen_of_row _ _ 0 _ _ h.res, frozen_of_row _ _ 1 _ _ h.res⟩
theorem FinSt.grown (h : FinSt w W1 X R D B v0 n p m s v zs) {X' : World} {m' : Nat} (hg : X.grownBy X' (some R)) (hd : Drawn w X' R v0 n p m') (hR : R < W1.heap.size) (hB : B ≠ R) : FinSt w W1 X' R D B v0 n p m' s v zs :=
  ⟨grow_row' hg h.row (by have := h.ge; omega), past_grown h.past hg (fun e => by have := h.fresh R e; omega), h.ne, h.ge, h.fresh, hd, grow_row' hg h.res hB, Nat.le_trans h.size hg.size, h.hs, h.hl, h.hz⟩
theorem FinSt.alloc (h : FinSt w W1 X R D B v0 n p m s v zs) (o : Obj) : FinSt w W1 (X.alloc o) R D B v0 n p m s v zs :=
  ⟨row_alloc h.row o, ((Ext.refl X).alloc o).past h.past, h.ne, h.ge, h.fresh, h.drawn.alloc o, row_alloc h.res o, by have := h.size; simp; omega, h.hs, h.hl, h.hz⟩
theorem FinSt.putx (h : FinSt w W1 X R D B v0 n p m s v zs) (h0 : Drawn w W1 R v0 n p k0) (hB : B < W1.heap.size) (x : ByteArray) (hx : x.size ≤ 41) : FinSt w W1 (X.setCell ⟨D, 0, none⟩ (.string x)) R D B v0 n p m x v zs :=
  ⟨by simp [World.setCell, Array.getElem?_modify, h.row], past_put h.past _ _ h.ne, h.ne, h.ge, h.fresh, h.drawn.setCell h0 h.ge 0 _, (heap_setCell_other _ _ _ _ (by have := h.ge; show B ≠ D; omega)).trans h.res, by simpa [World.setCell] using h.size, hx, h.hl, h.hz⟩
theorem FinSt.app (h : FinSt w W1 X R D B v0 n p m s v zs) (h0 : Drawn w W1 R v0 n p k0) (hB : B < W1.heap.size) (hl8 : zs.length ≤ 8) {X' : World} {v' : Value} {z : ByteArray} (hz : z.size ≤ 41) (hp : PastAt X' v' (zs ++ [z])) (hb : But v X X') (hf : ∀ g, v'.ownBlock = some g → v.ownBlock = some g ∨ X.heap.size ≤ g) : FinSt w W1 (X'.setCell ⟨D, 1, none⟩ v') R D B v0 n p m s v' (zs ++ [z]) := by
  have hbb := hb.below h.fresh h.size
  have hDX := lt_at h.row
  have hge := h.ge
  have hne : v'.ownBlock ≠ some D := fun e => by
    rcases hf D e with h1 | h1
    · exact h.ne h1
    · omega
  have hrow : X'.heap[D]? = some (.cells #[.string s, v] 27 (0, 0)) := (hb.block D hDX h.ne).trans h.row
  refine ⟨by simp [World.setCell, Array.getElem?_modify, hrow], past_put hp _ _ hne, hne, h.ge, fun g hg => ?_, (h.drawn.belowB h0 hbb).setCell h0 h.ge 1 _, (heap_setCell_other _ _ _ _ (by show B ≠ D; omega)).trans ((hbb.block B hB).trans h.res), by simpa [World.setCell] using Nat.le_trans h.size hb.size, h.hs, by simp; omega, fun y hy => ?_⟩
  · rcases hf g hg with h1 | h1
    · exact h.fresh g h1
    · have := h.size
      omega
  · rcases List.mem_append.1 hy with h1 | h1
    · exact h.hz y h1
    · rw [List.mem_singleton.1 h1]
      exact hz
theorem FinSt.but_facts (h : FinSt w W1 X R D B v0 n p m s v zs) (hB : B < W1.heap.size) {X' : World} (hb : But v X X') : X'.cell? ⟨D, 0, none⟩ = some (.string s) ∧ X'.cell? ⟨D, 1, none⟩ = some v ∧ X'.frozen? ⟨D, 0, none⟩ = false ∧ X'.frozen? ⟨D, 1, none⟩ = false ∧ X'.cell? ⟨B, 0, none⟩ = some (.string ⟨#[]⟩) ∧ X'.cell? ⟨B, 1, none⟩ = some (.slice none 0 0) ∧ X'.frozen? ⟨B, 0, none⟩ = false ∧ X'.frozen? ⟨B, 1, none⟩ = false := by
  have hrow := (hb.block D (lt_at h.row) h.ne).trans h.row
  have hres := ((hb.below h.fresh h.size).block B hB).trans h.res
  exact ⟨cell_of_row _ _ 0 _ _ _ hrow, cell_of_row _ _ 1 _ _ _ hrow, frozen_of_row _ _ 0 _ _ hrow, frozen_of_row _ _ 1 _ _ hrow, cell_of_row _ _ 0 _ _ _ hres, cell_of_row _ _ 1 _ _ _ hres, frozen_of_row _ _ 0 _ _ hres, frozen_of_row _ _ 1 _ _ hres⟩
theorem FinSt.finish (h : FinSt w W1 X R D B v0 n p m s v zs) {W : World} (hW0 : Drawn w W R v0 n p k0) (hBW : B = W.heap.size) (hB : B < W1.heap.size) {k : Nat} (hk : m ≤ k) :
    ((X.setCell ⟨B, 0, none⟩ (.string s)).setCell ⟨B, 1, none⟩ v).cell? ⟨B, 0, none⟩ = some (.string s) ∧ ((X.setCell ⟨B, 0, none⟩ (.string s)).setCell ⟨B, 1, none⟩ v).cell? ⟨B, 1, none⟩ = some v ∧
    ∃ (s' : ByteArray) (v' : Value) (zs' : List ByteArray), Ending.returned (.agg #[.string s, v]) = .returned (.agg #[.string s', v']) ∧ PastAt ((X.setCell ⟨B, 0, none⟩ (.string s)).setCell ⟨B, 1, none⟩ v) v' zs' ∧ Fresh W.heap.size v' ∧ s'.size ≤ 41 ∧ zs'.length ≤ 9 ∧ (∀ z ∈ zs', z.size ≤ 41) ∧ Drawn w ((X.setCell ⟨B, 0, none⟩ (.string s)).setCell ⟨B, 1, none⟩ v) R v0 n p k := by
  have q := pair_put h.res (.string s) v
  have hne : v.ownBlock ≠ some B := fun e => by have := h.fresh B e; omega
  exact ⟨cell_of_row _ _ 0 _ _ _ q, cell_of_row _ _ 1 _ _ _ q, s, v, zs, rfl, past_put (past_put h.past _ _ hne) _ _ hne, fun g hg => by have := h.fresh g hg; omega, h.hs, h.hl, h.hz, ((h.drawn.setCell hW0 (by omega) 0 _).setCell hW0 (by omega) 1 _).mono hk⟩
end
end Go.Proofs.YtccdfndnjjjgfaaGreatDoor

namespace Go.Proofs.YtccdfndnjjjgfaaGreatDoor
open Go.RowKit

theorem grown_refl (a : World) (r : Option Nat) : a.grownBy a r := ⟨rfl, rfl, rfl, Nat.le_refl _, fun _ _ _ => rfl⟩
theorem grown_alloc {a X : World} {r : Option Nat} (h : a.grownBy X r) (o : Obj) : a.grownBy (X.alloc o) r := grown_trans h (World.grownBy_alloc X o r)
theorem grown_drew {a X : World} {r : Option Nat} (h : a.grownBy X r) : a.grownBy X.drew r := grown_trans h ⟨rfl, rfl, rfl, Nat.le_refl _, fun _ _ _ => rfl⟩
theorem grown_ext {a X Y : World} {r : Option Nat} (h : a.grownBy X r) (k : Below X.heap.size X Y) : a.grownBy Y r := grown_trans h (grown_of_below k r)
theorem BoxB.grown {A B R : Nat} {W X : World} {N : Nat} {x : ByteArray} {v : Value} {ys : List ByteArray} (h : BoxB A B W N x v ys) (hg : W.grownBy X (some R)) (hR : R < A) : BoxB A B X N x v ys :=
  ⟨grow_row' hg h.row (by have := h.ge; omega), past_grown h.past hg (fun e => by have := h.fresh R e; omega), h.ne, h.ge, h.fresh, h.lt, h.vlt⟩
theorem deed_g {s : ByteArray} {w W : World} {R n p k : Nat} {v : Value} (h : Drawn w W R v n p k) (hp : p + k ≤ 90000) (hs : s.size ≤ 41) :
    Calls Tryz.prog 83 #[.pointer (some ⟨R, 0, none⟩), .string s] W fun e w' => ∃ K M : Int, e = .returned (.agg #[.int .i64 K, .int .i64 M]) ∧ 0 ≤ K ∧ K ≤ 11 ∧ -1 ≤ M ∧ M ≤ 100 ∧ Drawn w w' R v n p (k + 5) ∧ W.grownBy w' (some R) := by
  obtain ⟨p', hp', hr, hg⟩ := h
  refine (deed_d s W W R n p' 0 v (Drawn.start hr) (by omega) hs).mono ?_
  rintro e w' ⟨K, M, rfl, h1, h2, h3, h4, p2, hp2, hr2, hg2⟩
  exact ⟨K, M, rfl, h1, h2, h3, h4, ⟨p2, by omega, hr2, grown_trans hg hg2⟩, hg2⟩

/-- A desk that grows by deeds. -/
structure GrowSt (w W1 X : World) (R D B : Nat) (v0 : Value) (n p m : Nat) (s : ByteArray) (v : Value) (zs : List ByteArray) : Prop where
  box : BoxB W1.heap.size X.heap.size X D s v zs
  ok : deskOk s zs = true
  drawn : Drawn w X R v0 n p m
  res : X.heap[B]? = some (.cells #[.string ⟨#[]⟩, .slice none 0 0] 27 (0, 0))
  size : W1.heap.size ≤ X.heap.size
theorem GrowSt.grown {w W1 X X' : World} {R D B n p m m' : Nat} {v0 : Value} {s : ByteArray} {v : Value} {zs : List ByteArray} (h : GrowSt w W1 X R D B v0 n p m s v zs) (hg : X.grownBy X' (some R)) (hd : Drawn w X' R v0 n p m') (hR : R < W1.heap.size) (hB : B ≠ R) : GrowSt w W1 X' R D B v0 n p m' s v zs :=
  ⟨boxB_size (h.box.grown hg hR), h.ok, hd, grow_row' hg h.res hB, Nat.le_trans h.size hg.size⟩
theorem GrowSt.ext {w W1 X X' : World} {R D B n p m : Nat} {v0 : Value} {s : ByteArray} {v : Value} {zs : List ByteArray} (h : GrowSt w W1 X R D B v0 n p m s v zs) (e : Ext X X') : GrowSt w W1 X' R D B v0 n p m s v zs :=
  ⟨boxB_size (h.box.ext e), h.ok, h.drawn.below e, e.row h.res, Nat.le_trans h.size e.size⟩
theorem GrowSt.put {w W1 X : World} {R D B n p m k0 : Nat} {v0 : Value} {s x : ByteArray} {v u : Value} {zs ys : List ByteArray} (h : GrowSt w W1 X R D B v0 n p m s v zs) (h0 : Drawn w W1 R v0 n p k0) (hB : B < W1.heap.size) (hp : PastAt X u ys) (hf : Fresh W1.heap.size u) (hne : u.ownBlock ≠ some D) (hok : deskOk x ys = true) :
    GrowSt w W1 ((X.setCell ⟨D, 0, none⟩ (.string x)).setCell ⟨D, 1, none⟩ u) R D B v0 n p m x u ys :=
  ⟨box_set h.box.row hp hf hne h.box.ge, hok, (h.drawn.setCell h0 h.box.ge 0 _).setCell h0 h.box.ge 1 _, set_far2 h.res (by have := h.box.ge; omega) _ _, by simpa [World.setCell] using h.size⟩
theorem Drawn.set2 {w W W1 : World} {R n p k k0 N : Nat} {v : Value} (h : Drawn w W R v n p k) (h0 : Drawn w W1 R v n p k0) (hN : W1.heap.size ≤ N) (x y : Value) : Drawn w ((W.setCell ⟨N, 0, none⟩ x).setCell ⟨N, 1, none⟩ y) R v n p k := (h.setCell h0 hN 0 x).setCell h0 hN 1 y
theorem gs_new {w W1 X : World} {R D B n p m : Nat} {v0 : Value} {s : ByteArray} {v : Value} {zs : List ByteArray} {A A' N : Nat} {x : ByteArray} {u : Value} {ys : List ByteArray} {o : Obj} (_ : BoxB A A' (X.alloc o) N x u ys) (h : GrowSt w W1 X R D B v0 n p m s v zs) : GrowSt w W1 (X.alloc o) R D B v0 n p m s v zs := h.ext ((Ext.refl X).alloc o)
theorem gs_set {w W1 X : World} {R D B n p m k0 : Nat} {v0 : Value} {s : ByteArray} {v : Value} {zs : List ByteArray} {A A' N : Nat} {x : ByteArray} {u a b : Value} {ys : List ByteArray} (_ : BoxB A A' ((X.setCell ⟨N, 0, none⟩ a).setCell ⟨N, 1, none⟩ b) N x u ys) (h : GrowSt w W1 X R D B v0 n p m s v zs) (h0 : Drawn w W1 R v0 n p k0) (hN : W1.heap.size ≤ N) (hD : D ≠ N) (hv : v.ownBlock ≠ some N) (hB : B < W1.heap.size) : GrowSt w W1 ((X.setCell ⟨N, 0, none⟩ a).setCell ⟨N, 1, none⟩ b) R D B v0 n p m s v zs :=
  ⟨⟨set_far2 h.box.row hD _ _, past_put (past_put h.box.past _ _ hv) _ _ hv, h.box.ne, h.box.ge, h.box.fresh, by simpa [World.setCell] using h.box.lt, fun c hc => by simpa [World.setCell] using h.box.vlt c hc⟩, h.ok, h.drawn.set2 h0 hN _ _, set_far2 h.res (by omega) _ _, by simpa [World.setCell] using h.size⟩
theorem walk_g {w W : World} {R n p k : Nat} {v : Value} {N : Int} (h : Drawn w W R v n p k) (hp : p + k ≤ 90000) (h1 : 0 ≤ N) (h2 : N ≤ 1000000) :
    Calls Tryz.prog 82 #[.pointer (some ⟨R, 0, none⟩), .int .i64 N] W fun e w' => ∃ s : ByteArray, e = .returned (.string s) ∧ s.size ≤ 41 ∧ Drawn w w' R v n p (k + 60) ∧ W.grownBy w' (some R) := by
  obtain ⟨p', hp', hr, hg⟩ := h
  refine (walk_d W W R n p' 0 v N (Drawn.start hr) (by omega) h1 h2).mono ?_
  rintro e w' ⟨s, rfl, hs, p2, hp2, hr2, hg2⟩
  exact ⟨s, rfl, hs, ⟨p2, by omega, hr2, grown_trans hg hg2⟩, hg2⟩
theorem GrowSt.fin {w W1 X : World} {R D B n p m : Nat} {v0 : Value} {s : ByteArray} {v : Value} {zs : List ByteArray} (h : GrowSt w W1 X R D B v0 n p m s v zs) : FinSt w W1 X R D B v0 n p m s v zs := by
  obtain ⟨hx1, hx8, hx2⟩ := deskOk_parts h.ok
  have hs40 := ok_size hx1
  exact ⟨h.box.row, h.box.past, h.box.ne, h.box.ge, h.box.fresh, h.drawn, h.res, h.size, by omega, by omega, fun z hz => by have := ok_size (hx2 z hz); omega⟩
theorem deskNew_ok (s : ByteArray) : deskOk (deskNew s) [] = true := by
  unfold deskNew
  split
  · rename_i h
    exact deskOk_mk h (by simp) (by simp)
  · rfl
set_option maxRecDepth 100000 in
set_option maxHeartbeats 3200000 in
theorem desk_d (w W : World) (R n p k : Nat) (v0 : Value) (N : Int) (h : Drawn w W R v0 n p k) (hp : p + k ≤ 80000) (h1 : 0 ≤ N) (h2 : N ≤ 1000000) :
    Calls Tryz.prog 42 #[.pointer (some ⟨R, 0, none⟩), .int .i64 N] W fun e w' => ∃ (s : ByteArray) (v : Value) (zs : List ByteArray), e = .returned (.agg #[.string s, v]) ∧ PastAt w' v zs ∧ Fresh W.heap.size v ∧ s.size ≤ 41 ∧ zs.length ≤ 9 ∧ (∀ z ∈ zs, z.size ≤ 41) ∧ Drawn w w' R v0 n p (k + 110) := by
  have hd1 := h.alloc (.cells #[.string ⟨#[]⟩, .slice none 0 0] 27)
  obtain ⟨W1, hW1⟩ : ∃ W1, W.alloc (.cells #[.string ⟨#[]⟩, .slice none 0 0] 27) = W1 := ⟨_, rfl⟩
  rw [hW1] at hd1
  have RES1 := Lib.hid (show W1.heap[W.heap.size]? = _ from hW1 ▸ heap_alloc_new W _)
  have hlW := h.lt
  have hl1 := hd1.lt
  have hlB : W.heap.size < W1.heap.size := by rw [← hW1]; simp
  have HW1 := Lib.hid hW1
  clear hW1
  go_enter Tryz.func42, Tryz.ntmps42
  go_wp2_with fail
  rw [HW1.out]
  go_upto_region 2 with (first
    | (go_at_call 82; refine (walk_g hd1 (by omega) (by omega) (by omega)).mono ?_; rintro e w2 ⟨s0, rfl, hs0, hd2, hg2⟩)
    | (go_at_call 81; refine (specDeskNew s0 _ (by omega)).mono ?_; rintro e w3 ⟨rfl, hb3⟩; have hd3 := hd2.below hb3; have hg3 := grown_ext hg2 hb3))
  have hok0 := deskNew_ok s0
  obtain ⟨x0, hx0⟩ : ∃ x, deskNew s0 = x := ⟨_, rfl⟩
  rw [hx0] at hok0 ⊢
  clear hx0
  have hbn := box_new (x := x0) (A := W1.heap.size) (X := w3) (v := .slice none 0 0) (ys := []) (.inl ⟨rfl, rfl⟩) (Fresh.none _) hg3.size
  have hg4 : GrowSt w W1 (w3.alloc (.cells #[.string x0, .slice none 0 0] 27)) R w3.heap.size W.heap.size v0 n p (k + 60) x0 (.slice none 0 0) [] :=
    ⟨hbn, hok0, hd3.alloc _, row_alloc (grow_row' hg3 RES1.out (by omega)) _, by have := hg3.size; simp; omega⟩
  obtain ⟨w4, hw4⟩ : ∃ w4, w3.alloc (.cells #[.string x0, .slice none 0 0] 27) = w4 := ⟨_, rfl⟩
  obtain ⟨D, hD⟩ : ∃ D, w3.heap.size = D := ⟨_, rfl⟩
  rw [hw4, hD] at hg4
  rw [hw4, hD]
  have G4 := Lib.hid hg4
  have hDge : W1.heap.size ≤ D := hg4.box.ge
  clear hw4 hD hbn hg4 hd3 hg3 hb3 hd2 hg2
  go_wp2_with (first
    | (go_at_call 68; refine (pick_d G4.out.drawn (by omega) (by omega) (by omega)).mono ?_; rintro e w5 ⟨y, rfl, hy0, hy1, hd5, hg5⟩; have G5 := Lib.hid (G4.out.grown hg5 hd5 hl1 (by omega)); clear hd5 hg5))
  obtain ⟨a, rfl⟩ := Int.eq_ofNat_of_zero_le hy0
  go_loopw [7] (fun i wr => ∃ (j m : Nat) (s : ByteArray) (v : Value) (zs : List ByteArray), i = .int .i64 j ∧ m + 5 * j ≤ k + 95 ∧ Hid (GrowSt w W1 wr R D W.heap.size v0 n p m s v zs)) (fun i _ => (intOf i).toNat)
  case atStart => exact ⟨a, k + 61, _, _, _, rfl, by omega, G5.out⟩
  case round =>
    obtain ⟨j, m, s, v, zs, rfl, hjm, HG⟩ := hrel
    obtain ⟨aV, cV, hv⟩ := past_value HG.out.box.past
    obtain ⟨hx1, hx8, hx2⟩ := deskOk_parts HG.out.ok
    have hs40 := ok_size hx1
    have HZX : Hid (∀ z ∈ zs, z.size ≤ 41) := fun z hz => by have := ok_size (hx2 z hz); omega
    have HP := Lib.hid HG.out.box.past
    have hdr := HG.out.drawn
    have hlr := hdr.lt
    have hszr := HG.out.size
    have hDlt := HG.out.box.lt
    clear hx1 hx2
    by_cases hlt : 0 < j
    · subst hv
      obtain ⟨o0, o1⟩ := HG.out.box.cells
      have hvfr := HG.out.box.fresh
      have HVF := Lib.hid hvfr
      have hvlt := HG.out.box.vlt
      have HVL := Lib.hid hvlt
      clear hvfr hvlt
      have HRR := Lib.hid (fun (X : World) (hg : wr.grownBy X (some R)) => (HG.out.box.grown hg hl1).cells)
      go_wp2_with fail
      go_region_held3 (fun w' => w'.cell? ⟨D, 0, none⟩ = some (.string s) ∧ w'.cell? ⟨D, 1, none⟩ = some (.slice aV zs.length cV))
        (first
          | exact ⟨o0, o1⟩
          | exact HRR.out _ (grown_alloc (grown_refl _ _) _)
          | exact HRR.out _ (grown_drew (grown_alloc (grown_refl _ _) _))
          | exact HRR.out _ gA
          | exact HRR.out _ (grown_alloc gA _)
          | exact HRR.out _ (grown_ext gA eC)
          | exact HRR.out _ (grown_alloc (grown_ext gA eC) _)
          | exact other_cells (by first | omega | (simp <;> omega)) (HRR.out _ (grown_ext gA eC)).1 (HRR.out _ (grown_ext gA eC)).2)
        (first
          | (go_at_call 83; refine (deed_g (by first | exact hdr.drew | exact (hdr.alloc _).drew | exact hdr.drew.alloc _) (by omega) (by omega)).mono ?_; rintro e wA ⟨K, M, rfl, hK0, hK1, hM0, hM1, hdA, hgA⟩; have gA : wr.grownBy wA (some R) := grown_trans (by first | exact grown_drew (grown_refl _ _) | exact grown_drew (grown_alloc (grown_refl _ _) _) | exact grown_alloc (grown_drew (grown_refl _ _)) _) hgA; have sA := hgA.size; have GA := Lib.hid (HG.out.grown gA hdA hl1 (by omega)); have szA : wr.heap.size ≤ wA.heap.size := gA.size; (first | (have hN := g_a (cs := #[.string ⟨#[]⟩, .slice none 0 0]) (t := 27) hgA (by omega)) | (have hN := g_ad (cs := #[.string ⟨#[]⟩, .slice none 0 0]) (t := 27) hgA (by omega)) | skip); obtain ⟨x1, h1e⟩ : ∃ x1, (deskDo s zs K M).1 = x1 := ⟨_, rfl⟩; obtain ⟨y1, h2e⟩ : ∃ x1, (deskDo s zs K M).2.1 = x1 := ⟨_, rfl⟩; obtain ⟨t1, h3e⟩ : ∃ x1, (deskDo s zs K M).2.2 = x1 := ⟨_, rfl⟩; have hok1 := deskOk_do HG.out.ok K M; rw [h1e, h2e] at hok1; have HOK1 := Lib.hid hok1; have hdo : ∀ X, StrsAt X (.slice aV zs.length cV) zs → Calls Tryz.prog 49 #[.agg #[.string s, .slice aV zs.length cV], .agg #[.int .i64 K, .int .i64 M]] X (DeskOut X x1 y1 t1) := (fun X hX => by
              have h9 := specDeskDo s (.slice aV zs.length cV) zs K M X hX (by omega) (by omega) (fun z hz => by have := HZX.out z hz; omega) (by omega)
              rwa [h1e, h2e, h3e] at h9); have HDO := Lib.hid hdo; clear hdo hok1 h1e h2e h3e hdA hgA)
          | (go_at_call 49; refine (HDO.out _ (by first | exact GA.out.box.past.strs | exact ((Ext.refl wA).alloc _).strs GA.out.box.past.strs)).mono ?_; rintro e wC ⟨vC, rfl, hpC, hfC, hbC⟩; obtain ⟨aC, cC, hvC⟩ := past_value hpC; subst hvC; have gC : Fresh wA.heap.size (Value.slice aC y1.length cC) := fresh_ext (show Ext wA _ by (first | exact Ext.refl _ | exact (Ext.refl _).alloc _)) hfC; have eC : Ext wA wC := Ext.call (by first | exact Ext.refl _ | exact (Ext.refl _).alloc _) hbC; (first | (have hN := box_keep hbC; have nN := box_ne hfC) | (have hN := box_keep_drew hbC; have nN := box_ne_drew hfC) | (have nN := fresh_ne hfC hN; have hN := Ext.row hbC hN) | skip); have PC := Lib.hid hpC; have szC := eC.size; have FC : Hid (Fresh W1.heap.size (Value.slice aC y1.length cC)) := (fun b hb => Nat.le_trans (by omega) (gC b hb)); have FCN : (Value.slice aC y1.length cC).ownBlock ≠ some D := (fun h9 => by have := gC D h9; omega); have sC : W1.heap.size ≤ wC.heap.size := (by omega); have GC := Lib.hid (GA.out.ext eC); (first | (have zN := frozen_of_row _ _ 0 _ _ hN; have zN1 := frozen_of_row _ _ 1 _ _ hN; have yN := cell_of_row _ _ 0 _ _ _ hN; have yN1 := cell_of_row _ _ 1 _ _ _ hN; have HN2 := Lib.hid hN; clear hN) | skip); clear hpC hfC gC))
      all_goals
        first
          | (have hBN := box_set (x := x1) HN2.out PC.out FC.out nN (by first | omega | (simp <;> omega)))
          | (have hBN := box_new (x := x1) PC.out FC.out sC)
        (first | (have hGX := gs_new hBN GC.out) | (have hGX := gs_set hBN GC.out hd1 (by first | omega | (simp <;> omega)) (by first | omega | (simp <;> omega)) (fun h9 => by have := HVL.out _ h9; omega) (by omega)))
        obtain ⟨n0, n1⟩ := hBN.cells
        obtain ⟨p0, p1⟩ := hGX.box.cells
        have pf0 := frozen_of_row _ _ 0 _ _ hGX.box.row
        have pf1 := frozen_of_row _ _ 1 _ _ hGX.box.row
        have HBN := Lib.hid hBN
        have GX := Lib.hid hGX
        clear hBN hGX
        cases t1
        · go_wp2
          go_roundw
          case rel => exact ⟨j - 1, m + 5, s, _, zs, by congr 1; omega, by omega, GX.out⟩
          case measure => simp [intOf]; omega
        · go_wp2
          go_roundw
          case rel => exact ⟨j - 1, m + 5, x1, _, y1, by congr 1; omega, by omega, GX.out.put hd1 hlB HBN.out.past FC.out FCN HOK1.out⟩
          case measure => simp [intOf]; omega
    · subst hv
      have FS := Lib.hid HG.out.fin
      obtain ⟨hl8x⟩ : Nonempty (zs.length ≤ 8) := ⟨(deskOk_parts HG.out.ok).2.1⟩
      go_wp2_with (first
        | (go_at_call 69; refine (odd_g hdr (by omega) (by omega) (by omega)).mono ?_; rintro e we ⟨b, rfl, hde, hge⟩; have FE := Lib.hid (FS.out.grown hge hde hl1 (by omega)); obtain ⟨c0, c1, c2, c3, c4, c5, c6, c7⟩ := FE.out.facts; cases b)
        | (go_at_call 68; refine (pick_d FE.out.drawn (by omega) (by omega) (by omega)).mono ?_; rintro e wf ⟨y, rfl, hy0, hy1, hdf, hgf⟩; have FF := Lib.hid (FE.out.grown hgf hdf hl1 (by omega)); obtain ⟨f0, f1, f2, f3, f4, f5, f6, f7⟩ := FF.out.facts; have FX := Lib.hid (FF.out.putx hd1 hlB ⟨#[120]⟩ (by decide)); obtain ⟨x0, x1, x2, x3, x4, x5, x6, x7⟩ := FX.out.facts; have FA := Lib.hid (fun o => FF.out.alloc o); obtain rfl | rfl : y = 0 ∨ y = 1 := by omega)
        | (at_builtin; refine wpList_append_past rfl (.tmp 41) (.tmp 42) rfl (v := .slice aV zs.length cV) rfl (FA.out _).past (by omega) rfl (cell_of_row _ _ 0 _ _ _ (heap_alloc_new wf _)) ?_; intro v' w' hp' hb' hf'; obtain ⟨aP, cP, hvP⟩ := past_slice hp' (M := zs.length + 1) (by simp); subst hvP; have FP := Lib.hid ((FA.out _).app hd1 hlB hl8x (by decide) hp' hb' hf'); obtain ⟨g0, g1, g2, g3, g4, g5, g6, g7⟩ := FP.out.facts; obtain ⟨i0, i1, i2, i3, i4, i5, i6, i7⟩ := (FA.out _).but_facts hlB hb'))
      · obtain ⟨r0, r1, r2⟩ := FE.out.finish h rfl hlB (k := k + 110) (by omega)
        exact bodyPost_ret (v := .agg #[.string s, .slice aV zs.length cV]) (by simp [results, Tryz.results42, go_sem, r0, r1]) rfl r2
      · obtain ⟨r0, r1, r2⟩ := FX.out.finish h rfl hlB (k := k + 110) (by omega)
        exact bodyPost_ret (v := .agg #[.string ⟨#[120]⟩, .slice aV zs.length cV]) (by simp [results, Tryz.results42, go_sem, r0, r1]) rfl r2
      all_goals
        obtain ⟨r0, r1, r2⟩ := FP.out.finish h rfl hlB (k := k + 110) (by omega)
        exact bodyPost_ret (by simp [results, Tryz.results42, go_sem, r0, r1]) rfl r2

end Go.Proofs.YtccdfndnjjjgfaaGreatDoor

namespace Go.Proofs.YtccdfndnjjjgfaaGreatDoor
open Go.RowKit

theorem Drawn.below_base {w w1 w2 : World} {R n p k : Nat} {v : Value} (h : Drawn w1 w2 R v n p k) (hb : Below w.heap.size w w1) (hR : w.heap.size ≤ R) : Below w.heap.size w w2 := by
  obtain ⟨_, _, _, hg⟩ := h
  exact hb.grown hg hb.size (fun j hj => by cases hj; exact hR)



end Go.Proofs.YtccdfndnjjjgfaaGreatDoor

namespace Go.Proofs.YtccdfndnjjjgfaaGreatDoor
open Go.RowKit

theorem code_alloc {w : World} {v : Value} {n : Nat} (h : CodeAt w v n) (o : Obj) : CodeAt (w.alloc o) v n := by
  rcases h with h | ⟨a, cap, hv, hl, hc⟩
  · exact .inl h
  · refine .inr ⟨a, cap, hv, hl, fun j hj => ?_⟩
    obtain ⟨b, h1, h2, h3⟩ := hc j hj
    exact ⟨b, h1, h2, (((Below.refl w.heap.size w).alloc (Nat.le_refl _) _).cell (World.block_lt_of_cell? w _ h3)).trans h3⟩
theorem code_value {w : World} {v : Value} {n : Nat} (h : CodeAt w v n) : ∃ a cap, v = .slice a n cap := by
  rcases h with ⟨rfl, rfl⟩ | ⟨a, cap, rfl, _⟩
  · exact ⟨_, _, rfl⟩
  · exact ⟨_, _, rfl⟩
/-- A drawn desk. -/
structure Desk41 (w : World) (s : ByteArray) (u : Value) (zs : List ByteArray) : Prop where
  past : PastAt w u zs
  hs : s.size ≤ 41
  hl : zs.length ≤ 9
  hz : ∀ z ∈ zs, z.size ≤ 41

theorem Desk41.ext {w X : World} {s : ByteArray} {u : Value} {zs : List ByteArray} (h : Desk41 w s u zs) (e : Ext w X) : Desk41 X s u zs := ⟨e.past h.past, h.hs, h.hl, h.hz⟩


theorem own_noneD (W : World) (t : TypeId) (base : Nat) (hb : base ≤ W.heap.size) : (W.alloc (.cells #[] t)).ownsRow base t 2 (.slice (some ⟨W.heap.size, 0, none⟩) 0 0) 0 [] :=
  ⟨rfl, .inr ⟨W.heap.size, 0, #[], rfl, hb, heap_alloc_new W _, Nat.le_refl _, by decide, rfl, rfl⟩⟩
/-! ### the reader stays while other memory is written -/
theorem cell_not {X : World} {B : Nat} {cs : Array Value} {t : TypeId} {a : Addr} {b : Int} (h : X.heap[B]? = some (.cells cs t (0, 0))) (hn : ∀ (j : Nat) (b : Int), cs[j]? ≠ some (.int .u8 b)) (hc : X.cell? a = some (.int .u8 b)) : a.block ≠ B := by
  intro e
  subst e
  unfold World.cell? at hc
  rw [h] at hc
  simp only at hc
  split at hc
  · cases hc
  · exact hn _ _ hc
theorem ReaderAt.put {X : World} {R B n p : Nat} {v : Value} {cs : Array Value} {t : TypeId} (h : ReaderAt X R v n p) (hB : X.heap[B]? = some (.cells cs t (0, 0))) (hn : ∀ (j : Nat) (b : Int), cs[j]? ≠ some (.int .u8 b)) (hR : R ≠ B) (x y : Value) : ReaderAt ((X.setCell ⟨B, 0, none⟩ x).setCell ⟨B, 1, none⟩ y) R v n p := by
  have hk : ∀ b, b ≠ B → ((X.setCell ⟨B, 0, none⟩ x).setCell ⟨B, 1, none⟩ y).heap[b]? = X.heap[b]? := fun b hb => (heap_setCell_other _ ⟨B, 1, none⟩ b y hb).trans (heap_setCell_other _ ⟨B, 0, none⟩ b x hb)
  refine ⟨(hk R hR).trans h.cells, ?_, h.few, h.off⟩
  rcases h.code with hc | ⟨a, cap, hv, hl, hc⟩
  · exact .inl hc
  · refine .inr ⟨a, cap, hv, hl, fun i hi => ?_⟩
    obtain ⟨b, h1, h2, h3⟩ := hc i hi
    refine ⟨b, h1, h2, ?_⟩
    rw [← h3]
    exact World.cell?_of_block (hk _ (cell_not hB hn h3))
theorem read_drew {X : World} {R n p : Nat} {v : Value} (h : ReaderAt X R v n p) : ReaderAt X.drew R v n p := ⟨h.cells, h.code, h.few, h.off⟩
theorem not_u8_desk (s : ByteArray) (a : Option Addr) (n c : Nat) : ∀ (j : Nat) (b : Int), (#[.string s, .slice a n c] : Array Value)[j]? ≠ some (.int .u8 b)
  | 0, _ => by simp
  | 1, _ => by simp
  | j + 2, _ => by simp
theorem below2 {w X : World} {A N : Nat} (h : Below A w X) (hN : A ≤ N) (x y : Value) : Below A w ((X.setCell ⟨N, 0, none⟩ x).setCell ⟨N, 1, none⟩ y) := (h.setCell hN x).setCell hN y

set_option maxRecDepth 100000 in
set_option maxHeartbeats 1600000 in
theorem deeds_d (s : ByteArray) (w W : World) (R n p k : Nat) (v : Value) (h : Drawn w W R v n p k) (hp : p + k ≤ 80000) (hs : s.size ≤ 41) :
    Calls Tryz.prog 74 #[.pointer (some ⟨R, 0, none⟩), .string s] W fun e w' => ∃ (g cap : Nat) (ds : List (Int × Int)), e = .returned (.slice (some ⟨g, 0, none⟩) ds.length cap) ∧ w'.ownsRow W.heap.size 53 2 (.slice (some ⟨g, 0, none⟩) ds.length cap) ds.length (pairCells ds) ∧ ds.length ≤ 5 ∧ (∀ d ∈ ds, (0 ≤ d.1 ∧ d.1 ≤ 11) ∧ -1 ≤ d.2 ∧ d.2 ≤ 100) ∧ Drawn w w' R v n p (k + 31) := by
  obtain ⟨i0, hi0, hz0, hz1, hz2⟩ := info_parts deedInfo
  have hown0 := own_noneD W 53 W.heap.size (Nat.le_refl _)
  have HO := Lib.hid hown0
  have HD0 := Lib.hid (h.alloc (.cells #[] 53))
  have hlR := h.lt
  have H0 := Lib.hid h
  clear hown0 h
  go_enter Tryz.func74, Tryz.ntmps74
  go_wp2_with (first
    | (go_at_call 68; refine (pick_d HD0.out (by omega) (by omega) (by omega)).mono ?_; rintro e w5 ⟨y, rfl, hy0, hy1, hd5, hg5⟩; have OWN5 := Lib.hid (HO.out.kept hg5 (.inr (fun h9 => by have h8 : W.heap.size = R := Option.some.inj h9; omega))); have HD5 := Lib.hid hd5; have hz5 : W.heap.size ≤ w5.heap.size := Nat.le_trans (by simp) hg5.size; clear hd5 hg5))
  obtain ⟨a, rfl⟩ := Int.eq_ofNat_of_zero_le hy0
  go_loopw [5, 6] (fun o i wr => ∃ (g cap j m : Nat) (ds : List (Int × Int)), o = .slice (some ⟨g, 0, none⟩) ds.length cap ∧ i = .int .i64 j ∧ ds.length + j ≤ 5 ∧ m + 5 * j ≤ k + 26 ∧ Hid (wr.ownsRow W.heap.size 53 2 (.slice (some ⟨g, 0, none⟩) ds.length cap) ds.length (pairCells ds)) ∧ Hid (Drawn w wr R v n p m) ∧ Hid (∀ d ∈ ds, (0 ≤ d.1 ∧ d.1 ≤ 11) ∧ -1 ≤ d.2 ∧ d.2 ≤ 100) ∧ W.heap.size ≤ wr.heap.size) (fun _ i _ => (intOf i).toNat)
  case atStart => exact ⟨_, _, a, k + 1, [], rfl, rfl, by simp; omega, by omega, OWN5.out, HD5.out, by show ∀ d ∈ ([] : List (Int × Int)), _; simp, hz5⟩
  case round =>
    obtain ⟨g, cap, j, m, ds, rfl, rfl, hdj, hmj, HOWN, HD, HK, hszr⟩ := hrel
    by_cases hlt : 0 < j
    · have hgb := (HOWN.out.lt g rfl).1
      go_wp2_with (first
        | (go_at_call 83; refine (deed_g HD.out (by omega) hs).mono ?_; rintro e w3 ⟨K, M, rfl, hK0, hK1, hM0, hM1, hd3, hg3⟩; have OWN3 := Lib.hid (HOWN.out.kept hg3 (.inr (fun h9 => by have h8 : g = R := Option.some.inj h9; omega))); have HD3 := Lib.hid hd3; have hs3 : W.heap.size ≤ w3.heap.size := Nat.le_trans hszr hg3.size; clear hd3 hg3)
        | (at_builtin; refine wpList_append_lies _ rfl _ _ 45 rfl W.heap.size 53 i0 _ 2 16 Tryz.underlying45 hi0 hz0 hz1 hz2 rfl (by omega) _ ds.length (pairCells ds) rfl (OWN3.out.alloc _) ⟨w3.heap.size, 0, none⟩ 1 1 [.int .i64 K, .int .i64 M] rfl rfl (World.news_of_block (cs := #[.int .i64 K, .int .i64 M]) (t := 53) (fr := (0, 0)) (heap_alloc_new w3 _)) (by simp [Value.oneCell']) (by omega) (by unfold maxLen; omega) (by omega) (by simp; omega) (w3.heap.size + 1) (by simp) ?_; intro g4 cap4 w4 hown4 hgrow4 hat4 hlt4))
      go_roundw
      case rel =>
        have e1 : (ds ++ [(K, M)]).length = ds.length + 1 := by simp
        have e2 : pairCells (ds ++ [(K, M)]) = pairCells ds ++ [.int .i64 K, .int .i64 M] := by simp [pairCells]
        have hb4 : Below W.heap.size w3 w4 := ((Below.refl W.heap.size w3).alloc hs3 _).grown hgrow4 (by simp; omega) (fun i hi => by have h8 : g = i := Option.some.inj hi; omega)
        refine ⟨g4, cap4, j - 1, m + 5, ds ++ [(K, M)], by rw [e1], by congr 1; omega, by omega, by omega, ?_, HD3.out.belowB H0.out hb4, ?_, ?_⟩
        · show World.ownsRow _ _ _ _ _ _ _
          rw [e1, e2]
          exact hown4
        · intro d hd
          rcases List.mem_append.1 hd with h1 | h1
          · exact HK.out d h1
          · rw [List.mem_singleton.1 h1]
            exact ⟨⟨hK0, hK1⟩, hM0, hM1⟩
        · exact Nat.le_trans hs3 hb4.size
      case measure => simp [intOf]; omega
    · obtain rfl : j = 0 := by omega
      go_wp2_with fail
      go_ret
      exact ⟨g, cap, ds, rfl, HOWN.out, by omega, HK.out, HD.out.mono (by omega)⟩

theorem four_bc {X : World} {B C : Nat} {tB tC : TypeId} {b0 b1 c0 c1 : Value} (rB : X.heap[B]? = some (.cells #[b0, b1] tB (0, 0))) (rC : X.heap[C]? = some (.cells #[c0, c1] tC (0, 0))) (hne : B ≠ C) (x y k m : Value) :
    ((((X.setCell ⟨B, 0, none⟩ x).setCell ⟨B, 1, none⟩ y).setCell ⟨C, 0, none⟩ k).setCell ⟨C, 1, none⟩ m).heap[B]? = some (.cells #[x, y] tB (0, 0)) ∧ ((((X.setCell ⟨B, 0, none⟩ x).setCell ⟨B, 1, none⟩ y).setCell ⟨C, 0, none⟩ k).setCell ⟨C, 1, none⟩ m).heap[C]? = some (.cells #[k, m] tC (0, 0)) :=
  ⟨set_far2 (two_put rB x y) hne k m, two_put (set_far2 rC (Ne.symm hne) x y) k m⟩
theorem two_c {X : World} {B C : Nat} {tB tC : TypeId} {x y c0 c1 : Value} (rB : X.heap[B]? = some (.cells #[x, y] tB (0, 0))) (rC : X.heap[C]? = some (.cells #[c0, c1] tC (0, 0))) (hne : B ≠ C) (k m : Value) :
    ((X.setCell ⟨C, 0, none⟩ k).setCell ⟨C, 1, none⟩ m).heap[B]? = some (.cells #[x, y] tB (0, 0)) ∧ ((X.setCell ⟨C, 0, none⟩ k).setCell ⟨C, 1, none⟩ m).heap[C]? = some (.cells #[k, m] tC (0, 0)) :=
  ⟨set_far2 rB hne k m, two_put rC k m⟩
theorem cells4 {Z : World} {B C : Nat} {tB tC : TypeId} {x y k m : Value} (q : Z.heap[B]? = some (.cells #[x, y] tB (0, 0)) ∧ Z.heap[C]? = some (.cells #[k, m] tC (0, 0))) : Z.cell? ⟨B, 0, none⟩ = some x ∧ Z.cell? ⟨B, 1, none⟩ = some y ∧ Z.cell? ⟨C, 0, none⟩ = some k ∧ Z.cell? ⟨C, 1, none⟩ = some m :=
  ⟨cell_of_row _ _ 0 _ _ _ q.1, cell_of_row _ _ 1 _ _ _ q.1, cell_of_row _ _ 0 _ _ _ q.2, cell_of_row _ _ 1 _ _ _ q.2⟩
theorem past_put2 {w : World} {v : Value} {ys : List ByteArray} (h : PastAt w v ys) {N : Nat} (hne : v.ownBlock ≠ some N) (x y : Value) : PastAt ((w.setCell ⟨N, 0, none⟩ x).setCell ⟨N, 1, none⟩ y) v ys := past_put (past_put h _ _ hne) _ _ hne


end Go.Proofs.YtccdfndnjjjgfaaGreatDoor

namespace Go.Proofs.YtccdfndnjjjgfaaGreatDoor
open Go.RowKit

/-- Deeds in a row that is known whole. -/
def RowAt (w : World) (v : Value) (ds : List (Int × Int)) : Prop :=
  (v = .slice none 0 0 ∧ ds = []) ∨ ∃ (g cap : Nat) (cur : Array Value), v = .slice (some ⟨g, 0, none⟩) ds.length cap ∧ ds.length ≤ cap ∧ w.heap[g]? = some (.cells cur 53 (0, 0)) ∧ cap * 2 ≤ cur.size ∧ ∀ (j : Nat) (d : Int × Int), ds[j]? = some d → cur[j * 2]? = some (.int .i64 d.1) ∧ cur[j * 2 + 1]? = some (.int .i64 d.2)
theorem RowAt.deeds {w : World} {v : Value} {ds : List (Int × Int)} (h : RowAt w v ds) : DeedsAt w v ds := by
  rcases h with h | ⟨g, cap, cur, rfl, hl, hg, _, hc⟩
  · exact .inl h
  · refine .inr ⟨⟨g, 0, none⟩, cap, rfl, hl, fun j d hd => ?_⟩
    rw [add_plain, Nat.zero_add]
    exact ⟨(cell_of_row _ _ _ _ _ _ hg).trans (hc j d hd).1, (cell_of_row _ _ _ _ _ _ hg).trans (hc j d hd).2⟩
theorem RowAt.ext {w X : World} {v : Value} {ds : List (Int × Int)} (h : RowAt w v ds) (e : Ext w X) : RowAt X v ds := by
  rcases h with h | ⟨g, cap, cur, rfl, hl, hg, hz, hc⟩
  · exact .inl h
  · exact .inr ⟨g, cap, cur, rfl, hl, e.row hg, hz, hc⟩
theorem RowAt.lt {w : World} {v : Value} {ds : List (Int × Int)} (h : RowAt w v ds) {b : Nat} (hb : v.ownBlock = some b) : b < w.heap.size := by
  rcases h with ⟨rfl, _⟩ | ⟨g, _, _, rfl, _, hg, _⟩
  · cases hb
  · obtain rfl : g = b := Option.some.inj hb
    exact lt_at hg
theorem RowAt.belowB {w w' : World} {v : Value} {ds : List (Int × Int)} {B : Nat} (h : RowAt w v ds) (hv : ∀ b, v.ownBlock = some b → b < B) (hb : Below B w w') : RowAt w' v ds := by
  rcases h with h | ⟨g, cap, cur, rfl, hl, hg, hz, hc⟩
  · exact .inl h
  · exact .inr ⟨g, cap, cur, rfl, hl, (hb.block _ (hv g rfl)).trans hg, hz, hc⟩
theorem row_but {w w' : World} {g n cap : Nat} {u : Value} {ds : List (Int × Int)} (h : RowAt w (.slice (some ⟨g, 0, none⟩) n cap) ds) (k : But u w w') (hne : u.ownBlock ≠ some g) : RowAt w' (.slice (some ⟨g, 0, none⟩) n cap) ds := by
  rcases h with ⟨h, _⟩ | ⟨g', cap', cur, he, hl, hg, hz, hc⟩
  · cases h
  · simp only [Value.slice.injEq, Option.some.injEq, Addr.mk.injEq, and_true] at he
    obtain ⟨rfl, rfl, rfl⟩ := he
    exact .inr ⟨g, cap, cur, rfl, hl, (k.block g (lt_at hg) hne).trans hg, hz, hc⟩
theorem row_own {w : World} {base n : Nat} {v : Value} {ds : List (Int × Int)} (h : w.ownsRow base 53 2 v n (pairCells ds)) (hn : ds.length = n) : RowAt w v ds := by
  rcases h.2 with ⟨rfl, h0⟩ | ⟨g, cap, cur, rfl, _, hg, hl, _, hs, ht⟩
  · exact .inl ⟨rfl, List.length_eq_zero_iff.1 (by omega)⟩
  · refine .inr ⟨g, cap, cur, by rw [hn], by omega, hg, by omega, fun j d hd => ?_⟩
    have hj := (List.getElem?_eq_some_iff.1 hd).1
    have hp := pairCells_get ds j d hd
    have e : ∀ i, i < n * 2 → cur[i]? = (pairCells ds)[i]? := fun i hi => by
      have := congrArg (·[i]?) ht
      rw [List.getElem?_take, if_pos hi, Array.getElem?_toList] at this
      exact this
    exact ⟨(e _ (by omega)).trans hp.1, (e _ (by omega)).trans hp.2⟩
theorem row_set {w : World} {g n cap j : Nat} {ds : List (Int × Int)} (h : RowAt w (.slice (some ⟨g, 0, none⟩) n cap) ds) (hj : j < n) (a b : Int) : RowAt ((w.setCell ⟨g, j * 2, none⟩ (.int .i64 a)).setCell ⟨g, j * 2 + 1, none⟩ (.int .i64 b)) (.slice (some ⟨g, 0, none⟩) n cap) (ds.set j (a, b)) := by
  rcases h with ⟨h, _⟩ | ⟨g', cap', cur, he, hl, hg, hz, hc⟩
  · cases h
  · simp only [Value.slice.injEq, Option.some.injEq, Addr.mk.injEq, and_true] at he
    obtain ⟨rfl, rfl, rfl⟩ := he
    refine .inr ⟨g, cap, (cur.set! (j * 2) (.int .i64 a)).set! (j * 2 + 1) (.int .i64 b), by rw [List.length_set], by rw [List.length_set]; exact hl, ?_, by simpa using hz, fun i y hi => ?_⟩
    · simp [World.setCell, Array.getElem?_modify, hg]
    · rw [List.getElem?_set] at hi
      simp only [Array.set!_eq_setIfInBounds, Array.getElem?_setIfInBounds, Array.size_setIfInBounds]
      by_cases hij : j = i
      · subst hij
        rw [if_pos rfl] at hi
        have hi2 : (a, b) = y := by
          rw [if_pos hj] at hi
          exact Option.some.inj hi
        subst hi2
        rw [if_neg (by omega), if_pos rfl, if_pos (by omega), if_pos rfl, if_pos (by omega)]
        exact ⟨rfl, rfl⟩
      · rw [if_neg hij] at hi
        rw [if_neg (by omega), if_neg (by omega), if_neg (by omega), if_neg (by omega)]
        exact hc i y hi
theorem row_cells {w : World} {g n cap j : Nat} {ds : List (Int × Int)} (h : RowAt w (.slice (some ⟨g, 0, none⟩) n cap) ds) {d : Int × Int} (hd : ds[j]? = some d) : w.cell? ⟨g, j * 2, none⟩ = some (.int .i64 d.1) ∧ w.cell? ⟨g, j * 2 + 1, none⟩ = some (.int .i64 d.2) ∧ w.frozen? ⟨g, j * 2, none⟩ = false ∧ w.frozen? ⟨g, j * 2 + 1, none⟩ = false := by
  rcases h with ⟨h, _⟩ | ⟨g', cap', cur, he, hl, hg, hz, hc⟩
  · cases h
  · simp only [Value.slice.injEq, Option.some.injEq, Addr.mk.injEq, and_true] at he
    obtain ⟨rfl, _, _⟩ := he
    exact ⟨(cell_of_row _ _ _ _ _ _ hg).trans (hc j d hd).1, (cell_of_row _ _ _ _ _ _ hg).trans (hc j d hd).2, frozen_of_row _ _ _ _ _ hg, frozen_of_row _ _ _ _ _ hg⟩
/-- The marks of deeds. -/
def marksD (k : Int) (n : Nat) : List (Int × Int) := (List.range n).map fun (i : Nat) => (k + 2 * (i : Int), k + 2 * (i : Int) + 1)
theorem marksD_length (k : Int) (n : Nat) : (marksD k n).length = n := by simp [marksD]
theorem marksD_at {k : Int} {n i : Nat} (h : i < n) : (marksD k n)[i]? = some (k + 2 * (i : Int), k + 2 * (i : Int) + 1) := by simp [marksD, h]
theorem marksD_succ (k : Int) (n : Nat) : marksD k (n + 1) = marksD k n ++ [(k + 2 * (n : Int), k + 2 * (n : Int) + 1)] := by unfold marksD; rw [List.range_succ, List.map_append]; rfl
theorem setD_take {ds : List (Int × Int)} {k : Int} {j : Nat} (h : ds.take j = marksD k j) (hj : j < ds.length) : (ds.set j (k + 2 * (j : Int), k + 2 * (j : Int) + 1)).take (j + 1) = marksD k (j + 1) := by
  rw [marksD_succ, List.take_add_one, List.take_set_of_le (Nat.le_refl _), h, List.getElem?_set, if_pos rfl, if_pos hj]
  rfl





end Go.Proofs.YtccdfndnjjjgfaaGreatDoor

namespace Go.Proofs.YtccdfndnjjjgfaaGreatDoor
open Go.RowKit

theorem sizeBuilder : (Tryz.prog.info? 97).map (·.size) = some 2 := by kernel_rfl
theorem liesBuilder : liesAt Tryz.prog Tryz.prog.depth 97 (2 / Tryz.prog.cellsOf 97) 0 97 1 = true := by kernel_rfl
theorem infoByte : (Tryz.prog.info? 5).map (fun i => (i.zero, i.size, i.bytes)) = some (some (.int .u8 0), 1, 1) := by kernel_rfl

set_option maxHeartbeats 1000000 in
set_option maxRecDepth 100000 in
theorem copyCheck_used (b : Nat) (w : World) (h0 : w.cell? ⟨b, 0, none⟩ = some (.pointer (some ⟨b, 0, none⟩))) :
    Calls Tryz.prog 116 #[.pointer (some ⟨b, 0, none⟩)] w fun e w' => e = .returned (.tuple #[]) ∧ w' = w := by
  obtain ⟨j, hj, _⟩ := Option.map_eq_some_iff.1 sizeBuilder
  go_enter Tryz.func116, Tryz.ntmps116
  go_wp2
  rw [Lib.run_neq_ptr_same w _ Tryz.underlying95 hj]
  go_wp2
  go_end0
  exact ⟨rfl, rfl⟩

set_option maxHeartbeats 1000000 in
set_option maxRecDepth 100000 in
theorem copyCheck_fresh (b : Nat) (w : World) (h0 : w.cell? ⟨b, 0, none⟩ = some (.pointer none)) (hsh : w.shape? b = some (97, 2)) (hfz : w.frozen? ⟨b, 0, none⟩ = false) :
    Calls Tryz.prog 116 #[.pointer (some ⟨b, 0, none⟩)] w fun e w' => e = .returned (.tuple #[]) ∧ w' = w.setCell ⟨b, 0, none⟩ (.pointer (some ⟨b, 0, none⟩)) := by
  obtain ⟨j, hj, hjs⟩ := Option.map_eq_some_iff.1 sizeBuilder
  go_enter Tryz.func116, Tryz.ntmps116
  go_wp2
  rw [Lib.run_to_unsafe w ⟨b, 0, none⟩ Tryz.underlying95 Tryz.underlying142 hj (by rw [hjs]; decide) hsh (Nat.zero_lt_succ 1)]
  simp only [Result.andThen]
  rw [Oper.upon_value]
  go_wp2
  rw [run_callFunc_extern Tryz.func142 (by kernel_rfl) (by kernel_rfl) (by kernel_rfl) (e := Extern.AbiNoEscape.same) (by kernel_rfl)]
  rw [Lib.run_noEscape]
  simp only [Result.andThen]
  rw [Oper.upon_value]
  go_wp2
  rw [Lib.run_from_unsafe w ⟨b, 0, none⟩ Tryz.underlying142 Tryz.underlying95 hj hsh liesBuilder]
  simp only [Result.andThen]
  rw [Oper.upon_value]
  go_wp2
  go_end0
  exact ⟨rfl, rfl⟩

theorem copyCheck_any (B b : Nat) (bs : List Value) (w : World) (h : Lib.IsBuilder 97 5 B b bs w) :
    Calls Tryz.prog 116 #[.pointer (some ⟨b, 0, none⟩)] w fun e w' => e = .returned (.tuple #[]) ∧ (Lib.BuilderAt 97 5 B b (.pointer (some ⟨b, 0, none⟩)) bs w' ∧ Below B w w') := by
  rcases h with h | h
  · refine (copyCheck_fresh b w h.cell0 h.shape h.frozen0).mono ?_
    rintro e w' ⟨rfl, rfl⟩
    exact ⟨rfl, h.used _, (Below.refl B w).setCell (p := ⟨b, 0, none⟩) h.1 _⟩
  · refine (copyCheck_used b w h.cell0).mono ?_
    rintro e w' ⟨rfl, rfl⟩
    exact ⟨rfl, h, Below.refl B _⟩

set_option maxHeartbeats 2000000 in
set_option maxRecDepth 100000 in
theorem writeByte_any (B b : Nat) (bs : List Value) (c : Int) (w : World) (h : Lib.IsBuilder 97 5 B b bs w) (hlen : bs.length + 1 ≤ 140737488355328) (hBw : B ≤ w.heap.size) :
    Calls Tryz.prog 78 #[.pointer (some ⟨b, 0, none⟩), .int .u8 c] w fun e w' => e = .returned .nilIface ∧ (Lib.BuilderAt 97 5 B b (.pointer (some ⟨b, 0, none⟩)) (bs ++ [.int .u8 c]) w' ∧ Below B w w') := by
  obtain ⟨i0, hi, hz0, hz1, hz2⟩ := info_parts infoByte
  go_enter Tryz.func78, Tryz.ntmps78
  go_wp2_with (go_at_call 116; refine (copyCheck_any B b bs _ h).mono ?_)
  rintro e w1 ⟨rfl, h1, hb1⟩
  obtain ⟨hB, v, hbk, hown, hne⟩ := h1
  have c0 : w1.cell? ⟨b, 0, none⟩ = some (.pointer (some ⟨b, 0, none⟩)) := by rw [Lib.cell_of_heap hbk]; rfl
  have c1 : w1.cell? ⟨b, 1, none⟩ = some v := by rw [Lib.cell_of_heap hbk]; rfl
  go_wp2_with (at_builtin; refine wpList_append_own _ rfl _ _ 36 rfl B 5 i0 (.int .u8 0) 1 1 Tryz.underlying36 hi hz0 hz1 hz2 rfl (by decide) _ _ _ rfl (hown.alloc _) ⟨w1.heap.size, 0, none⟩ 1 1 [.int .u8 c] rfl rfl ?c1 ?c2 ?c3 ?c4 ?c5 ?_)
  case c1 =>
    intro j u hj
    match j, hj with
    | 0, hj => simp at hj; subst hj; simp [Addr.add]
  case c2 => intro u hu; simp at hu; subst hu; rfl
  case c3 => unfold maxLen; omega
  case c4 => omega
  case c5 => have := hb1.size; simp; omega
  intro v' w2 hown' hgrow _
  have hlt : b < w1.heap.size := by
    rcases Nat.lt_or_ge b w1.heap.size with h' | h'
    · exact h'
    · simp [Array.getElem?_eq_none h'] at hbk
  have hb2 : w2.heap[b]? = some (.cells #[.pointer (some ⟨b, 0, none⟩), v] 97 (0, 0)) := by
    rw [hgrow.block b (by simp; omega) (fun e => hne e.symm), Lib.alloc_old w1 _ b hlt]
    exact hbk
  have d0 : w2.cell? ⟨b, 0, none⟩ = some (.pointer (some ⟨b, 0, none⟩)) := by rw [Lib.cell_of_heap hb2]; rfl
  have d1 : w2.cell? ⟨b, 1, none⟩ = some v := by rw [Lib.cell_of_heap hb2]; rfl
  have f1 : w2.frozen? ⟨b, 1, none⟩ = false := Lib.frozen_of_heap hb2 1
  obtain ⟨g, cap, rfl⟩ : ∃ g cap, v' = .slice (some ⟨g, 0, none⟩) (bs.length + 1) cap := by
    rcases hown'.2 with ⟨_, h0⟩ | ⟨g, cap, cur, hv, _⟩
    · omega
    · exact ⟨g, cap, hv⟩
  go_wp2
  go_ret
  refine ⟨rfl, ?_, ?_⟩
  · exact Lib.BuilderAt.put (T := 97) (e := 5) hB hb2 (bs' := bs ++ [.int .u8 c]) (by simpa using hown') (by decide)
  · exact ((hb1.alloc (by have := hb1.size; omega) _).grown hgrow (by have := hb1.size; simp; omega) (fun k hk => (hown.lt k hk).1)).setCell (p := ⟨b, 1, none⟩) hB _

end Go.Proofs.YtccdfndnjjjgfaaGreatDoor

namespace Go.Proofs.YtccdfndnjjjgfaaGreatDoor
open Go.RowKit

theorem builderKept {B b : Nat} {p : Value} {bs : List Value} {w w' : World} (h : Lib.BuilderAt 97 5 B b p bs w) (hb : Below w.heap.size w w') : Lib.BuilderAt 97 5 B b p bs w' := by
  have hlt := h.lt
  obtain ⟨hB, v, hk, hown, hne⟩ := h
  exact ⟨hB, v, (hb.block _ hlt).trans hk, own_below hown hb, hne⟩
theorem isBuilderKept {B b : Nat} {bs : List Value} {w w' : World} (h : Lib.IsBuilder 97 5 B b bs w) (hb : Below w.heap.size w w') : Lib.IsBuilder 97 5 B b bs w' := h.imp (fun h => builderKept h hb) (fun h => builderKept h hb)

set_option maxHeartbeats 2000000 in
set_option maxRecDepth 100000 in
theorem writeString_any (B b : Nat) (bs : List Value) (s : ByteArray) (w : World) (h : Lib.IsBuilder 97 5 B b bs w) (hlen : bs.length + s.size ≤ 140737488355328) (hBw : B ≤ w.heap.size) :
    Calls Tryz.prog 77 #[.pointer (some ⟨b, 0, none⟩), .string s] w fun e w' => e = .returned (.tuple #[.int .i64 s.size, .nilIface]) ∧ (Lib.BuilderAt 97 5 B b (.pointer (some ⟨b, 0, none⟩)) (bs ++ Lib.byteCells s.data.toList) w' ∧ Below B w w') := by
  obtain ⟨i0, hi, hz0, hz1, hz2⟩ := info_parts infoByte
  go_enter Tryz.func77, Tryz.ntmps77
  go_wp2_with (go_at_call 116; refine (copyCheck_any B b bs _ h).mono ?_)
  rintro e w1 ⟨rfl, h1, hb1⟩
  obtain ⟨hB, v, hbk, hown, hne⟩ := h1
  have c0 : w1.cell? ⟨b, 0, none⟩ = some (.pointer (some ⟨b, 0, none⟩)) := by rw [Lib.cell_of_heap hbk]; rfl
  have c1 : w1.cell? ⟨b, 1, none⟩ = some v := by rw [Lib.cell_of_heap hbk]; rfl
  go_wp2_with (at_builtin; refine Lib.wpList_append_own_string _ rfl _ _ 36 9 rfl B 5 i0 Tryz.underlying36 Tryz.underlying9 hi hz0 hz1 hz2 _ _ _ rfl hown s rfl ?c3 ?c4 ?c5 ?_)
  case c3 => unfold maxLen; omega
  case c4 => omega
  case c5 => have := hb1.size; omega
  intro v' w2 hown' hgrow _
  have hlt : b < w1.heap.size := by
    rcases Nat.lt_or_ge b w1.heap.size with h' | h'
    · exact h'
    · simp [Array.getElem?_eq_none h'] at hbk
  have hb2 : w2.heap[b]? = some (.cells #[.pointer (some ⟨b, 0, none⟩), v] 97 (0, 0)) := by
    rw [hgrow.block b hlt (fun e => hne e.symm)]
    exact hbk
  have d0 : w2.cell? ⟨b, 0, none⟩ = some (.pointer (some ⟨b, 0, none⟩)) := by rw [Lib.cell_of_heap hb2]; rfl
  have d1 : w2.cell? ⟨b, 1, none⟩ = some v := by rw [Lib.cell_of_heap hb2]; rfl
  have f1 : w2.frozen? ⟨b, 1, none⟩ = false := Lib.frozen_of_heap hb2 1
  obtain ⟨ao, n', cap, rfl⟩ : ∃ ao n' cap, v' = .slice ao n' cap := by
    rcases hown'.2 with ⟨hv, _⟩ | ⟨g, cap, cur, hv, _⟩
    · exact ⟨_, _, _, hv⟩
    · exact ⟨_, _, _, hv⟩
  go_wp2
  go_ret2
  refine ⟨rfl, ?_, ?_⟩
  · exact Lib.BuilderAt.put (T := 97) (e := 5) hB hb2 (bs' := bs ++ Lib.strCells s) (by simpa [Lib.strCells_length] using hown') (by decide)
  · exact (hb1.grown hgrow (by have := hb1.size; omega) (fun k hk => (hown.lt k hk).1)).setCell (p := ⟨b, 1, none⟩) hB _

end Go.Proofs.YtccdfndnjjjgfaaGreatDoor

namespace Go.Proofs.YtccdfndnjjjgfaaGreatDoor
open Go.RowKit

def dt (d : Int × Int) : List UInt8 := deedText d.1 d.2
def jt (ds : List (Int × Int)) : List UInt8 := ds.flatMap fun d => dt d ++ [10]
def goodTo (ds : List (Int × Int)) : Bool := ds.all fun d => !(dt d).isEmpty
/-- The text of a journal. -/
def journal (ds : List (Int × Int)) : List UInt8 := if goodTo ds then jt ds else []
theorem dt_few (d : Int × Int) : (dt d).length ≤ 7 := by
  unfold dt deedText
  split
  · rename_i hk
    split
    · rename_i hn
      have h2 := dec_few (i := d.2.toNat) (by omega)
      rw [Tw.str_size] at h2
      rcases hk with h | h | h
      all_goals
        rw [h]
        simp [deedWord]
        omega
    · simp
  · split
    · rename_i hk
      split
      · rcases hk with h | h | h
        all_goals
          rw [h]
          simp [deedWord]
      · simp
    · simp
theorem jt_succ {ds : List (Int × Int)} {j : Nat} {d : Int × Int} (h : ds[j]? = some d) : jt (ds.take (j + 1)) = jt (ds.take j) ++ (dt d ++ [10]) := by
  unfold jt
  rw [List.take_add_one, h, List.flatMap_append]
  simp
theorem good_succ {ds : List (Int × Int)} {j : Nat} {d : Int × Int} (h : ds[j]? = some d) (hg : goodTo (ds.take j) = true) (hd : dt d ≠ []) : goodTo (ds.take (j + 1)) = true := by
  unfold goodTo at *
  rw [List.take_add_one, h, List.all_append, hg]
  simp [hd]
theorem journal_bad {ds : List (Int × Int)} {j : Nat} {d : Int × Int} (h : ds[j]? = some d) (hd : dt d = []) : journal ds = [] := by
  unfold journal
  have : goodTo ds = false := by
    unfold goodTo
    rw [Bool.eq_false_iff]
    intro hall
    have := List.all_eq_true.1 hall d (List.mem_of_getElem? h)
    simp [hd] at this
  rw [this]
  rfl
theorem journal_good {ds : List (Int × Int)} (h : goodTo ds = true) : journal ds = jt ds := by unfold journal; rw [h]; rfl
theorem nil_of_size0 {s : ByteArray} (h : s.size = 0) : s = ⟨#[]⟩ := by
  apply ByteArray.ext
  exact Array.eq_empty_of_size_eq_zero h
theorem notEmpty0 {s : ByteArray} (h : 0 < s.size) : s.toList.isEmpty = false := by
  rw [Lib.toList_data]
  cases hl : s.data.toList with
  | nil => have := size_data s; rw [hl] at this; simp at this; omega
  | cons _ _ => rfl
theorem lit_size0 (a : Array UInt8) : (ByteArray.mk a).size = a.size := rfl
theorem str_nil_of {l : List UInt8} (h : (Tw.str l).size = 0) : l = [] := by
  rw [Tw.str_size] at h
  exact List.length_eq_zero_iff.1 h

set_option maxRecDepth 100000 in
set_option maxHeartbeats 3200000 in
theorem specJournal (v : Value) (ds : List (Int × Int)) (w : World) (h : DeedsAt w v ds) (hn : ds.length ≤ 1048576) :
    Calls Tryz.prog 70 #[v] w fun e w' => e = .returned (.string (Tw.str (journal ds))) ∧ Below w.heap.size w w' := by
  rcases h with ⟨rfl, rfl⟩ | ⟨a, cap, rfl, hl, hc⟩
  · go_enter Tryz.func70, Tryz.ntmps70
    go_wp2
    refine wp_loop_rounds 1 ?_
    rw [rounds_succ]
    go_wp2
    go_ret
    exact ⟨rfl, Below.refl _ _⟩
  · obtain ⟨n, hnn⟩ : ∃ n, ds.length = n := ⟨_, rfl⟩
    rw [hnn] at hn hl ⊢
    have HC := Lib.hid hc
    have HN := Lib.hid hnn
    clear hc hnn
    go_enter Tryz.func70, Tryz.ntmps70
    go_wp2
    go_loopw [3, 4] (fun o i wr => ∃ (j : Nat) (x : ByteArray), o = .string x ∧ i = .int .i64 j ∧ j ≤ n ∧ x.size ≤ 10 * j ∧ Hid (x = Tw.str (jt (ds.take j))) ∧ Hid (goodTo (ds.take j) = true) ∧ Below w.heap.size w wr) (fun _ i _ => n - (intOf i).toNat)
    case atStart => exact ⟨0, _, rfl, rfl, Nat.zero_le _, Nat.le_refl _, rfl, rfl, Below.refl _ _⟩
    case round =>
      obtain ⟨j, x, rfl, rfl, hj, hx, HX, HG, hb⟩ := hrel
      by_cases hlt : j < n
      · obtain ⟨d, hd⟩ : ∃ d, ds[j]? = some d := ⟨ds[j]'(by rw [HN.out]; exact hlt), List.getElem?_eq_getElem (by rw [HN.out]; exact hlt)⟩
        have c0 := cell_keep hb (HC.out j d hd).1
        have c1 := cell_keep hb (HC.out j d hd).2
        have g0 := (HC.out j d hd).1
        have g1 := (HC.out j d hd).2
        have G0 := Lib.hid g0
        have G1 := Lib.hid g1
        obtain ⟨t, ht⟩ : ∃ t, Tw.str (dt d) = t := ⟨_, rfl⟩
        have ht7 : t.size ≤ 7 := by rw [← ht, Tw.str_size]; exact dt_few d
        have hct : Hid (∀ W : World, Calls Tryz.prog 84 #[.agg #[.int .i64 d.1, .int .i64 d.2]] W fun e w' => e = .returned (.string t) ∧ Below W.heap.size W w') := fun W => ht ▸ specDeedText d.1 d.2 W
        have HD := Lib.hid hd
        have HT := Lib.hid ht
        have hk3 : (0 : Int) ≤ (j : Int) := by omega
        have hk4 : (j : Int) < (n : Int) := by omega
        clear hd ht g0 g1
        by_cases ht0 : t.size = 0
        · obtain rfl := nil_of_size0 ht0
          go_wp2_with (first
            | (go_at_call 84; refine (hct.out _).mono ?_; rintro e w1 ⟨rfl, hb1⟩))
          go_ret
          exact ⟨ret_str (by rw [journal_bad HD.out (str_nil_of (by rw [HT.out]; rfl))]; rfl), hb.trans (hb1.mono hb.size)⟩
        · have hne := notEmpty0 (s := t) (by omega)
          go_wp2_with (first
            | (go_at_call 84; first
                | (have hq := hb2; refine (hct.out _).mono ?_; rintro e w2 ⟨rfl, hb3'⟩; have hb3 := hb2.trans (hb3'.mono hb2.size))
                | (refine (hct.out _).mono ?_; rintro e w1 ⟨rfl, hb1⟩; have hb2 := hb.trans (hb1.mono hb.size); have e0 := cell_keep hb2 G0.out; have e1 := cell_keep hb2 G1.out)))
          go_roundw
          case rel =>
            refine ⟨j + 1, _, rfl, by go_num, by omega, by simp [lit_size0]; omega, ?_, ?_, hb3⟩
            · show _ = _
              rw [HX.out, ← HT.out, jt_succ HD.out]
              show Tw.str _ ++ Tw.str _ ++ Tw.str [10] = _
              rw [Tw.str_append, Tw.str_append, List.append_assoc]
            · refine good_succ HD.out HG.out ?_
              intro e
              have := HT.out
              rw [e] at this
              rw [← this] at ht0
              exact ht0 rfl
          case measure => simp [intOf]; omega
      · obtain rfl : j = n := by omega
        go_wp2
        go_ret
        have e : ds.take j = ds := List.take_of_length_le (by rw [HN.out]; exact Nat.le_refl _)
        refine ⟨ret_str ?_, hb⟩
        have hg := HG.out
        rw [e] at hg
        rw [HX.out, e, journal_good hg]

set_option maxRecDepth 100000 in
set_option maxHeartbeats 3200000 in
theorem implJournal (v : Value) (ds : List (Int × Int)) (w : World) (hw : WordsAt w) (h : DeedsAt w v ds) (hn : ds.length ≤ 1048576) :
    Calls Tryz.prog 37 #[v] w fun e w' => e = .returned (.string (Tw.str (journal ds))) ∧ Below w.heap.size w w' := by
  have hbu := Lib.fresh_isBuilder 97 5 w
  have hb0 : Below w.heap.size w (w.alloc (.cells #[.pointer none, .slice none 0 0] 97)) := (Below.refl _ _).alloc (Nat.le_refl _) _
  rcases h with ⟨rfl, rfl⟩ | ⟨a, cap, rfl, hl, hc⟩
  · go_enter Tryz.func37, Tryz.ntmps37
    go_wp2
    refine wp_loop_rounds 1 ?_
    rw [rounds_succ]
    go_wp2_with (first
      | (go_at_call 79; refine (Tryz.Builder_String_any w.heap.size w.heap.size [] _ hbu (by simp)).mono ?_; rintro e w6 ⟨rfl, hb6⟩))
    go_ret
    exact ⟨rfl, hb0.trans hb6⟩
  · obtain ⟨n, hnn⟩ : ∃ n, ds.length = n := ⟨_, rfl⟩
    rw [hnn] at hn hl ⊢
    have HC := Lib.hid hc
    have HN := Lib.hid hnn
    clear hc hnn
    go_enter Tryz.func37, Tryz.ntmps37
    go_wp2
    go_loopw [5, 6, 9] (fun _ _ i wr => ∃ j : Nat, i = .int .i64 j ∧ j ≤ n ∧ Lib.IsBuilder 97 5 w.heap.size w.heap.size (Lib.byteCells (jt (ds.take j))) wr ∧ (jt (ds.take j)).length ≤ 10 * j ∧ Hid (goodTo (ds.take j) = true) ∧ Below w.heap.size w wr ∧ w.heap.size ≤ wr.heap.size) (fun _ _ i _ => n - (intOf i).toNat)
    case atStart => exact ⟨0, rfl, Nat.zero_le _, hbu, Nat.le_refl _, rfl, hb0, by simp⟩
    case round =>
      obtain ⟨j, rfl, hj, hbuj, hjl, HG, hb, hsz⟩ := hrel
      by_cases hlt : j < n
      · obtain ⟨d, hd⟩ : ∃ d, ds[j]? = some d := ⟨ds[j]'(by rw [HN.out]; exact hlt), List.getElem?_eq_getElem (by rw [HN.out]; exact hlt)⟩
        have c0 := cell_keep hb (HC.out j d hd).1
        have c1 := cell_keep hb (HC.out j d hd).2
        obtain ⟨t, ht⟩ : ∃ t, Tw.str (dt d) = t := ⟨_, rfl⟩
        have ht7 : t.size ≤ 7 := by rw [← ht, Tw.str_size]; exact dt_few d
        have hct : Hid (∀ W : World, WordsAt W → Calls Tryz.prog 35 #[.agg #[.int .i64 d.1, .int .i64 d.2]] W fun e w' => e = .returned (.string t) ∧ Below W.heap.size W w') := fun W hW => ht ▸ implDeedText d.1 d.2 W hW
        obtain ⟨J, hJ⟩ : ∃ J, jt (ds.take j) = J := ⟨_, rfl⟩
        have hjs := jt_succ hd
        rw [hJ] at hbuj hjl hjs
        have HJ := Lib.hid hjs
        have HD := Lib.hid hd
        have HT := Lib.hid ht
        have hk3 : (0 : Int) ≤ (j : Int) := by omega
        have hk4 : (j : Int) < (n : Int) := by omega
        have hbA := hb.alloc hsz (.cells #[.int .i64 d.1, .int .i64 d.2] 53)
        have HBA := Lib.hid hbA
        clear hd ht hJ hjs hbA
        by_cases ht0 : t.size = 0
        · obtain rfl := nil_of_size0 ht0
          go_wp2_with (first
            | (go_at_call 35; refine (hct.out _ (hw.below' HBA.out)).mono ?_; rintro e w1 ⟨rfl, hb1⟩))
          go_ret
          exact ⟨ret_str (by rw [journal_bad HD.out (str_nil_of (by rw [HT.out]; rfl))]; rfl), HBA.out.trans (hb1.mono HBA.out.size)⟩
        · have hne := notEmpty0 (s := t) (by omega)
          go_wp2_with (first
            | (go_at_call 35; refine (hct.out _ (hw.below' HBA.out)).mono ?_; rintro e w1 ⟨rfl, hb1⟩; have hbu1 := isBuilderKept (isBuilderKept hbuj ((Below.refl _ _).alloc (Nat.le_refl _) (.cells #[.int .i64 d.1, .int .i64 d.2] 53))) hb1; have hb2 := HBA.out.trans (hb1.mono HBA.out.size); have hsz2 := hb2.size)
            | (go_at_call 77; refine (writeString_any w.heap.size w.heap.size _ t _ hbu1 (by rw [Lib.byteCells_length]; omega) hsz2).mono ?_; rintro e w3 ⟨rfl, hbu3, hb3'⟩; have hb3 := hb2.trans hb3'; have hsz3 := hb3.size)
            | (go_at_call 78; refine (writeByte_any w.heap.size w.heap.size _ 10 _ (.inr hbu3) (by rw [List.length_append, Lib.byteCells_length, Lib.byteCells_length, size_data]; omega) hsz3).mono ?_; rintro e w4 ⟨rfl, hbu4, hb4'⟩; have hb4 := hb3.trans hb4'))
          go_roundw
          case rel =>
            have ht' : t.data.toList = dt d := by rw [← HT.out, Tw.str_data]
            have e1 : Lib.byteCells J ++ Lib.byteCells t.data.toList ++ [.int .u8 10] = Lib.byteCells (jt (ds.take (j + 1))) := by
              rw [HJ.out, ht']
              simp [Lib.byteCells]
            rw [e1] at hbu4
            refine ⟨j + 1, by go_num, by omega, .inr hbu4, ?_, ?_, hb4, hb4.size⟩
            · rw [HJ.out, List.length_append, List.length_append]
              have := dt_few d
              simp
              omega
            · refine good_succ HD.out HG.out ?_
              intro e
              have := HT.out
              rw [e] at this
              rw [← this] at ht0
              exact ht0 rfl
          case measure => simp [intOf]; omega
      · obtain rfl : j = n := by omega
        go_wp2_with (first
          | (go_at_call 79; refine (Tryz.Builder_String_any w.heap.size w.heap.size _ _ hbuj hsz).mono ?_; rintro e w6 ⟨rfl, hb6⟩))
        go_ret
        have e : ds.take j = ds := List.take_of_length_le (by rw [HN.out]; exact Nat.le_refl _)
        have hg := HG.out
        rw [e] at hg
        refine ⟨ret_str ?_, hb.trans hb6⟩
        rw [e, journal_good hg]
        rfl


end Go.Proofs.YtccdfndnjjjgfaaGreatDoor

namespace Go.Proofs.YtccdfndnjjjgfaaGreatDoor
open Go.RowKit

theorem row_grown {X X' : World} {v : Value} {ds : List (Int × Int)} {row : Option Nat} (h : RowAt X v ds) (hg : X.grownBy X' row) (hne : v.ownBlock ≠ row) : RowAt X' v ds := by
  rcases h with h | ⟨g, cap, cur, rfl, hl, hr, hz, hc⟩
  · exact .inl h
  · exact .inr ⟨g, cap, cur, rfl, hl, (hg.block g (lt_at hr) hne).trans hr, hz, hc⟩
theorem row_at {w : World} {g n cap : Nat} {ds : List (Int × Int)} (h : RowAt w (.slice (some ⟨g, 0, none⟩) n cap) ds) {j : Nat} {d : Int × Int} (hd : ds[j]? = some d) : w.cell? ⟨g, j * 2, none⟩ = some (.int .i64 d.1) ∧ w.cell? ⟨g, j * 2 + 1, none⟩ = some (.int .i64 d.2) := ⟨(row_cells h hd).1, (row_cells h hd).2.1⟩
/-- Deeds as they are drawn. -/
def Drew (ds : List (Int × Int)) : Prop := ∀ d ∈ ds, (0 ≤ d.1 ∧ d.1 ≤ 11) ∧ -1 ≤ d.2 ∧ d.2 ≤ 100
theorem Drew.snoc {ds : List (Int × Int)} (h : Drew ds) {d : Int × Int} (hd : (0 ≤ d.1 ∧ d.1 ≤ 11) ∧ -1 ≤ d.2 ∧ d.2 ≤ 100) : Drew (ds ++ [d]) := by
  intro x hx
  rcases List.mem_append.1 hx with h1 | h1
  · exact h x h1
  · rw [List.mem_singleton.1 h1]
    exact hd
theorem own_leD {w : World} {base g n cap size : Nat} {e : TypeId} {xs : List Value} (h : w.ownsRow base e size (.slice (some ⟨g, 0, none⟩) n cap) n xs) : n ≤ cap := by
  rcases h.2 with ⟨h1, _⟩ | ⟨g', cap', cur, h1, _, _, hl, _⟩
  · cases h1
  · cases h1
    exact hl
theorem deeds_g {s : ByteArray} {w W : World} {R n p k : Nat} {v : Value} (h : Drawn w W R v n p k) (hp : p + k ≤ 80000) (hs : s.size ≤ 41) :
    Calls Tryz.prog 74 #[.pointer (some ⟨R, 0, none⟩), .string s] W fun e w' => ∃ (g cap : Nat) (ds : List (Int × Int)), e = .returned (.slice (some ⟨g, 0, none⟩) ds.length cap) ∧ w'.ownsRow W.heap.size 53 2 (.slice (some ⟨g, 0, none⟩) ds.length cap) ds.length (pairCells ds) ∧ ds.length ≤ 5 ∧ Drew ds ∧ Drawn w w' R v n p (k + 31) ∧ W.grownBy w' (some R) := by
  obtain ⟨p', hp', hr, hg⟩ := h
  refine (deeds_d s W W R n p' 0 v (Drawn.start hr) (by omega) hs).mono ?_
  rintro e w' ⟨g, cap, ds, rfl, h1, h2, h3, p2, hp2, hr2, hg2⟩
  exact ⟨g, cap, ds, rfl, h1, h2, h3, ⟨p2, by omega, hr2, grown_trans hg hg2⟩, hg2⟩
set_option maxRecDepth 100000 in
set_option maxHeartbeats 1600000 in
theorem written_d (w W : World) (R n p k : Nat) (v : Value) (h : Drawn w W R v n p k) (hp : p + k ≤ 70000) :
    Calls Tryz.prog 71 #[.pointer (some ⟨R, 0, none⟩)] W fun e w' => ∃ (g cap : Nat) (ds : List (Int × Int)), e = .returned (.slice (some ⟨g, 0, none⟩) ds.length cap) ∧ w'.ownsRow W.heap.size 53 2 (.slice (some ⟨g, 0, none⟩) ds.length cap) ds.length (pairCells ds) ∧ ds.length ≤ 5 ∧ Drew ds ∧ Drawn w w' R v n p (k + 91) := by
  obtain ⟨i0, hi0, hz0, hz1, hz2⟩ := info_parts deedInfo
  have hown0 := own_noneD W 53 W.heap.size (Nat.le_refl _)
  have HO := Lib.hid hown0
  have HD0 := Lib.hid (h.alloc (.cells #[] 53))
  have hlR := h.lt
  have H0 := Lib.hid h
  have hs0 : W.heap.size < (W.alloc (.cells #[] 53)).heap.size := by simp
  clear hown0 h
  go_enter Tryz.func71, Tryz.ntmps71
  go_wp2_with (first
    | (go_at_call 82; refine (walk_g HD0.out (by omega) (by omega) (by omega)).mono ?_; rintro e w2 ⟨s, rfl, hs, hd2, hg2⟩; have OWN2 := Lib.hid (HO.out.kept hg2 (.inr (fun h9 => by have h8 : W.heap.size = R := Option.some.inj h9; omega))); have HD2 := Lib.hid hd2; have hs2 : W.heap.size < w2.heap.size := Nat.lt_of_lt_of_le hs0 hg2.size; clear hd2 hg2)
    | (go_at_call 74; refine (deeds_g HD2.out (by omega) hs).mono ?_; rintro e w3 ⟨gL, cL, ls, rfl, hownL, hlL, hdL, hd3, hg3⟩; have RL := Lib.hid (row_own hownL rfl); have hgL := (hownL.lt gL rfl).1; have hcL := own_leD hownL; have HLS : Hid (Drew ls) := hdL; have HD3 := Lib.hid hd3; have OWN3 := Lib.hid (OWN2.out.kept hg3 (.inr (fun h9 => by have h8 : W.heap.size = R := Option.some.inj h9; omega))); have hs3 : W.heap.size < w3.heap.size := Nat.lt_of_lt_of_le hs2 hg3.size; clear hownL hdL hd3 hg3))
  obtain ⟨N, hN⟩ : ∃ N, ls.length = N := ⟨_, rfl⟩
  rw [hN] at hlL hcL RL ⊢
  have HN := Lib.hid hN
  clear hN
  go_loopw [3, 5] (fun o i wr => ∃ (g cap j : Nat) (ds : List (Int × Int)), o = .slice (some ⟨g, 0, none⟩) ds.length cap ∧ i = .int .i64 j ∧ j ≤ N ∧ ds.length ≤ j ∧ g ≠ gL ∧ gL < wr.heap.size ∧ Hid (wr.ownsRow W.heap.size 53 2 (.slice (some ⟨g, 0, none⟩) ds.length cap) ds.length (pairCells ds)) ∧ Hid (Drawn w wr R v n p (k + 91)) ∧ Hid (Drew ds) ∧ Hid (RowAt wr (.slice (some ⟨gL, 0, none⟩) N cL) ls) ∧ W.heap.size < wr.heap.size) (fun _ i _ => N - (intOf i).toNat)
  case atStart => exact ⟨_, _, 0, [], rfl, rfl, Nat.zero_le _, Nat.le_refl _, by omega, RL.out.lt rfl, OWN3.out, HD3.out.mono (by omega), by show ∀ d ∈ ([] : List (Int × Int)), _; simp, RL.out, hs3⟩
  case round =>
    obtain ⟨g, cap, j, ds, rfl, rfl, hj, hdj, hne, hgl, HOWN, HD, HK, HRL, hszr⟩ := hrel
    by_cases hlt : j < N
    · have hgb := (HOWN.out.lt g rfl).1
      obtain ⟨d, hd⟩ : ∃ d, ls[j]? = some d := ⟨ls[j]'(by rw [HN.out]; exact hlt), List.getElem?_eq_getElem (by rw [HN.out]; exact hlt)⟩
      obtain ⟨c0, c1⟩ := row_at HRL.out hd
      have HDD := Lib.hid hd
      have hk3 : (0 : Int) ≤ (j : Int) := by omega
      have hk4 : (j : Int) < (N : Int) := by omega
      obtain ⟨X, hX⟩ : ∃ X, Tw.str (deedText d.1 d.2) = X := ⟨_, rfl⟩
      have HT : Hid (∀ Y : World, Calls Tryz.prog 84 #[.agg #[.int .i64 d.1, .int .i64 d.2]] Y fun e w' => e = .returned (.string X) ∧ Below Y.heap.size Y w') := fun Y => hX ▸ specDeedText d.1 d.2 Y
      have hAT : Hid (∀ Y, Ext wr Y → Y.cell? ⟨gL, j * 2, none⟩ = some (.int .i64 d.1) ∧ Y.cell? ⟨gL, j * 2 + 1, none⟩ = some (.int .i64 d.2)) := fun Y hY => row_at (HRL.out.ext hY) HDD.out
      clear hd hX
      cases hem : X.toList.isEmpty
      · go_wp2_with (first
          | (go_at_call 84; refine (HT.out _).mono ?_; rintro e w4 ⟨rfl, hb4⟩; have E4 : Hid (Ext wr w4) := hb4; obtain ⟨e0, e1⟩ := hAT.out _ E4.out; have OWN4 := Lib.hid (own_below HOWN.out hb4); have hs4 : wr.heap.size ≤ w4.heap.size := hb4.size; clear hb4)
          | (at_builtin; refine wpList_append_lies _ rfl _ _ 45 rfl W.heap.size 53 i0 _ 2 16 Tryz.underlying45 hi0 hz0 hz1 hz2 rfl (by omega) _ ds.length (pairCells ds) rfl (OWN4.out.alloc _) ⟨w4.heap.size, 0, none⟩ 1 1 [.int .i64 d.1, .int .i64 d.2] rfl rfl (World.news_of_block (cs := #[.int .i64 d.1, .int .i64 d.2]) (t := 53) (fr := (0, 0)) (heap_alloc_new w4 _)) (by simp [Value.oneCell']) (by omega) (by unfold maxLen; omega) (by omega) (by simp; omega) (w4.heap.size + 1) (by simp) ?_; intro g5 cap5 w5 hown5 hgrow5 hat5 hlt5))
        go_roundw
        case rel =>
          have e1 : (ds ++ [d]).length = ds.length + 1 := by simp
          have e2 : pairCells (ds ++ [d]) = pairCells ds ++ [.int .i64 d.1, .int .i64 d.2] := by simp [pairCells]
          have hb5 : Below W.heap.size w4 w5 := ((Below.refl W.heap.size w4).alloc (by omega) _).grown hgrow5 (by simp; omega) (fun i hi => by have h8 : g = i := Option.some.inj hi; omega)
          have hne5 : g5 ≠ gL := by
            rcases hat5 with h9 | h9
            · have h8 : g = g5 := Option.some.inj h9
              omega
            · omega
          have hl5 : (w4.alloc (.cells #[.int .i64 d.1, .int .i64 d.2] 53)).heap.size ≤ w5.heap.size := hgrow5.size
          rw [World.size_alloc] at hl5
          refine ⟨g5, cap5, j + 1, ds ++ [d], by rw [e1], by go_num, by omega, by omega, hne5, by omega, ?_, (HD.out.below E4.out).belowB H0.out hb5, HK.out.snoc (HLS.out d (List.mem_of_getElem? HDD.out)), row_grown ((HRL.out.ext E4.out).ext ((Ext.refl w4).alloc _)) hgrow5 (fun h9 => by have h8 : gL = g := Option.some.inj h9; omega), by omega⟩
          show World.ownsRow _ _ _ _ _ _ _
          rw [e1, e2]
          exact hown5
        case measure => simp [intOf]; omega
      · go_wp2_with (first
          | (go_at_call 84; refine (HT.out _).mono ?_; rintro e w4 ⟨rfl, hb4⟩; have E4 : Hid (Ext wr w4) := hb4; have OWN4 := Lib.hid (own_below HOWN.out hb4); have hs4 : wr.heap.size ≤ w4.heap.size := hb4.size; clear hb4))
        go_roundw
        case rel => exact ⟨g, cap, j + 1, ds, rfl, by go_num, by omega, by omega, hne, by omega, OWN4.out, HD.out.below E4.out, HK.out, HRL.out.ext E4.out, by omega⟩
        case measure => simp [intOf]; omega
    · obtain rfl : N = j := by omega
      go_wp2_with fail
      go_ret
      exact ⟨g, cap, ds, rfl, HOWN.out, by omega, HK.out, HD.out⟩


end Go.Proofs.YtccdfndnjjjgfaaGreatDoor

namespace Go.Proofs.YtccdfndnjjjgfaaGreatDoor
open Go.RowKit


end Go.Proofs.YtccdfndnjjjgfaaGreatDoor

namespace Go.Proofs.YtccdfndnjjjgfaaGreatDoor
open Go.RowKit

theorem spoil_at {z : Int} (h0 : 0 ≤ z) (h1 : z < 6) : ∃ t : ByteArray, (#[.string ⟨#[]⟩, .string ⟨#[48]⟩, .string ⟨#[32]⟩, .string ⟨#[10]⟩, .string ⟨#[45]⟩, .string ⟨#[98, 97, 99, 107]⟩] : Array Value)[z.toNat]? = some (.string t) ∧ (∀ h, ([.string ⟨#[]⟩, .string ⟨#[48]⟩, .string ⟨#[32]⟩, .string ⟨#[10]⟩, .string ⟨#[45]⟩, .string ⟨#[98, 97, 99, 107]⟩] : List Value)[z.toNat]'h = .string t) ∧ t.size ≤ 4 := by
  obtain rfl | rfl | rfl | rfl | rfl | rfl : z = 0 ∨ z = 1 ∨ z = 2 ∨ z = 3 ∨ z = 4 ∨ z = 5 := by omega
  all_goals exact ⟨_, rfl, fun _ => rfl, by simp [lit_size]⟩
set_option maxRecDepth 100000 in
set_option maxHeartbeats 3200000 in
theorem spoil_d (s : ByteArray) (w W : World) (R n p k : Nat) (v : Value) (h : Drawn w W R v n p k) (hp : p + k ≤ 90000) (hs : s.size ≤ 10000) :
    Calls Tryz.prog 72 #[.pointer (some ⟨R, 0, none⟩), .string s] W fun e w' => ∃ x : ByteArray, e = .returned (.string x) ∧ x.size ≤ 20010 ∧ Drawn w w' R v n p (k + 2) := by
  by_cases h0 : s.size = 0
  · have h00 : ((s.size : Int) == 0) = true := by rw [h0]; rfl
    go_enter Tryz.func72, Tryz.ntmps72
    go_wp2
    go_ret
    exact ⟨_, rfl, by simp [lit_size], h.mono (by omega)⟩
  · have h00 : ((s.size : Int) == 0) = false := beq_false_of_ne (by omega)
    go_enter Tryz.func72, Tryz.ntmps72
    go_upto_region 4 with (first
      | (go_at_call 68; refine (pick_d h (by omega) (by omega) (by omega)).mono ?_; rintro e w1 ⟨y, rfl, hy0, hy1, hd1, hg1⟩))
    have hz1 := IntWalk.i64_in (y + 1) ⟨by omega, by omega⟩
    have hz2 : 0 ≤ y + 1 := by omega
    have hz3 : y + 1 ≤ (s.size : Int) := by omega
    have hz4 : y ≤ (s.size : Int) := by omega
    have hl1 := hd1.lt
    have e1 : (s.extract 0 y.toNat).size ≤ s.size := by rw [ByteArray.size_extract]; omega
    have e2 : (s.extract (y + 1).toNat s.size).size ≤ s.size := by rw [ByteArray.size_extract]; omega
    obtain ⟨a, ha⟩ : ∃ a, s.extract 0 y.toNat = a := ⟨_, rfl⟩
    obtain ⟨b, hb⟩ : ∃ b, s.extract (y + 1).toNat s.size = b := ⟨_, rfl⟩
    rw [ha] at e1
    rw [hb] at e2
    go_region_law (first
      | (go_simp; go_at_call 68; refine (pick_d (by first | exact hd1.drew | exact (hd1.alloc _).drew | exact hd1.drew.alloc _) (by omega) (by omega) (by omega)).mono ?_; rintro e w2 ⟨z, rfl, hzz0, hzz1, hd2, hg2⟩; obtain ⟨t, hty, htl, htz⟩ := spoil_at hzz0 hzz1; have uL := fun Y : World => lit_new (t := 9) Y hty; have hq1 : ¬ 9223372036854775807 < a.size + t.size := (by omega); have hq3 : (a ++ t).size = a.size + t.size := ByteArray.size_append; have hq2 : ¬ 9223372036854775807 < a.size + t.size + b.size := (by omega); (first | (have HL := g_a (cs := #[.string ⟨#[]⟩, .string ⟨#[48]⟩, .string ⟨#[32]⟩, .string ⟨#[10]⟩, .string ⟨#[45]⟩, .string ⟨#[98, 97, 99, 107]⟩]) (t := 9) hg2 (by omega)) | (have HL := g_ad (cs := #[.string ⟨#[]⟩, .string ⟨#[48]⟩, .string ⟨#[32]⟩, .string ⟨#[10]⟩, .string ⟨#[45]⟩, .string ⟨#[98, 97, 99, 107]⟩]) (t := 9) hg2 (by omega)) | skip); (first | (have cL := lit_at HL hty; have cLa := lit_at_alloc HL hty) | skip)))
    all_goals
      go_wp2
      go_ret
      refine ⟨_, rfl, by rw [ByteArray.size_append, ByteArray.size_append]; omega, ?_⟩
      first
        | exact hd2.mono (by omega)
        | exact (hd2.alloc _).mono (by omega)

theorem deed_size (k n : Int) : (Tw.str (deedText k n)).size ≤ 10000 := by
  rw [Tw.str_size]
  unfold deedText
  split
  · rename_i hk
    split
    · rename_i hn
      have h2 := dec_few (i := n.toNat) (by omega)
      rw [Tw.str_size] at h2
      rw [List.length_append, List.length_cons]
      rcases hk with h | h | h
      all_goals
        rw [h]
        simp [deedWord]
        omega
    · simp
  · split
    · rename_i hk
      split
      · rcases hk with h | h | h
        all_goals
          rw [h]
          simp [deedWord]
      · simp
    · simp

end Go.Proofs.YtccdfndnjjjgfaaGreatDoor

namespace Go.Proofs.YtccdfndnjjjgfaaGreatDoor
open Go.RowKit

/-- The deeds of the lines with which a text begins, and how many bytes these have. -/
noncomputable def rj : Nat → List UInt8 → List (Int × Int) × Nat
  | 0, _ => ([], 0)
  | f + 1, l => if (10 : UInt8) ∈ l then (if (readOf (l.takeWhile (· != 10))).2 = true then
      ((readOf (l.takeWhile (· != 10))).1 :: (rj f (l.drop ((l.takeWhile (· != 10)).length + 1))).1, (l.takeWhile (· != 10)).length + 1 + (rj f (l.drop ((l.takeWhile (· != 10)).length + 1))).2) else ([], 0)) else ([], 0)
theorem while_line : ∀ {a b : List UInt8}, (10 : UInt8) ∉ a → (a ++ 10 :: b).takeWhile (· != 10) = a
  | [], b, _ => by simp
  | x :: a, b, h => by
    have hx : x ≠ 10 := fun e => h (by rw [e]; exact List.mem_cons_self)
    have hb : (x != 10) = true := bne_iff_ne.2 hx
    rw [List.cons_append, List.takeWhile_cons, hb, if_pos rfl, while_line (fun e => h (List.mem_cons_of_mem _ e))]
theorem rj_none {f : Nat} {l : List UInt8} (h : (10 : UInt8) ∉ l) : rj f l = ([], 0) := by
  cases f with
  | zero => rfl
  | succ f => unfold rj; rw [if_neg h]
theorem rj_bad {f : Nat} {a b : List UInt8} (h : (10 : UInt8) ∉ a) (hr : (readOf a).2 = false) : rj f (a ++ 10 :: b) = ([], 0) := by
  cases f with
  | zero => rfl
  | succ f =>
    unfold rj
    rw [while_line h, hr, if_pos (by simp), if_neg (by simp)]
theorem rj_line {f : Nat} {a b : List UInt8} (h : (10 : UInt8) ∉ a) (hr : (readOf a).2 = true) : rj (f + 1) (a ++ 10 :: b) = ((readOf a).1 :: (rj f b).1, a.length + 1 + (rj f b).2) := by
  have hd : (a ++ 10 :: b).drop (a.length + 1) = b := by
    rw [show a ++ 10 :: b = (a ++ [10]) ++ b by simp, List.drop_left' (by simp)]
  conv => lhs; unfold rj
  rw [while_line h, hr, if_pos (by simp), if_pos rfl, hd]
noncomputable def journalOf (l : List UInt8) : List (Int × Int) × Nat := rj (l.length + 1) l
/-- Read up to a place. -/
def ReadTo (l : List UInt8) (ds : List (Int × Int)) (n : Nat) : Prop := ∃ f, l.length - n < f ∧ journalOf l = (ds ++ (rj f (l.drop n)).1, n + (rj f (l.drop n)).2)
theorem readTo_zero (l : List UInt8) : ReadTo l [] 0 := ⟨l.length + 1, by omega, by unfold journalOf; simp⟩
theorem readTo_line {l a b : List UInt8} {ds : List (Int × Int)} {n : Nat} (h : ReadTo l ds n) (hn : n ≤ l.length) (hl : l.drop n = a ++ 10 :: b) (ha : (10 : UInt8) ∉ a) (hr : (readOf a).2 = true) : ReadTo l (ds ++ [(readOf a).1]) (n + (a.length + 1)) := by
  obtain ⟨f, hf, e⟩ := h
  obtain ⟨g, rfl⟩ : ∃ g, f = g + 1 := ⟨f - 1, by omega⟩
  rw [hl, rj_line ha hr] at e
  have hb : l.drop (n + (a.length + 1)) = b := by
    rw [← List.drop_drop, hl, show a ++ 10 :: b = (a ++ [10]) ++ b by simp, List.drop_left' (by simp)]
  have hlen := congrArg List.length hl
  rw [List.length_drop, List.length_append, List.length_cons] at hlen
  refine ⟨g, by omega, ?_⟩
  rw [hb, e]
  simp
  omega
theorem readTo_bad {l a b : List UInt8} {ds : List (Int × Int)} {n : Nat} (h : ReadTo l ds n) (hl : l.drop n = a ++ 10 :: b) (ha : (10 : UInt8) ∉ a) (hr : (readOf a).2 = false) : journalOf l = (ds, n) := by
  obtain ⟨f, _, e⟩ := h
  rw [hl, rj_bad ha hr] at e
  simpa using e
theorem readTo_end {l : List UInt8} {ds : List (Int × Int)} {n : Nat} (h : ReadTo l ds n) (hl : (10 : UInt8) ∉ l.drop n) : journalOf l = (ds, n) := by
  obtain ⟨f, _, e⟩ := h
  rw [rj_none hl] at e
  simpa using e
def RjOut (w : World) (r : List (Int × Int) × Nat) (e : Ending) (w' : World) : Prop := ∃ v, e = .returned (.tuple #[v, .int .i64 (r.2 : Int)]) ∧ RowAt w' v r.1 ∧ Fresh w.heap.size v ∧ Below w.heap.size w w'
theorem rj_done {w W : World} {v : Value} {ds : List (Int × Int)} {n m : Nat} {r : List (Int × Int) × Nat} (hr : r = (ds, n)) (hown : W.ownsRow w.heap.size 53 2 v m (pairCells ds)) (hm : ds.length = m) (hb : Below w.heap.size w W) : RjOut w r (.returned (.tuple #[v, .int .i64 (n : Int)])) W := by
  subst hr
  exact ⟨_, rfl, row_own hown hm, fresh_own hown (Nat.le_refl _), hb⟩

theorem own_none2 (W : World) (t : TypeId) (base : Nat) (hb : base ≤ W.heap.size) : (W.alloc (.cells #[] t)).ownsRow base t 2 (.slice (some ⟨W.heap.size, 0, none⟩) 0 0) 0 [] :=
  ⟨rfl, .inr ⟨W.heap.size, 0, #[], rfl, hb, heap_alloc_new W _, Nat.le_refl _, by decide, rfl, rfl⟩⟩
set_option maxRecDepth 100000 in
set_option maxHeartbeats 1600000 in
theorem specReadJournal (s : ByteArray) (w : World) (hs : s.size ≤ 1048576) :
    Calls Tryz.prog 32 #[.string s] w (RjOut w (journalOf s.data.toList)) := by
  obtain ⟨i0, hi0, hz0, hz1, hz2⟩ := info_parts deedInfo
  have HO := Lib.hid (own_none2 w 53 w.heap.size (Nat.le_refl _))
  go_enter Tryz.func32, Tryz.ntmps32
  go_wp2
  go_loopw [4, 5, 6] (fun o f i wr => ∃ (from_ k : Nat) (ds : List (Int × Int)), f = .int .i64 from_ ∧ i = .int .i64 k ∧ k ≤ s.size ∧ from_ ≤ k ∧ ds.length ≤ k ∧ wr.ownsRow w.heap.size 53 2 o ds.length (pairCells ds) ∧ Hid (ReadTo s.data.toList ds from_) ∧ Hid ((10 : UInt8) ∉ (s.data.toList.take k).drop from_) ∧ Below w.heap.size w wr) (fun _ _ i _ => s.size - (intOf i).toNat)
  case atStart => exact ⟨0, 0, [], rfl, rfl, Nat.zero_le _, Nat.le_refl _, Nat.le_refl _, HO.out, readTo_zero _, (by show _ ∉ _; simp), (Below.refl _ _).alloc (Nat.le_refl _) _⟩
  case round =>
    obtain ⟨from_, k, ds, rfl, rfl, hk, hf, hn, hown, HR, HC, hb⟩ := hrel
    by_cases hlt : k < s.size
    · have hl : k < s.data.toList.length := by rw [size_data]; exact hlt
      cases hc : ((s[k].toNat : Int) == 10)
      · have HNE : Hid (s.data.toList[k] ≠ 10) := fun e => by
          have e2 : s[k] = 10 := e
          rw [e2] at hc
          exact absurd hc (by decide)
        have hne2 : ¬ (s[k].toNat : Int) = 10 := by simpa using hc
        go_wp2_with fail
        go_roundw
        case rel =>
          refine ⟨from_, k + 1, ds, rfl, by go_num, by omega, by omega, by omega, hown, HR.out, ?_, hb⟩
          show _ ∉ _
          rw [drop_snoc hl hf]
          intro hm
          rcases List.mem_append.1 hm with h9 | h9
          · exact HC.out h9
          · exact HNE.out (List.mem_singleton.1 h9).symm
        case measure => simp [intOf]; omega
      · have HEQ : Hid (s.data.toList[k] = 10) := by
          have := beq_iff_eq.1 hc
          have e2 : s[k].toNat = 10 := by omega
          show s[k] = 10
          rw [← UInt8.ofNat_toNat (x := s[k]), e2]
          rfl
        obtain ⟨p, hp⟩ : ∃ p, s.extract from_ k = p := ⟨_, rfl⟩
        have hpl : p.data.toList = (s.data.toList.take k).drop from_ := by rw [← hp, piece_at]; rfl
        have hpsz : p.size ≤ 1048576 := by rw [← size_data, hpl, List.length_drop, List.length_take, size_data]; omega
        have HPL : Hid (p.data.toList.length = k - from_) := by show _ = _; rw [hpl, List.length_drop, List.length_take, size_data]; omega
        have HLN : Hid (s.data.toList.drop from_ = p.data.toList ++ 10 :: s.data.toList.drop (k + 1)) := by
          show _ = _
          have e1 : s.data.toList.drop from_ = (s.data.toList.take k).drop from_ ++ s.data.toList.drop k := by
            conv => lhs; rw [← List.take_append_drop k s.data.toList]
            rw [List.drop_append_of_le_length (by rw [List.length_take, size_data]; omega)]
          rw [e1, hpl, List.drop_eq_getElem_cons hl, HEQ.out]
        have HCP : Hid ((10 : UInt8) ∉ p.data.toList) := by show _ ∉ _; rw [hpl]; exact HC.out
        obtain ⟨k1, h1⟩ : ∃ k1, (readOf p.data.toList).1.1 = k1 := ⟨_, rfl⟩
        obtain ⟨n1, h2⟩ : ∃ n1, (readOf p.data.toList).1.2 = n1 := ⟨_, rfl⟩
        obtain ⟨b1, h3⟩ : ∃ b1, (readOf p.data.toList).2 = b1 := ⟨_, rfl⟩
        have hrd := fun W => specReadDeed p W hpsz
        unfold ReadOut at hrd
        rw [h1, h2, h3] at hrd
        have HRD := Lib.hid hrd
        have H3 := Lib.hid h3
        have H12 : Hid ((readOf p.data.toList).1 = (k1, n1)) := Prod.ext h1 h2
        have HP := Lib.hid hp
        clear hrd h1 h2 h3 hpl hp
        have hpe : s.extract from_ k = p := HP.out
        cases b1
        · go_wp2_with (first
            | (go_at_call 48; refine (HRD.out _).mono ?_; rintro e w1 ⟨rfl, hb1⟩))
          go_ret2
          exact rj_done (readTo_bad HR.out HLN.out HCP.out H3.out) ((own_below hown hb1).alloc _) rfl ((hb.trans (hb1.mono hb.size)).alloc (by have := hb.size; have := hb1.size; omega) _)
        · go_wp2_with (first
            | (go_at_call 48; refine (HRD.out _).mono ?_; rintro e w1 ⟨rfl, hb1⟩; have hown1 := (own_below hown hb1).alloc (.cells #[.int .i64 k1, .int .i64 n1] 53); have hb2 := (hb.trans (hb1.mono hb.size)).alloc (by have := hb.size; have := hb1.size; omega) (.cells #[.int .i64 k1, .int .i64 n1] 53))
            | (at_builtin; refine wpList_append_lies _ rfl _ _ 45 rfl w.heap.size 53 i0 _ 2 16 Tryz.underlying45 hi0 hz0 hz1 hz2 rfl (by omega) _ ds.length (pairCells ds) rfl (hown1.alloc _) ⟨w1.heap.size + 1, 0, none⟩ 1 1 [.int .i64 k1, .int .i64 n1] rfl rfl (World.news_of_block (cs := #[.int .i64 k1, .int .i64 n1]) (t := 53) (fr := (0, 0)) (heap_alloc2_new w1 _ _)) (by simp [Value.oneCell']) (by omega) (by unfold maxLen; omega) (by omega) (by have := hb2.size; simp at this ⊢; omega) (w1.heap.size + 1 + 1) (by simp) ?_; intro g4 cap4 w4 hown4 hgrow4 hat4 hlt4))
          go_roundw
          case rel =>
            refine ⟨k + 1, k + 1, ds ++ [(k1, n1)], by go_num, by go_num, by omega, Nat.le_refl _, by rw [List.length_append, List.length_singleton]; omega, ?_, ?_, ?_, ?_⟩
            · rw [List.length_append, pairCells_append]
              exact hown4
            · have h9 := readTo_line HR.out (by rw [size_data]; omega) HLN.out HCP.out H3.out
              rw [H12.out, HPL.out, show from_ + (k - from_ + 1) = k + 1 by omega] at h9
              exact h9
            · show _ ∉ _
              rw [List.drop_of_length_le (by rw [List.length_take]; exact Nat.min_le_left _ _)]
              simp
            · exact (hb2.alloc (by have := hb2.size; omega) _).grown hgrow4 (by have := hb2.size; simp at this ⊢; omega) (fun j hj => (hown.lt j hj).1)
          case measure => simp [intOf]; omega
    · obtain rfl : k = s.size := by omega
      go_wp2_with fail
      go_ret2
      have hc := HC.out
      rw [List.take_of_length_le (by rw [size_data]; exact Nat.le_refl _)] at hc
      exact rj_done (readTo_end HR.out hc) hown rfl hb

set_option maxRecDepth 100000 in
set_option maxHeartbeats 1600000 in
theorem implReadJournal (s : ByteArray) (w : World) (hw : WordsAt w) (hm : MaxAt w) (hs : s.size ≤ 1048576) :
    Calls Tryz.prog 31 #[.string s] w (RjOut w (journalOf s.data.toList)) := by
  obtain ⟨i0, hi0, hz0, hz1, hz2⟩ := info_parts deedInfo
  have HO : Hid (w.ownsRow w.heap.size 53 2 (.slice none 0 0) 0 (pairCells [])) := ⟨rfl, .inl ⟨rfl, rfl⟩⟩
  go_enter Tryz.func31, Tryz.ntmps31
  go_wp2
  go_loopw [4, 5] (fun o r wr => ∃ (rd : Nat) (ds : List (Int × Int)), r = .int .i64 rd ∧ rd ≤ s.size ∧ ds.length ≤ rd ∧ wr.ownsRow w.heap.size 53 2 o ds.length (pairCells ds) ∧ Hid (ReadTo s.data.toList ds rd) ∧ Below w.heap.size w wr) (fun _ r _ => s.size - (intOf r).toNat)
  case atStart => exact ⟨0, [], rfl, Nat.zero_le _, Nat.le_refl _, HO.out, readTo_zero _, Below.refl _ _⟩
  case round =>
    obtain ⟨rd, ds, rfl, hk, hn, hown, HR, hb⟩ := hrel
    obtain ⟨p, hp⟩ : ∃ p, s.extract rd s.size = p := ⟨_, rfl⟩
    have hpl : p.data.toList = s.data.toList.drop rd := by rw [← hp, Lib.extract_to_end]
    have hpsz : p.size ≤ s.size := by rw [← size_data, hpl, List.length_drop, size_data]; omega
    have HPL := Lib.hid hpl
    have hrd0 : (0 : Int) ≤ (rd : Int) := by omega
    have HMR := Lib.hid (hm.below' (show Below w.heap.size w wr from hb))
    have HWR := Lib.hid (hw.below' (show Below w.heap.size w wr from hb))
    clear hpl
    go_upto_region 4 with (first
      | (go_at_call 73; refine (strCut_any p 10 _ HMR.out (by omega)).mono ?_; rintro e w1 ⟨a, b, f, rfl, hcut, hb1⟩; have HCU := Lib.hid hcut; have e1 : Ext wr w1 := hb1; clear hcut hb1))
    have hown1 := own_below hown e1
    have hbw1 := e1.below hb hb.size
    cases f
    · have HN : Hid ((10 : UInt8) ∉ s.data.toList.drop rd) := by
        show _ ∉ _
        rcases HCU.out with ⟨h9, _⟩ | ⟨_, _, h9, _⟩
        · cases h9
        · rw [← HPL.out]
          exact h9
      go_wp2_with fail
      go_ret2
      exact rj_done (readTo_end HR.out HN.out) hown1 rfl hbw1
    · obtain ⟨HLN, HA⟩ : Hid (s.data.toList.drop rd = a ++ 10 :: b) ∧ Hid ((10 : UInt8) ∉ a) := by
        rcases HCU.out with ⟨_, h8, h9⟩ | ⟨h9, _⟩
        · exact ⟨HPL.out ▸ h8, h9⟩
        · cases h9
      obtain ⟨x, hx⟩ : ∃ x, Tw.str a = x := ⟨_, rfl⟩
      have hxa : x.data.toList = a := by rw [← hx]; rfl
      have hxs : x.size + 1 + rd ≤ s.size := by
        have h9 := congrArg List.length HLN.out
        rw [List.length_drop, size_data, List.length_append, List.length_cons, ← hxa, size_data] at h9
        omega
      obtain ⟨k1, h1⟩ : ∃ k1, (readOf a).1.1 = k1 := ⟨_, rfl⟩
      obtain ⟨n1, h2⟩ : ∃ n1, (readOf a).1.2 = n1 := ⟨_, rfl⟩
      obtain ⟨b1, h3⟩ : ∃ b1, (readOf a).2 = b1 := ⟨_, rfl⟩
      have hrd := fun W hw hm => implReadDeed x W hw hm (by omega)
      unfold ReadOut at hrd
      rw [hxa, h1, h2, h3] at hrd
      have HRD := Lib.hid hrd
      have H3 := Lib.hid h3
      have H12 : Hid ((readOf a).1 = (k1, n1)) := Prod.ext h1 h2
      have HXL : Hid (a.length = x.size) := by show _ = _; rw [← hxa, size_data]
      clear hrd h1 h2 h3 hxa
      rw [hx]
      clear hx
      cases b1
      · go_wp2_with (first
          | (go_at_call 44; refine (HRD.out _ (HWR.out.below' e1) (HMR.out.below' e1)).mono ?_; rintro e w2 ⟨rfl, hb2⟩))
        go_ret2
        exact rj_done (readTo_bad HR.out HLN.out HA.out H3.out) ((own_below hown1 hb2).alloc _) rfl ((hbw1.trans (hb2.mono hbw1.size)).alloc (by have := hbw1.size; have := hb2.size; omega) _)
      · go_wp2_with (first
          | (go_at_call 44; refine (HRD.out _ (HWR.out.below' e1) (HMR.out.below' e1)).mono ?_; rintro e w2 ⟨rfl, hb2⟩; have hown2 := (own_below hown1 hb2).alloc (.cells #[.int .i64 k1, .int .i64 n1] 53); have hbw2 := (hbw1.trans (hb2.mono hbw1.size)).alloc (by have := hbw1.size; have := hb2.size; omega) (.cells #[.int .i64 k1, .int .i64 n1] 53))
          | (at_builtin; refine wpList_append_lies _ rfl _ _ 45 rfl w.heap.size 53 i0 _ 2 16 Tryz.underlying45 hi0 hz0 hz1 hz2 rfl (by omega) _ ds.length (pairCells ds) rfl (hown2.alloc _) ⟨w2.heap.size + 1, 0, none⟩ 1 1 [.int .i64 k1, .int .i64 n1] rfl rfl (World.news_of_block (cs := #[.int .i64 k1, .int .i64 n1]) (t := 53) (fr := (0, 0)) (heap_alloc2_new w2 _ _)) (by simp [Value.oneCell']) (by omega) (by unfold maxLen; omega) (by omega) (by have := hbw2.size; simp at this ⊢; omega) (w2.heap.size + 1 + 1) (by simp) ?_; intro g4 cap4 w4 hown4 hgrow4 hat4 hlt4))
        go_roundw
        case rel =>
          refine ⟨rd + (x.size + 1), ds ++ [(k1, n1)], by go_num, by omega, by rw [List.length_append, List.length_singleton]; omega, ?_, ?_, ?_⟩
          · rw [List.length_append, pairCells_append]
            exact hown4
          · have h9 := readTo_line HR.out (by rw [size_data]; omega) HLN.out HA.out H3.out
            rw [H12.out, HXL.out] at h9
            exact h9
          · exact (hbw2.alloc (by have := hbw2.size; omega) _).grown hgrow4 (by have := hbw2.size; simp at this ⊢; omega) (fun j hj => (hown.lt j hj).1)
        case measure => simp [intOf]; omega

end Go.Proofs.YtccdfndnjjjgfaaGreatDoor

namespace Go.Proofs.YtccdfndnjjjgfaaGreatDoor
open Go.RowKit

theorem dec_clean {n : Nat} (h : n < 100) : (10 : UInt8) ∉ Lib.decDigits n := by
  have h2 : (List.range 100).all (fun i => !(Lib.decDigits i).contains 10) = true := by decide +kernel
  have := List.all_eq_true.1 h2 n (List.mem_range.2 h)
  simpa using this
theorem word_line {k : Nat} (hk : k < 6) : (10 : UInt8) ∉ deedWord k := by
  have h2 : (List.range 6).all (fun i => !(deedWord i).contains 10) = true := by decide +kernel
  have := List.all_eq_true.1 h2 k (List.mem_range.2 hk)
  simpa using this
theorem text_line {k n : Int} (h : deedText k n ≠ []) : (10 : UInt8) ∉ deedText k n := by
  have ht := told_of h
  rw [text_told ht]
  unfold told at ht
  split
  · intro h9
    rcases List.mem_append.1 h9 with h1 | h1
    · exact word_line (by omega) h1
    · rcases List.mem_cons.1 h1 with h2 | h2
      · cases h2
      · exact dec_clean (by omega) h2
  · exact word_line (by omega)
theorem rj_journal : ∀ (ds : List (Int × Int)) (f : Nat), goodTo ds = true → ds.length < f → rj f (jt ds) = (ds, (jt ds).length)
  | [], f, _, _ => rj_none (by simp [jt])
  | d :: ds, f, hg, hf => by
    obtain ⟨g, rfl⟩ : ∃ g, f = g + 1 := ⟨f - 1, by omega⟩
    unfold goodTo at hg
    rw [List.all_cons, Bool.and_eq_true] at hg
    have hd : dt d ≠ [] := by
      have := hg.1
      simpa using this
    have e : jt (d :: ds) = dt d ++ 10 :: jt ds := by unfold jt; simp
    have hr : readOf (dt d) = (d, true) := readOf_of hd rfl
    have ih := rj_journal ds g hg.2 (by simp at hf; omega)
    rw [e, rj_line (show (10 : UInt8) ∉ dt d from text_line hd) (by rw [hr]), ih, hr]
    simp
    omega
theorem jt_long : ∀ (ds : List (Int × Int)), ds.length ≤ (jt ds).length
  | [] => Nat.zero_le _
  | d :: ds => by
    have := jt_long ds
    have e : jt (d :: ds) = (dt d ++ [10]) ++ jt ds := by unfold jt; simp
    rw [e]
    simp
    omega
theorem jt_short : ∀ (ds : List (Int × Int)), (jt ds).length ≤ 8 * ds.length
  | [] => Nat.zero_le _
  | d :: ds => by
    have := jt_short ds
    have h7 := dt_few d
    have e : jt (d :: ds) = (dt d ++ [10]) ++ jt ds := by unfold jt; simp
    rw [e]
    simp
    omega
theorem journal_short (ds : List (Int × Int)) : (journal ds).length ≤ 8 * ds.length := by
  unfold journal
  split
  · exact jt_short ds
  · exact Nat.zero_le _
/-- Journals are read. -/
theorem journal_read {ds : List (Int × Int)} (h : journal ds ≠ []) : journalOf (journal ds) = (ds, (journal ds).length) := by
  unfold journal at *
  split
  · rename_i hg
    unfold journalOf
    exact rj_journal ds _ hg (by have := jt_long ds; omega)
  · rename_i hg
    rw [if_neg hg] at h
    exact absurd rfl h
end Go.Proofs.YtccdfndnjjjgfaaGreatDoor

namespace Go.Proofs.YtccdfndnjjjgfaaGreatDoor
open Go.RowKit

set_option maxRecDepth 100000 in
set_option maxHeartbeats 1600000 in
theorem drawReadJournal (v : Value) (n : Nat) (w : World) (h : CodeAt w v n) :
    Calls Tryz.prog 30 #[v] w fun e w' => ∃ x : ByteArray, e = .returned (.string x) ∧ x.size ≤ 20010 ∧ Below w.heap.size w w' := by
  go_enter Tryz.func30, Tryz.ntmps30
  go_upto_region 3 with (first
    | (go_at_call 41; refine (open_any v n _ h).mono ?_; rintro e w1 ⟨rfl, ⟨v', n', hr⟩, hb1⟩)
    | (go_at_call 71; refine (written_d w1 w1 _ n' 0 0 v' (Drawn.start hr) (by omega)).mono ?_; rintro e w2 ⟨g, cap, ds, rfl, hown, hl, _, hd2⟩; have hK := (row_own hown rfl).deeds)
    | (go_at_call 70; refine (specJournal _ ds _ hK (by omega)).mono ?_; rintro e w3 ⟨rfl, hb3⟩; have hd3 := hd2.below hb3))
  have hx := journal_short ds
  obtain ⟨x, hxe⟩ : ∃ x, Tw.str (journal ds) = x := ⟨_, rfl⟩
  have hxs : x.size ≤ 10000 := by
    rw [← hxe, Tw.str_size]
    omega
  rw [hxe]
  clear hxe hx
  have hz1 := IntWalk.i64_in ((x.size : Int) + 1) ⟨by omega, by omega⟩
  go_wp2_with (first
    | (go_at_call 68; first
        | (refine (pick_d hd4 (by omega) (by omega) (by omega)).mono ?_; rintro e w5 ⟨z, rfl, hz0, hz9, hd5, _⟩; have hz2 : z ≤ (x.size : Int) := by omega)
        | (refine (pick_d hd3 (by omega) (by omega) (by omega)).mono ?_; rintro e w4 ⟨y, rfl, hy0, hy1, hd4, _⟩; obtain rfl | rfl | rfl : y = 0 ∨ y = 1 ∨ y = 2 := by omega))
    | (go_at_call 72; refine (spoil_d x w1 _ _ n' 0 _ v' hd4 (by omega) hxs).mono ?_; rintro e w6 ⟨z, rfl, hz, hd6⟩))
  · go_ret
    exact ⟨_, rfl, hz, hd6.below_base hb1 (Nat.le_refl _)⟩
  · go_ret
    exact ⟨_, rfl, by rw [ByteArray.size_extract]; omega, hd5.below_base hb1 (Nat.le_refl _)⟩
  · go_ret
    exact ⟨_, rfl, by omega, hd4.below_base hb1 (Nat.le_refl _)⟩

end Go.Proofs.YtccdfndnjjjgfaaGreatDoor

namespace Go.Proofs.YtccdfndnjjjgfaaGreatDoor
open Go.RowKit

/-- Forty-one deeds that are nothing. -/
def zeroDeeds : Array Value := Array.replicate 82 (.int .i64 0)
theorem make41 : ∀ w : World, (Instr.makeSlice 45 (.int .i64 41) (.int .i64 41)).run Tryz.prog w = .ok (.slice (some ⟨w.heap.size, 0, none⟩) 41 41) (w.alloc (.cells zeroDeeds 53)) := fun _ => by kernel_rfl
theorem zero_row {w : World} {g : Nat} (h : w.heap[g]? = some (.cells zeroDeeds 53 (0, 0))) : RowAt w (.slice (some ⟨g, 0, none⟩) 41 41) (List.replicate 41 (0, 0)) := by
  refine .inr ⟨g, 41, zeroDeeds, by simp, by simp, h, by simp [zeroDeeds], fun j d hd => ?_⟩
  obtain ⟨hj, rfl⟩ := List.getElem?_eq_some_iff.1 hd
  rw [List.length_replicate] at hj
  unfold zeroDeeds
  rw [List.getElem_replicate, Array.getElem?_replicate, Array.getElem?_replicate, if_pos (by omega), if_pos (by omega)]
  exact ⟨rfl, rfl⟩
theorem row_put2 {w : World} {v : Value} {ds : List (Int × Int)} (h : RowAt w v ds) {N : Nat} (hne : v.ownBlock ≠ some N) (x y : Value) : RowAt ((w.setCell ⟨N, 0, none⟩ x).setCell ⟨N, 1, none⟩ y) v ds := by
  rcases h with h | ⟨g, cap, cur, rfl, hl, hg, hz, hc⟩
  · exact .inl h
  · have hgn : g ≠ N := fun e => hne (by rw [e]; rfl)
    exact .inr ⟨g, cap, cur, rfl, hl, set_far2 hg hgn x y, hz, hc⟩
theorem new_set2 (W : World) (N : Nat) (x y : Value) (o : Obj) : (((W.setCell ⟨N, 0, none⟩ x).setCell ⟨N, 1, none⟩ y).alloc o).heap[W.heap.size]? = some o := by
  have := heap_alloc_new' ((W.setCell ⟨N, 0, none⟩ x).setCell ⟨N, 1, none⟩ y) o
  rwa [show ((W.setCell ⟨N, 0, none⟩ x).setCell ⟨N, 1, none⟩ y).heap.size = W.heap.size by simp [World.setCell]] at this
/-- Drawn deeds. -/
structure Deeds41 (w : World) (x : Value) (ds : List (Int × Int)) : Prop where
  row : RowAt w x ds
  hl : ds.length ≤ 41
  hd : ∀ d ∈ ds, (0 ≤ d.1 ∧ d.1 ≤ 11) ∧ -1 ≤ d.2 ∧ d.2 ≤ 100
set_option maxRecDepth 100000 in
set_option maxHeartbeats 1600000 in
theorem drawDeskRun (v : Value) (n : Nat) (w : World) (h : CodeAt w v n) :
    Calls Tryz.prog 34 #[v] w fun e w' => ∃ (s : ByteArray) (u : Value) (zs : List ByteArray) (g cap : Nat) (ds : List (Int × Int)), e = .returned (.tuple #[.agg #[.string s, u], .slice (some ⟨g, 0, none⟩) ds.length cap]) ∧ Desk41 w' s u zs ∧ Deeds41 w' (.slice (some ⟨g, 0, none⟩) ds.length cap) ds ∧ Below w.heap.size w w' := by
  have hzB := heap_alloc_new w (.cells #[.string ⟨#[]⟩, .slice none 0 0] 27)
  have hc := code_alloc h (.cells #[.string ⟨#[]⟩, .slice none 0 0] 27)
  obtain ⟨W, hW⟩ : ∃ W, w.alloc (.cells #[.string ⟨#[]⟩, .slice none 0 0] 27) = W := ⟨_, rfl⟩
  have hbW : Below w.heap.size w W := hW ▸ (Below.refl _ _).alloc (Nat.le_refl _) _
  have hsW : w.heap.size < W.heap.size := by rw [← hW]; simp
  rw [hW] at hzB hc
  have HW := Lib.hid hW
  have HZB := Lib.hid hzB
  clear hW hzB h
  go_enter Tryz.func34, Tryz.ntmps34
  go_wp2_with fail
  rw [HW.out]
  go_upto_region 3 with (first
    | (go_at_call 41; refine (open_any v n _ hc).mono ?_; rintro e w1 ⟨rfl, ⟨v', n', hr⟩, hb1⟩)
    | (go_at_call 42; refine (desk_d w1 w1 _ n' 0 0 v' _ (Drawn.start hr) (by omega) (by omega) (by omega)).mono ?_; rintro e w3 ⟨s, u, zs, rfl, hp3, hf3, hs3, hl3, hz3, hd3⟩; have hb3 := hd3.below_base hb1 (Nat.le_refl _); obtain ⟨aU, cU, hvU⟩ := past_slice hp3 (M := zs.length) rfl; subst hvU; have HZ3 := Lib.hid hz3; have HP3 := Lib.hid hp3; have HF3 := Lib.hid hf3; have HD3 := Lib.hid hd3; clear hz3 hp3 hf3 hd3))
  have hsb := hb1.size
  have hltR := (Drawn.start hr).lt
  have hs13 : w1.heap.size ≤ w3.heap.size := by
    obtain ⟨_, _, _, hg⟩ := HD3.out
    exact hg.size
  have hd3a := HD3.out.alloc (.cells #[.string s, .slice aU zs.length cU] 27)
  have hRow3 := heap_alloc_new w3 (.cells #[.string s, .slice aU zs.length cU] 27)
  have hx3 : Ext w3 (w3.alloc (.cells #[.string s, .slice aU zs.length cU] 27)) := (Ext.refl w3).alloc _
  obtain ⟨w4, hw4⟩ : ∃ w4, w3.alloc (.cells #[.string s, .slice aU zs.length cU] 27) = w4 := ⟨_, rfl⟩
  obtain ⟨D, hD⟩ : ∃ D, w3.heap.size = D := ⟨_, rfl⟩
  have hlD : w3.heap.size < w4.heap.size := by rw [← hw4]; simp
  rw [hw4] at hd3a hRow3 hx3 ⊢
  rw [hD] at hRow3 hs13 hlD ⊢
  clear hw4
  have HD4 := Lib.hid hd3a
  have RB4 := Lib.hid (hx3.row ((hb3.block w.heap.size (by omega)).trans HZB.out))
  have hb4 : Below w.heap.size w w4 := (hbW.trans (hb3.mono (by omega))).trans (Below.mono hx3 (by have := hb3.size; omega))
  have RD4 := Lib.hid hRow3
  have HP4 := Lib.hid (hx3.past HP3.out)
  have HNB : Hid ((Value.slice aU zs.length cU).ownBlock ≠ some w.heap.size) := fun e => by have := HF3.out _ e; omega
  have HNR : Hid ((Value.slice aU zs.length cU).ownBlock ≠ some W.heap.size) := fun e => by
    have h1 := HF3.out _ e
    omega
  clear hd3a hRow3
  go_upto_region 4 with (first
    | (go_at_call 69; refine (odd_g HD4.out (by omega) (by omega) (by omega)).mono ?_; rintro e w5 ⟨b, rfl, ⟨p5, hp5, hr5, _⟩, hg5⟩; have RD5 := Lib.hid (grow_row' hg5 RD4.out (by omega)); have RB5 := Lib.hid (grow_row' hg5 RB4.out (by omega)); have HP5 := Lib.hid (past_grown HP4.out hg5 HNR.out); have hb5 := hb4.grown hg5 hb4.size (fun k e => by cases e; omega); have HR5 := Lib.hid hr5; have hs5 := hg5.size; clear hr5 hg5; have o0 := cell_of_row _ _ 0 _ _ _ RD5.out; have o1 := cell_of_row _ _ 1 _ _ _ RD5.out; have fB0 := frozen_of_row _ _ 0 _ _ RB5.out; have fB1 := frozen_of_row _ _ 1 _ _ RB5.out; have gB0 := cell_of_row _ _ 0 _ _ _ RB5.out; have gB1 := cell_of_row _ _ 1 _ _ _ RB5.out; cases b))
  · have R5p : Hid (ReaderAt ((w5.setCell ⟨w.heap.size, 0, none⟩ (.string s)).setCell ⟨w.heap.size, 1, none⟩ (.slice aU zs.length cU)) W.heap.size v' n' p5) := HR5.out.put RB5.out (not_u8_desk _ _ _ _) (by omega) _ _
    go_region_held3 (fun w' => w'.cell? ⟨D, 0, none⟩ = some (.string s) ∧ w'.cell? ⟨D, 1, none⟩ = some (.slice aU zs.length cU))
      (first
        | exact ⟨o0, o1⟩
        | exact ⟨x0, x1⟩
        | exact other_cells (by omega) x0 x1
        | exact other_cells (by omega) o0 o1)
      (first
        | (go_at_call 74; refine (deeds_d s _ _ W.heap.size n' p5 0 v' (Drawn.start (by first | exact HR5.out | exact read_drew HR5.out | exact R5p.out | exact read_drew R5p.out)) (by omega) hs3).mono ?_; rintro e wx ⟨gX, cX, ds, rfl, hown, hdl, hdd, ⟨px, hpx, hrx, hgx⟩⟩; have rDx : wx.heap[D]? = _ := grow_row' hgx (by first | exact RD5.out | exact set_far2 RD5.out (by omega) _ _) (by omega); have rBx : wx.heap[w.heap.size]? = _ := grow_row' hgx (by first | exact RB5.out | exact two_put RB5.out _ _) (by omega); have HPx := Lib.hid (past_grown (by first | exact HP5.out | exact past_put (past_put HP5.out _ _ HNB.out) _ _ HNB.out) hgx HNR.out); have hbx : Below w.heap.size w wx := (by first | exact (hb5.drew).grown hgx hb5.size (fun k e => by cases e; omega) | exact ((below2 hb5 (Nat.le_refl _) _ _).drew).grown hgx (below2 hb5 (Nat.le_refl _) _ _).size (fun k e => by cases e; omega)); have x0 := cell_of_row _ _ 0 _ _ _ rDx; have x1 := cell_of_row _ _ 1 _ _ _ rDx; have yB0 := frozen_of_row _ _ 0 _ _ rBx; have yB1 := frozen_of_row _ _ 1 _ _ rBx; have zB0 := cell_of_row _ _ 0 _ _ _ rBx; have zB1 := cell_of_row _ _ 1 _ _ _ rBx; have RBx := Lib.hid rBx; have HKX := Lib.hid hdd; have HRX := Lib.hid (row_own hown rfl); have hgX : w.heap.size < gX := Nat.lt_of_lt_of_le (by first | omega | (simp; omega)) (hown.lt gX rfl).1; clear rBx rDx hrx hgx hdd hown))
    all_goals
      go_wp2
      have HNX : Hid ((Value.slice (some ⟨gX, 0, none⟩) ds.length cX).ownBlock ≠ some w.heap.size) := fun e => by have h8 : gX = w.heap.size := Option.some.inj e; omega
      first
        | (obtain ⟨e0, e1⟩ := two_cells (two_put RBx.out (.string s) (.slice aU zs.length cU)); refine bodyPost_ret (v := .tuple #[.agg #[.string s, .slice aU zs.length cU], .slice (some ⟨gX, 0, none⟩) ds.length cX]) (by simp [results, Tryz.results34, go_sem, e0, e1]) rfl ⟨s, _, zs, _, _, ds, rfl, ⟨past_put2 HPx.out HNB.out _ _, hs3, hl3, HZ3.out⟩, ⟨row_put2 HRX.out HNX.out _ _, by omega, HKX.out⟩, below2 hbx (Nat.le_refl _) _ _⟩)
        | (obtain ⟨e0, e1⟩ := two_cells RBx.out; refine bodyPost_ret (v := .tuple #[.agg #[.string s, .slice aU zs.length cU], .slice (some ⟨gX, 0, none⟩) ds.length cX]) (by simp [results, Tryz.results34, go_sem, e0, e1]) rfl ⟨s, _, zs, _, _, ds, rfl, ⟨HPx.out, hs3, hl3, HZ3.out⟩, ⟨HRX.out, by omega, HKX.out⟩, hbx⟩)
  · have hmk := make41
    have rA := row_alloc RB5.out (.cells zeroDeeds 53)
    have aB0 := frozen_of_row _ _ 0 _ _ rA
    have aB1 := frozen_of_row _ _ 1 _ _ rA
    have bB0 := cell_of_row _ _ 0 _ _ _ rA
    have bB1 := cell_of_row _ _ 1 _ _ _ rA
    clear rA
    go_region_held3 (fun w' => w'.cell? ⟨D, 0, none⟩ = some (.string s) ∧ w'.cell? ⟨D, 1, none⟩ = some (.slice aU zs.length cU))
      (first
        | exact ⟨o0, o1⟩
        | exact two_cells (row_alloc RD5.out _)
        | exact other_cells (by omega) o0 o1
        | exact other_cells (by omega) (two_cells (row_alloc RD5.out _)).1 (two_cells (row_alloc RD5.out _)).2
        | exact two_cells (row_alloc (set_far2 RD5.out (by omega) _ _) _))
      (fail)
    all_goals
      go_wp2
      have HN5 : Hid ((Value.slice (some ⟨w5.heap.size, 0, none⟩) 41 41).ownBlock ≠ some w.heap.size) := fun e => by have h8 : w5.heap.size = w.heap.size := Option.some.inj e; have := lt_at RB5.out; omega
      first
        | (obtain ⟨e0, e1⟩ := two_cells (two_put (row_alloc RB5.out (.cells zeroDeeds 53)) (.string s) (.slice aU zs.length cU)); refine bodyPost_ret (v := .tuple #[.agg #[.string s, .slice aU zs.length cU], .slice (some ⟨w5.heap.size, 0, none⟩) 41 41]) (by simp [results, Tryz.results34, go_sem, e0, e1]) rfl ⟨s, _, zs, _, _, List.replicate 41 (0, 0), rfl, ⟨past_put2 (((Ext.refl w5).alloc _).past HP5.out) HNB.out _ _, hs3, hl3, HZ3.out⟩, ⟨row_put2 (zero_row (heap_alloc_new w5 _)) HN5.out _ _, by simp, fun d hd => by rw [(List.mem_replicate.1 hd).2]; exact ⟨⟨by decide, by decide⟩, by decide, by decide⟩⟩, (below2 (hb5.alloc hb5.size _) (Nat.le_refl _) _ _).drew⟩)
        | (obtain ⟨e0, e1⟩ := two_cells (row_alloc (two_put RB5.out (.string s) (.slice aU zs.length cU)) (.cells zeroDeeds 53)); refine bodyPost_ret (v := .tuple #[.agg #[.string s, .slice aU zs.length cU], .slice (some ⟨w5.heap.size, 0, none⟩) 41 41]) (by simp [results, Tryz.results34, go_sem, e0, e1]) rfl ⟨s, _, zs, _, _, List.replicate 41 (0, 0), rfl, ⟨((Ext.refl _).alloc _).past (past_put2 HP5.out HNB.out _ _), hs3, hl3, HZ3.out⟩, ⟨zero_row (new_set2 w5 _ _ _ _), by simp, fun d hd => by rw [(List.mem_replicate.1 hd).2]; exact ⟨⟨by decide, by decide⟩, by decide, by decide⟩⟩, ((below2 hb5 (Nat.le_refl _) _ _).alloc (below2 hb5 (Nat.le_refl _) _ _).size _).drew⟩)

end Go.Proofs.YtccdfndnjjjgfaaGreatDoor

namespace Go.Proofs.YtccdfndnjjjgfaaGreatDoor
open Go.RowKit

/-- What the answer to a deed is. -/
def okWord (b : Bool) : ByteArray := if b then ⟨#[111, 107]⟩ else ⟨#[110, 111, 116]⟩
def LineOut (w : World) (x : ByteArray) (ys : List ByteArray) (t : ByteArray) (e : Ending) (w' : World) : Prop := ∃ v', e = .returned (.tuple #[.agg #[.string x, v'], .string t]) ∧ PastAt w' v' ys ∧ Fresh w.heap.size v' ∧ Below w.heap.size w w'
theorem line_done {w X : World} {R : Nat} {x : ByteArray} {v : Value} {ys : List ByteArray} {t : ByteArray} (e : Ext w X) (hp : PastAt X v ys) (hf : Fresh w.heap.size v) (hne : v.ownBlock ≠ some R) (hR : w.heap.size ≤ R) :
    LineOut w x ys t (.returned (.tuple #[.agg #[.string x, v], .string t])) ((X.setCell ⟨R, 0, none⟩ (.string x)).setCell ⟨R, 1, none⟩ v) :=
  ⟨_, rfl, past_put (past_put hp _ _ hne) _ _ hne, hf, (e.setCell hR _).setCell hR _⟩

set_option maxRecDepth 100000 in
set_option maxHeartbeats 1600000 in
theorem implLine_deed (s : ByteArray) (a : Option Addr) (c L : Nat) (zs : List ByteArray) (X : ByteArray) (d1 d2 : Int) (w : World) (h : PastAt w (.slice a L c) zs) (hok : Hid (deskOk s zs = true)) (hX : X.size ≤ 1048576) (hr : Hid (readOf X.data.toList = ((d1, d2), true)))
    (x : ByteArray) (ys : List ByteArray) (b : Bool) (hd : Hid (deskDone s zs d1 d2 = (x, ys, b))) (hw : WaysAt w) (hdd : DirsAt w) (hwd : WordsAt w) (hmx : MaxAt w) :
    Calls Tryz.prog 21 #[.agg #[.string s, .slice a L c], .string X] w (LineOut w x ys (okWord b)) := by
  obtain ⟨h1, h8, hz⟩ := deskOk_parts hok.out
  obtain ⟨e0, hsz, r0, r1⟩ := desk2_in w s (.slice a L c)
  obtain ⟨W, hW⟩ : ∃ W, deskBox2 w s (.slice a L c) = W := ⟨_, rfl⟩
  rw [hW] at e0 hsz r0 r1
  unfold deskBox2 at hW
  have HW := Lib.hid hW
  have HDK := Lib.hid (deskOk_namedI s (.slice a L c) zs W (e0.strs h.strs) (by have := ok_size h1; omega) (by omega) (fun z hz9 => by have := ok_size (hz z hz9); omega) true hok.out)
  have HRD : Hid (∀ Y, Ext w Y → Calls Tryz.prog 44 #[.string X] Y fun e w' => e = .returned (.tuple #[.agg #[.int .i64 d1, .int .i64 d2], .bool true]) ∧ Below Y.heap.size Y w') := fun Y hY => by
    refine (implReadDeed X Y (hwd.below' hY) (hmx.below' hY) hX).mono ?_
    rintro e w' ⟨he, hb⟩
    rw [hr.out] at he
    exact ⟨he, hb⟩
  have HDO : Hid (∀ Y, Ext w Y → Calls Tryz.prog 45 #[.agg #[.string s, .slice a L c], .agg #[.int .i64 d1, .int .i64 d2]] Y (DeskOut Y x ys b)) := fun Y hY => by
    have := implDeskDone s (.slice a L c) zs d1 d2 Y (hY.past h) hok.out (hw.below' hY) (hdd.below' hY)
    rw [hd.out] at this
    exact this
  have R0 := Lib.hid r0
  have R1 := Lib.hid r1
  have E0 := Lib.hid e0
  have c0 := cell_of_row _ _ 0 _ _ _ r0
  have c1 := cell_of_row _ _ 1 _ _ _ r0
  clear hW r0 r1 h hw hdd hwd hmx hz h1 h8 e0
  cases b
  all_goals
    go_enter Tryz.func21, Tryz.ntmps21
    go_wp2_with fail
    rw [HW.out]
    go_wp2_with (first
      | (go_at_call 27; refine HDK.out.mono ?_; rintro e w1 ⟨rfl, hb1⟩; have E1 : Hid (Ext W w1) := hb1; clear hb1)
      | (go_at_call 44; refine (HRD.out w1 (E0.out.trans E1.out)).mono ?_; rintro e w2 ⟨rfl, hb2⟩; have E2 : Hid (Ext W w2) := Ext.call E1.out hb2; have E2A : Hid (Ext W (w2.alloc (.cells #[.int .i64 d1, .int .i64 d2] 53))) := E2.out.alloc _; have hra := E2A.out.row R0.out; have k0 := cell_of_row _ _ 0 _ _ _ hra; have k1 := cell_of_row _ _ 1 _ _ _ hra; clear hb2 hra)
      | (go_at_call 45; refine (HDO.out _ (E0.out.trans E2A.out)).mono ?_; rintro e w3 ⟨v3, rfl, hp3, hf3, hb3⟩; obtain ⟨a3, c3, hv3⟩ := past_slice hp3 rfl; subst hv3; have E3 : Hid (Ext W w3) := Ext.call E2A.out hb3; have P3 := Lib.hid hp3; have F3 := Lib.hid (fresh_ext E2A.out hf3); have E3A : Hid (Ext W (w3.alloc (.cells #[.string x, .slice a3 ys.length c3] 27))) := E3.out.alloc _; have hrb := E3A.out.row R1.out; have f0 := frozen_of_row _ _ 0 _ _ hrb; have f1 := frozen_of_row _ _ 1 _ _ hrb; have m0 := cell_of_row _ _ 0 _ _ _ hrb; have m1 := cell_of_row _ _ 1 _ _ _ hrb; have q := pair_put hrb (.string x) (.slice a3 ys.length c3); have q0 := cell_of_row _ _ 0 _ _ _ q; have q1 := cell_of_row _ _ 1 _ _ _ q; clear hp3 hf3 hb3 hrb q))
  · refine bodyPost_ret (v := .tuple #[.agg #[.string x, .slice a3 ys.length c3], .string ⟨#[110, 111, 116]⟩]) (by simp [results, Tryz.results21, go_sem, q0, q1]) rfl ?_
    exact line_done (R := w.heap.size + 1) (t := ⟨#[110, 111, 116]⟩) (E0.out.trans E3A.out) (((Ext.refl _).alloc _).past P3.out) (fresh_ext E0.out F3.out) (fun h9 => by have := F3.out _ h9; omega) (by omega)
  · refine bodyPost_ret (v := .tuple #[.agg #[.string x, .slice a3 ys.length c3], .string ⟨#[111, 107]⟩]) (by simp [results, Tryz.results21, go_sem, q0, q1]) rfl ?_
    exact line_done (R := w.heap.size + 1) (t := ⟨#[111, 107]⟩) (E0.out.trans E3A.out) (((Ext.refl _).alloc _).past P3.out) (fresh_ext E0.out F3.out) (fun h9 => by have := F3.out _ h9; omega) (by omega)
end Go.Proofs.YtccdfndnjjjgfaaGreatDoor

namespace Go.Proofs.YtccdfndnjjjgfaaGreatDoor
open Go.RowKit

theorem first_line {l : List UInt8} (h : (10 : UInt8) ∈ l) : ∃ a b, l = a ++ 10 :: b ∧ (10 : UInt8) ∉ a := by
  induction l with
  | nil => cases h
  | cons x l ih =>
    by_cases hx : x = 10
    · subst hx
      exact ⟨[], l, rfl, by simp⟩
    · have hl : (10 : UInt8) ∈ l := by
        rcases List.mem_cons.1 h with h9 | h9
        · exact absurd h9.symm hx
        · exact h9
      obtain ⟨a, b, e, ha⟩ := ih hl
      refine ⟨x :: a, b, by rw [e]; rfl, fun h9 => ?_⟩
      rcases List.mem_cons.1 h9 with h8 | h8
      · exact hx h8.symm
      · exact ha h8
/-- Of a beginning the first deeds. -/
theorem rj_prefix : ∀ (g f : Nat) (l : List UInt8) (k : Nat), l.length < f → (rj g (l.take k)).1 <+: (rj f l).1 ∧ (rj g (l.take k)).2 ≤ k
  | 0, f, l, k, _ => ⟨List.nil_prefix, Nat.zero_le _⟩
  | g + 1, f, l, k, hf => by
    by_cases hn : (10 : UInt8) ∈ l.take k
    rotate_left
    · rw [rj_none hn]
      exact ⟨List.nil_prefix, Nat.zero_le _⟩
    · obtain ⟨a, b, e, ha⟩ := first_line (List.mem_of_mem_take hn)
      obtain ⟨f, rfl⟩ : ∃ f', f = f' + 1 := ⟨f - 1, by omega⟩
      have hak : a.length < k := by
        rcases Nat.lt_or_ge a.length k with h9 | h9
        · exact h9
        · exfalso
          rw [e, List.take_append_of_le_length h9] at hn
          exact ha (List.mem_of_mem_take hn)
      have et : l.take k = a ++ 10 :: b.take (k - (a.length + 1)) := by
        rw [e, List.take_append, List.take_of_length_le (by omega)]
        congr 1
        obtain ⟨j, hj⟩ : ∃ j, k - a.length = j + 1 := ⟨k - a.length - 1, by omega⟩
        rw [hj, List.take_succ_cons]
        congr 2
        omega
      rw [et, e]
      cases hr : (readOf a).2
      · rw [rj_bad ha hr]
        exact ⟨List.nil_prefix, Nat.zero_le _⟩
      · rw [rj_line ha hr, rj_line ha hr]
        have hl := congrArg List.length e
        rw [List.length_append, List.length_cons] at hl
        obtain ⟨h1, h2⟩ := rj_prefix g f b (k - (a.length + 1)) (by omega)
        exact ⟨List.cons_prefix_cons.2 ⟨rfl, h1⟩, by show a.length + 1 + _ ≤ k; omega⟩
/-- What was read is written again. -/
theorem rj_written : ∀ (f : Nat) (l : List UInt8), (rj f l).2 ≤ l.length ∧ jt (rj f l).1 = l.take (rj f l).2 ∧ goodTo (rj f l).1 = true ∧ (rj f l).1.length ≤ (rj f l).2
  | 0, l => ⟨Nat.zero_le _, rfl, rfl, Nat.le_refl _⟩
  | f + 1, l => by
    by_cases hn : (10 : UInt8) ∈ l
    rotate_left
    · rw [rj_none hn]
      exact ⟨Nat.zero_le _, rfl, rfl, Nat.le_refl _⟩
    · obtain ⟨a, b, e, ha⟩ := first_line hn
      rw [e]
      cases hr : (readOf a).2
      · rw [rj_bad ha hr]
        exact ⟨Nat.zero_le _, rfl, rfl, Nat.le_refl _⟩
      · rw [rj_line ha hr]
        obtain ⟨h1, h2, h3, h4⟩ := rj_written f b
        obtain ⟨k1, k2⟩ := readOf_text hr
        have k3 : dt (readOf a).1 = a := k2
        refine ⟨?_, ?_, ?_, ?_⟩
        · rw [List.length_append, List.length_cons]
          show a.length + 1 + _ ≤ _
          omega
        · show jt ((readOf a).1 :: (rj f b).1) = _
          have e2 : jt ((readOf a).1 :: (rj f b).1) = dt (readOf a).1 ++ 10 :: jt (rj f b).1 := by unfold jt; simp
          rw [e2, k3, h2]
          show _ = List.take (a.length + 1 + (rj f b).2) (a ++ 10 :: b)
          rw [List.take_append, List.take_of_length_le (l := a) (by omega), show a.length + 1 + (rj f b).2 - a.length = (rj f b).2 + 1 by omega, List.take_succ_cons]
        · show goodTo ((readOf a).1 :: (rj f b).1) = true
          unfold goodTo at h3 ⊢
          rw [List.all_cons, h3, Bool.and_true]
          simpa [k3] using k1
        · show (rj f b).1.length + 1 ≤ a.length + 1 + _
          omega
theorem journal_cut (l : List UInt8) (k : Nat) : (journalOf (l.take k)).1 <+: (journalOf l).1 ∧ (journalOf (l.take k)).2 ≤ k := rj_prefix _ _ l k (by omega)
theorem journal_again (l : List UInt8) : (journalOf l).2 ≤ l.length ∧ journal (journalOf l).1 = l.take (journalOf l).2 ∧ goodTo (journalOf l).1 = true ∧ (journalOf l).1.length ≤ (journalOf l).2 := by
  obtain ⟨h1, h2, h3, h4⟩ := rj_written (l.length + 1) l
  refine ⟨h1, ?_, h3, h4⟩
  unfold journal
  rw [if_pos (show goodTo (journalOf l).1 = true from h3)]
  exact h2
theorem good_at {ds : List (Int × Int)} (h : goodTo ds = true) {d : Int × Int} (hd : d ∈ ds) : dt d ≠ [] ∧ readOf (dt d) = (d, true) := by
  unfold goodTo at h
  have h1 : dt d ≠ [] := by simpa using List.all_eq_true.1 h d hd
  exact ⟨h1, readOf_of h1 rfl⟩
end Go.Proofs.YtccdfndnjjjgfaaGreatDoor

namespace Go.Proofs.YtccdfndnjjjgfaaGreatDoor
open Go.RowKit

set_option maxRecDepth 100000 in
set_option maxHeartbeats 1600000 in
theorem sameDeeds_yes (v u : Value) (ds : List (Int × Int)) (w : World) (h : DeedsAt w v ds) (k : DeedsAt w u ds) (hn : ds.length ≤ 1048576) (h0 : 0 < ds.length) :
    Calls Tryz.prog 33 #[v, u] w fun e w' => e = .returned (.bool true) ∧ Below w.heap.size w w' := by
  rcases h with ⟨rfl, rfl⟩ | ⟨a, cap, rfl, hl, hc⟩
  · simp at h0
  rcases k with ⟨rfl, rfl⟩ | ⟨b, cap', rfl, hl', hc'⟩
  · simp at h0
  clear h0
  obtain ⟨n, hnn⟩ : ∃ n, ds.length = n := ⟨_, rfl⟩
  rw [hnn] at hn hl hl' ⊢
  have HC := Lib.hid hc
  have HC' := Lib.hid hc'
  have HN := Lib.hid hnn
  clear hc hc' hnn
  go_enter Tryz.func33, Tryz.ntmps33
  go_wp2
  go_loopw [5] (fun i wr => ∃ j : Nat, i = .int .i64 j ∧ j ≤ n ∧ Below w.heap.size w wr) (fun i _ => n - (intOf i).toNat)
  case atStart => exact ⟨0, rfl, Nat.zero_le _, Below.refl _ _⟩
  case round =>
    obtain ⟨j, rfl, hj, hb⟩ := hrel
    by_cases hlt : j < n
    · obtain ⟨d, hd⟩ : ∃ d, ds[j]? = some d := ⟨ds[j]'(by rw [HN.out]; exact hlt), List.getElem?_eq_getElem (by rw [HN.out]; exact hlt)⟩
      have c0 := cell_keep hb (HC.out j d hd).1
      have c1 := cell_keep hb (HC.out j d hd).2
      have e0 := cell_keep hb (HC'.out j d hd).1
      have e1 := cell_keep hb (HC'.out j d hd).2
      have hk3 : (0 : Int) ≤ (j : Int) := by omega
      have hk4 : (j : Int) < (n : Int) := by omega
      clear hd
      go_wp2_with fail
      go_quiet (fail)
      go_wp2
      go_roundw
      case rel => exact ⟨j + 1, by go_num, by omega, below_drewN hb _⟩
      case measure => simp [intOf]; omega
    · obtain rfl : j = n := by omega
      go_wp2_with fail
      go_ret
      exact ⟨rfl, hb⟩
end Go.Proofs.YtccdfndnjjjgfaaGreatDoor

namespace Go.Proofs.YtccdfndnjjjgfaaGreatDoor
open Go.RowKit

theorem run_all_ok {s : ByteArray} {zs : List ByteArray} (h : deskOk s zs = true) (ds : List (Int × Int)) : deskOk (runTo s zs ds).1.1 (runTo s zs ds).1.2 = true := by
  unfold runTo
  have : ∀ (ds : List (Int × Int)) (st : (ByteArray × List ByteArray) × Nat), deskOk st.1.1 st.1.2 = true → deskOk (ds.foldl runStep st).1.1 (ds.foldl runStep st).1.2 = true := by
    intro ds
    induction ds with
    | nil => intro st h; exact h
    | cons d ds ih => intro st h; exact ih _ (runStep_ok h d).1
  exact this ds _ h
theorem run_count (ds : List (Int × Int)) : ∀ (st : ByteArray × List ByteArray) (m : Nat), ds.foldl runStep (st, m) = ((ds.foldl runStep (st, 0)).1, m + (ds.foldl runStep (st, 0)).2) := by
  induction ds with
  | nil => intro st m; rfl
  | cons d ds ih =>
    intro st m
    rw [List.foldl_cons, List.foldl_cons]
    by_cases h : (deskDo st.1 st.2 d.1 d.2).2.2 = true
    · have e : ∀ m, runStep (st, m) d = (((deskDo st.1 st.2 d.1 d.2).1, (deskDo st.1 st.2 d.1 d.2).2.1), m + 1) := fun m => by unfold runStep; rw [if_pos h]
      rw [e, e, ih, ih _ (0 + 1)]
      exact Prod.ext rfl (by show _ = _; simp; omega)
    · have e : ∀ m, runStep (st, m) d = (st, m) := fun m => by unfold runStep; rw [if_neg h]
      rw [e, e, ih]
theorem runTo_append (s : ByteArray) (zs : List ByteArray) (a b : List (Int × Int)) : runTo s zs (a ++ b) = ((runTo (runTo s zs a).1.1 (runTo s zs a).1.2 b).1, (runTo s zs a).2 + (runTo (runTo s zs a).1.1 (runTo s zs a).1.2 b).2) := by
  have h := run_count b (runTo s zs a).1 (runTo s zs a).2
  unfold runTo at *
  rw [List.foldl_append]
  exact h
/-- In two parts it is the same. -/
theorem run_parts {s : ByteArray} {zs : List ByteArray} {ds : List (Int × Int)} (hok : deskOk s zs = true) (hl : ds.length ≤ 40) (k : Nat) {x1 : ByteArray} {y1 : List ByteArray} {p : Nat} (h1 : deskRun s zs (ds.take k) = ((x1, y1), p)) {x2 : ByteArray} {y2 : List ByteArray} {q : Nat} (h2 : deskRun x1 y1 (ds.drop k) = ((x2, y2), q)) : deskRun s zs ds = ((x2, y2), p + q) := by
  have e1 : deskRun s zs (ds.take k) = runTo s zs (ds.take k) := by
    unfold deskRun
    rw [if_pos ⟨hok, by rw [List.length_take]; omega⟩]
  have hk := run_all_ok hok (ds.take k)
  rw [← e1, h1] at hk
  have e2 : deskRun x1 y1 (ds.drop k) = runTo x1 y1 (ds.drop k) := by
    unfold deskRun
    rw [if_pos ⟨hk, by rw [List.length_drop]; omega⟩]
  have e : deskRun s zs ds = runTo s zs ds := by
    unfold deskRun
    rw [if_pos ⟨hok, hl⟩]
  have h := runTo_append s zs (ds.take k) (ds.drop k)
  rw [List.take_append_drop, ← e1, h1] at h
  rw [e, h, ← e2, h2]

theorem row_take {w : World} {g n cap : Nat} {ds : List (Int × Int)} (h : RowAt w (.slice (some ⟨g, 0, none⟩) n cap) ds) (hn : ds.length = n) {k : Nat} (hk : k ≤ n) : DeedsAt w (.slice (some ⟨g, 0, none⟩) k cap) (ds.take k) := by
  rcases h with ⟨h, _⟩ | ⟨g', cap', cur, he, hl, hg, hz, hc⟩
  · cases h
  · cases he
    have e : (ds.take k).length = k := by rw [List.length_take]; omega
    refine .inr ⟨⟨g, 0, none⟩, cap, by rw [e], by omega, fun j d hd => ?_⟩
    rw [List.getElem?_take] at hd
    split at hd
    · have := hc j d hd
      rw [add_plain, Nat.zero_add]
      exact ⟨(cell_of_row _ _ _ _ _ _ hg).trans this.1, (cell_of_row _ _ _ _ _ _ hg).trans this.2⟩
    · cases hd
theorem row_drop {w : World} {g n cap m c : Nat} {ds : List (Int × Int)} (h : RowAt w (.slice (some ⟨g, 0, none⟩) n cap) ds) (hn : ds.length = n) {k : Nat} (hk : k ≤ n) (hm : n - k = m) (hc' : m ≤ c) : DeedsAt w (.slice (some ⟨g, k * 2, none⟩) m c) (ds.drop k) := by
  rcases h with ⟨h, _⟩ | ⟨g', cap', cur, he, hl, hg, hz, hc⟩
  · cases h
  · cases he
    have e : (ds.drop k).length = m := by rw [List.length_drop]; omega
    refine .inr ⟨⟨g, k * 2, none⟩, c, by rw [e], by omega, fun j d hd => ?_⟩
    rw [List.getElem?_drop] at hd
    have := hc (k + j) d hd
    have e1 : k * 2 + j * 2 = (k + j) * 2 := by omega
    have e2 : k * 2 + j * 2 + 1 = (k + j) * 2 + 1 := by omega
    rw [add_plain]
    exact ⟨by rw [e1]; exact (cell_of_row _ _ _ _ _ _ hg).trans this.1, by show w.cell? ⟨g, k * 2 + j * 2 + 1, none⟩ = _; rw [e2]; exact (cell_of_row _ _ _ _ _ _ hg).trans this.2⟩
end Go.Proofs.YtccdfndnjjjgfaaGreatDoor

namespace Go.Proofs.YtccdfndnjjjgfaaGreatDoor
open Go.RowKit

theorem eq_strs (X : List UInt8) (s : ByteArray) : ((Tw.str X).toList == s.toList) = (X == s.data.toList) := by
  rw [Lib.toList_data, Lib.toList_data]
  rfl
def sameShape (l m : List UInt8) : Bool := Tw.closed l && Tw.closed m && (firstRes l == firstRes m)



end Go.Proofs.YtccdfndnjjjgfaaGreatDoor

namespace Go.Proofs.YtccdfndnjjjgfaaGreatDoor
open Go.RowKit

theorem do_not {s : ByteArray} {zs : List ByteArray} {k n : Int} {x : ByteArray} {ys : List ByteArray} (h : deskDo s zs k n = (x, ys, false)) (hok : deskOk s zs = true) : x = s ∧ ys = zs := by
  unfold deskDo at h
  rw [if_pos hok] at h
  unfold deskDone at h
  split at h
  · simp at h
  · split at h
    · simp at h
    · simp only [Prod.mk.injEq] at h
      exact ⟨h.1.symm, h.2.1.symm⟩
theorem do_ok {s : ByteArray} {zs : List ByteArray} {k n : Int} {x : ByteArray} {ys : List ByteArray} (h : deskDo s zs k n = (x, ys, true)) : deskOk s zs = true ∧ deskOk x ys = true := by
  by_cases hok : deskOk s zs = true
  · have := deskOk_do hok k n
    rw [h] at this
    exact ⟨hok, this⟩
  · unfold deskDo at h
    rw [if_neg hok] at h
    simp at h
theorem do_parts {s : ByteArray} {zs : List ByteArray} {k n : Int} {x : ByteArray} {ys : List ByteArray} (h : deskDo s zs k n = (x, ys, true)) (hk : k ≠ 5) : made s k n = (x, true) ∧ x ≠ s ∧ ys = (zs ++ [s]).drop (zs.length + 1 - 8) := by
  have hok := (do_ok h).1
  unfold deskDo at h
  rw [if_pos hok] at h
  unfold deskDone at h
  rw [if_neg (fun h9 => hk h9.1)] at h
  split at h
  · rename_i hm
    simp only [Prod.mk.injEq, and_true] at h
    obtain ⟨h1, h2⟩ := h
    refine ⟨?_, by rw [← h1]; exact hm.2, h2.symm⟩
    rw [← h1]
    exact Prod.ext rfl hm.1
  · simp at h
/-- Put back, it is the desk of before. -/
theorem do_undo {s : ByteArray} {zs : List ByteArray} {k n : Int} {x : ByteArray} {ys : List ByteArray} (h : deskDo s zs k n = (x, ys, true)) (hk : k ≠ 5) (hl : zs.length < 8) : deskDo x ys 5 0 = (s, zs, true) := by
  obtain ⟨_, hok⟩ := do_ok h
  obtain ⟨_, _, hys⟩ := do_parts h hk
  have e : ys = zs ++ [s] := by rw [hys, show zs.length + 1 - 8 = 0 by omega]; rfl
  unfold deskDo
  rw [if_pos hok]
  unfold deskDone
  rw [e, if_pos ⟨rfl, rfl, by simp⟩]
  simp
/-- Ways, other beginnings and first walks have the same shape. -/
theorem do_shape {s : ByteArray} {zs : List ByteArray} {k n : Int} {x : ByteArray} {ys : List ByteArray} (h : deskDo s zs k n = (x, ys, true)) (hk : k = 2 ∨ k = 3 ∨ k = 4) (hc : Tw.closed s.data.toList = true) : sameShape x.data.toList s.data.toList = true := by
  obtain ⟨hm, _, _⟩ := do_parts h (by omega)
  have key : ∀ l : List UInt8, Tw.shape s.data.toList l → sameShape l s.data.toList = true := fun l hl => by
    unfold sameShape
    rw [Tw.closed_shape hc hl, hc, firstRes_yes (Tw.closed_shape hc hl), firstRes_yes hc, Tw.first_same hc hl]
    simp
  have hself := Tw.shape_self hc
  rcases hk with rfl | rfl | rfl
  · have e : made s 2 n = madeWay s n := rfl
    rw [e] at hm
    unfold madeWay at hm
    split at hm
    · rename_i hn
      have hx : x = Tw.str (Tw.inWay s.data.toList n) := (congrArg Prod.fst hm).symm
      rw [hx, Tw.str_data, Tw.inWay_eq (Tw.closed_ok hc) hn.1 hn.2]
      exact key _ (Tw.shape_way hself)
    · simp at hm
  · have e : made s 3 n = madeOn s n := rfl
    rw [e] at hm
    unfold madeOn at hm
    split at hm
    · rename_i hn
      have hx : x = Tw.str (Tw.movedOn s.data.toList n) := (congrArg Prod.fst hm).symm
      obtain ⟨m, rfl⟩ : ∃ m : Nat, n = m := ⟨n.toNat, by omega⟩
      have hml : m < s.data.toList.length := by rw [size_data]; omega
      rw [hx, Tw.str_data, Tw.movedOn_eq hc hml]
      exact key _ (Tw.shape_moved hself hml)
    · simp at hm
  · have e : made s 4 n = madeFirst s n := rfl
    rw [e] at hm
    unfold madeFirst at hm
    split at hm
    · have hx : x = Tw.str (firstRes s.data.toList) := (congrArg Prod.fst hm).symm
      rw [hx, Tw.str_data, firstRes_yes hc]
      exact key _ (Tw.first_shape hc)
    · simp at hm
end Go.Proofs.YtccdfndnjjjgfaaGreatDoor

namespace Go.Proofs.YtccdfndnjjjgfaaGreatDoor
open Go.RowKit

theorem strs_cell {w : World} {v : Value} {zs : List ByteArray} {a : Option Addr} {c : Nat} (h : StrsAt w v zs) (hv : v = .slice a zs.length c) {j : Nat} (hj : j < zs.length) : ∃ b z, a = some b ∧ zs[j]? = some z ∧ w.cell? (b.add j) = some (.string z) := by
  rcases h with ⟨rfl, rfl⟩ | ⟨b, cap, rfl, hl, hc⟩
  · simp at hj
  · cases hv
    exact ⟨b, zs[j], rfl, List.getElem?_eq_getElem hj, hc j _ (List.getElem?_eq_getElem hj)⟩
theorem take_same {ys zs : List ByteArray} {j : Nat} {y : ByteArray} (h : ys.take j = zs.take j) (hy : ys[j]? = some y) (hz : zs[j]? = some y) : ys.take (j + 1) = zs.take (j + 1) := by
  rw [List.take_add_one, List.take_add_one, h, hy, hz]
set_option maxHeartbeats 800000 in
theorem sameTexts_any (v u : Value) (ys zs : List ByteArray) (w : World) (hv : StrsAt w v ys) (hu : StrsAt w u zs) (hm : zs.length ≤ 1048577) :
    Calls Tryz.prog 29 #[v, u] w fun e w' => e = .returned (.bool (decide (ys = zs))) ∧ Below w.heap.size w w' := by
  obtain ⟨a, c, rfl⟩ := strs_value hv
  obtain ⟨b, d, rfl⟩ := strs_value hu
  have HV := Lib.hid hv
  have HU := Lib.hid hu
  clear hv hu
  by_cases hlen : ys.length = zs.length
  · obtain ⟨n, hN⟩ : ∃ n, zs.length = n := ⟨_, rfl⟩
    have HY := Lib.hid (hlen.trans hN)
    have HZ := Lib.hid hN
    rw [hN] at hlen
    rw [hlen, hN]
    rw [hN] at hm
    clear hlen hN
    go_enter Tryz.func29, Tryz.ntmps29
    go_wp2
    go_loopw [5] (fun i wr => ∃ j : Nat, j ≤ n ∧ i = .int .i64 j ∧ Hid (ys.take j = zs.take j) ∧ Below w.heap.size w wr) (fun i _ => n - (intOf i).toNat)
    case atStart => exact ⟨0, Nat.zero_le _, rfl, rfl, Below.refl _ _⟩
    case round =>
      obtain ⟨j, hj, rfl, HT, hb⟩ := hrel
      by_cases hlt : j < n
      · have hk3 : (0 : Int) ≤ (j : Int) := by omega
        have hk4 : (j : Int) < (n : Int) := by omega
        obtain ⟨a1, y, rfl, hy, c1⟩ := strs_cell (HV.out.below' hb) (by rw [HY.out]) (by rw [HY.out]; exact hlt)
        obtain ⟨b1, z, rfl, hz, c2⟩ := strs_cell (HU.out.below' hb) (by rw [HZ.out]) (by rw [HZ.out]; exact hlt)
        have HYJ := Lib.hid hy
        have HZJ := Lib.hid hz
        clear hy hz
        cases hyz : decide (y = z)
        · have he := (eq_bytes y z).trans hyz
          have HYZ := Lib.hid (of_decide_eq_false hyz)
          clear hyz
          go_wp2_with fail
          go_quiet (fail)
          go_wp2
          go_ret
          refine ⟨?_, below_drewN hb _⟩
          have hne : ys ≠ zs := fun e => HYZ.out (by have h1 := HYJ.out; rw [e, HZJ.out] at h1; exact (Option.some.inj h1).symm)
          simp [hne]
        · have he := (eq_bytes y z).trans hyz
          have HYZ := Lib.hid (of_decide_eq_true hyz)
          clear hyz
          go_wp2_with fail
          go_quiet (fail)
          go_wp2
          go_roundw
          case rel => exact ⟨j + 1, by omega, by go_num, take_same HT.out HYJ.out (HYZ.out ▸ HZJ.out), below_drewN hb _⟩
          case measure => simp [intOf]; omega
      · obtain rfl : j = n := by omega
        go_wp2_with fail
        go_ret
        refine ⟨?_, hb⟩
        have h1 := HT.out
        rw [List.take_of_length_le (by rw [HY.out]; exact Nat.le_refl _), List.take_of_length_le (by rw [HZ.out]; exact Nat.le_refl _)] at h1
        simp [h1]
  · have hne : ys ≠ zs := fun e => hlen (by rw [e])
    have hlen2 : (ys.length : Int) ≠ zs.length := by omega
    go_enter Tryz.func29, Tryz.ntmps29
    go_wp2
    go_ret
    exact ⟨by simp [hne], Below.refl _ _⟩
set_option maxHeartbeats 800000 in
theorem sameDesk_any (s x : ByteArray) (v u : Value) (ys zs : List ByteArray) (w : World) (hv : StrsAt w v ys) (hu : StrsAt w u zs) (hm : zs.length ≤ 1048577) :
    Calls Tryz.prog 23 #[.agg #[.string s, v], .agg #[.string x, u]] w fun e w' => e = .returned (.bool (decide (s = x) && decide (ys = zs))) ∧ Below w.heap.size w w' := by
  obtain ⟨a, c, rfl⟩ := strs_value hv
  obtain ⟨b, d, rfl⟩ := strs_value hu
  obtain ⟨n, hN⟩ : ∃ n, zs.length = n := ⟨_, rfl⟩
  obtain ⟨m, hM⟩ : ∃ m, ys.length = m := ⟨_, rfl⟩
  have hb2 : ∀ o o', Below w.heap.size w ((w.alloc o).alloc o') := fun o o' => ((Below.refl _ _).alloc (Nat.le_refl _) o).alloc (by simp) o'
  have HC : Hid (∀ o o', Calls Tryz.prog 29 #[.slice a m c, .slice b n d] ((w.alloc o).alloc o') fun e w' => e = .returned (.bool (decide (ys = zs))) ∧ Below w.heap.size w w') := fun o o' =>
    (sameTexts_any _ _ ys zs _ ((hM ▸ hv : StrsAt w (.slice a m c) ys).below' (hb2 o o')) ((hN ▸ hu : StrsAt w (.slice b n d) zs).below' (hb2 o o')) hm).mono (by rintro e w' ⟨rfl, hb⟩; exact ⟨rfl, (hb2 o o').trans (hb.mono (by simp; omega))⟩)
  rw [hM, hN]
  obtain ⟨t, ht⟩ : ∃ t, decide (ys = zs) = t := ⟨_, rfl⟩
  rw [ht] at HC ⊢
  clear hv hu hm hN hM ht
  go_enter Tryz.func23, Tryz.ntmps23
  cases hsx : decide (s = x)
  · have he := (eq_bytes s x).trans hsx
    go_wp2
    go_ret
    exact ⟨by simp, hb2 _ _⟩
  · have he := (eq_bytes s x).trans hsx
    go_wp2_with (first | (go_at_call 29; refine (HC.out _ _).mono ?_; rintro e w1 ⟨rfl, hb1⟩))
    go_ret
    exact ⟨by simp, hb1⟩
set_option maxHeartbeats 800000 in
theorem noDesk_any (s : ByteArray) (v : Value) (ys : List ByteArray) (w : World) (hv : StrsAt w v ys) :
    Calls Tryz.prog 25 #[.agg #[.string s, v]] w fun e w' => e = .returned (.bool (decide (s = ⟨#[]⟩) && decide (ys = []))) ∧ Below w.heap.size w w' := by
  obtain ⟨a, c, rfl⟩ := strs_value hv
  obtain ⟨m, hM⟩ : ∃ m, ys.length = m := ⟨_, rfl⟩
  have hb2 : ∀ o, Below w.heap.size w (w.alloc o) := fun o => (Below.refl _ _).alloc (Nat.le_refl _) o
  have HC : Hid (∀ o, Calls Tryz.prog 23 #[.agg #[.string s, .slice a m c], .agg #[.string ⟨#[]⟩, .slice none 0 0]] (w.alloc o) fun e w' => e = .returned (.bool (decide (s = ⟨#[]⟩) && decide (ys = []))) ∧ Below w.heap.size w w') := fun o =>
    (sameDesk_any s ⟨#[]⟩ _ _ ys [] _ ((hM ▸ hv : StrsAt w (.slice a m c) ys).below' (hb2 o)) (.inl ⟨rfl, rfl⟩) (by simp)).mono (by rintro e w' ⟨rfl, hb⟩; exact ⟨rfl, (hb2 o).trans (hb.mono (by simp))⟩)
  rw [hM]
  obtain ⟨t, ht⟩ : ∃ t, (decide (s = ⟨#[]⟩) && decide (ys = [])) = t := ⟨_, rfl⟩
  rw [ht] at HC ⊢
  clear hv hM ht
  go_enter Tryz.func25, Tryz.ntmps25
  go_wp2_with (first | (go_at_call 23; refine (HC.out _).mono ?_; rintro e w1 ⟨rfl, hb1⟩))
  go_ret
  exact ⟨rfl, hb1⟩
end Go.Proofs.YtccdfndnjjjgfaaGreatDoor

namespace Go.Proofs.YtccdfndnjjjgfaaGreatDoor
open Go.RowKit

set_option maxHeartbeats 800000 in
theorem word_yes (w : World) : Calls Tryz.prog 66 #[.string ⟨#[70, 76, 82]⟩] w fun e w' => e = .returned (.bool true) ∧ w = w' := by
  go_enter Tryz.func66, Tryz.ntmps66
  go_wp2
  refine wp_loop_rounds 4 ?_
  rw [rounds_succ]
  go_wp2
  rw [rounds_succ]
  go_wp2
  rw [rounds_succ]
  go_wp2
  rw [rounds_succ]
  go_wp2
  go_ret
  exact ⟨rfl, rfl⟩

set_option maxHeartbeats 800000 in
theorem word_no (w : World) : Calls Tryz.prog 66 #[.string ⟨#[88]⟩] w fun e w' => e = .returned (.bool false) ∧ w = w' := by
  go_enter Tryz.func66, Tryz.ntmps66
  go_wp2
  refine wp_loop_rounds 1 ?_
  rw [rounds_succ]
  go_wp2
  go_ret
  exact ⟨rfl, rfl⟩

set_option maxHeartbeats 800000 in
theorem alive_yes (w : World) : Calls Tryz.prog 26 #[] w fun e w' => e = .returned (.bool true) ∧ w = w' := by
  go_enter Tryz.func26, Tryz.ntmps26
  go_wp2_with (go_at_call 66; first
    | (have hq := st1; refine (word_no _).mono ?_; rintro e w' ⟨rfl, rfl⟩)
    | (refine (word_yes _).mono ?_; rintro e w' ⟨rfl, rfl⟩; have st1 := True.intro))
  go_ret
  exact ⟨rfl, rfl⟩

end Go.Proofs.YtccdfndnjjjgfaaGreatDoor

namespace Go.Proofs.YtccdfndnjjjgfaaGreatDoor
open Go.ChangeShapes Go.WideShapes Go.ChangeAt Go.RowKit Go.WideMaps Go.WideElems
open Go.ChangeMaps (open_string shut_string)

section
variable {H : Type} {enc : TypeId × Value → H} {P : Program}

theorem trodAll_stays (hl : laidOutB P = true) {W W' : World} {sp' : Nat → Bool} : ∀ {ts : List TypeId} {vs : List Value} {ds : List (DataW H)} {ps : List MemPlace},
    (∀ t ∈ ts, P.readableRec t = true ∧ t < P.types.size) → DataW.TrodAll enc P W 0 (fun _ => true) true ts vs ds ps → (∀ p ∈ ps, W.sameAt W' p) → (∀ p ∈ ps, sp' p.block = true) → DataW.TrodAll enc P W' 0 sp' true ts vs ds ps
  | [], _, _, _, _, h, _, _ => by
    obtain ⟨rfl, rfl, rfl⟩ := trodAll_nil h
    exact trodAll_mk0
  | t :: ts, _, _, _, hr, h, hsame, hs => by
    obtain ⟨v, vs', d, ds', p, q, rfl, rfl, rfl, h1, h2⟩ := trodAll_cons h
    exact trodAll_cons_mk (WideElems.Trod_stays hl (hr t (by simp)).1 (hr t (by simp)).2 h1 (fun x hx => hsame x (by simp [hx])) (fun x hx => hs x (by simp [hx])))
      (trodAll_stays hl (fun u hu => hr u (by simp [hu])) h2 (fun x hx => hsame x (by simp [hx])) (fun x hx => hs x (by simp [hx])))

theorem trodVars_stays (hl : laidOutB P = true) {W W' : World} {sp' : Nat → Bool} (hb : Below W.heap.size W W') : ∀ {ns : List String} {ds : List (DataW H)} {ps : List MemPlace},
    (∀ n ∈ ns, ∀ g t, P.globalNamed n = some g → (P.globals[g]?).map (·.type) = some t → P.readableRec t = true ∧ t < P.types.size) → DataW.TrodVars enc P W (fun _ => true) ns ds ps → (∀ p ∈ ps, W.sameAt W' p) → (∀ p ∈ ps, sp' p.block = true) →
    DataW.TrodVars enc P W' sp' ns ds ps
  | [], ds, _, _, h, _, _ => by
    cases ds with
    | nil => exact h
    | cons _ _ => exact h.elim
  | n :: ns, [], _, _, h, _, _ => h.elim
  | n :: ns, d :: ds, _, hr, h, hsame, hs => by
    obtain ⟨g, t, cs, fuel, p, q, h1, h2, h3, h4, h5, rfl⟩ := h
    have hg : g < W.heap.size := by
      have h3' := h3
      unfold World.var? at h3'
      rw [h1, Option.bind_some] at h3'
      rcases Nat.lt_or_ge g W.heap.size with hlt | hge
      · exact hlt
      · rw [Array.getElem?_eq_none hge] at h3'
        cases h3'
    obtain ⟨hr1, hr2⟩ := hr n (by simp) g t h1 h2
    have h4' := DataW.trod_stays (sp' := sp') (kids_book hl hr1) (book_sized hr1) (fun h => by cases h) ⟨hr2, book_self t⟩ h4 (fun x hx => hsame x (by simp [hx])) (fun x hx => hs x (by simp [hx]))
    exact ⟨g, t, cs, fuel, p, q, h1, h2, var?_below hb h1 hg h3, h4', trodVars_stays hl hb (fun m hm => hr m (by simp [hm])) h5 (fun x hx => hsame x (by simp [hx])) (fun x hx => hs x (by simp [hx])), rfl⟩

section
variable {H : Type} {enc : TypeId × Value → H} {P : Program} {W : World} {sp : Nat → Bool}
theorem trodVars_len0 {gs : List (DataW H)} {q : List MemPlace} (h : DataW.TrodVars enc P W sp [] gs q) : gs = [] := (trodVars_none h).1
theorem trodVars_len1 {n0 : String} {gs : List (DataW H)} {q : List MemPlace} (h : DataW.TrodVars enc P W sp [n0] gs q) : ∃ g0, gs = [g0] := by
  cases gs with
  | nil => exact h.elim
  | cons g0 gs =>
    obtain ⟨_, _, _, _, _, _, _, _, _, _, h', _⟩ := h
    exact ⟨g0, by rw [trodVars_len0 h']⟩
theorem trodVars_len2 {n0 n1 : String} {gs : List (DataW H)} {q : List MemPlace} (h : DataW.TrodVars enc P W sp [n0, n1] gs q) : ∃ g0 g1, gs = [g0, g1] := by
  cases gs with
  | nil => exact h.elim
  | cons g0 gs =>
    obtain ⟨_, _, _, _, _, _, _, _, _, _, h', _⟩ := h
    obtain ⟨g1, rfl⟩ := trodVars_len1 h'
    exact ⟨g0, g1, rfl⟩
theorem trodVars_len3 {n0 n1 n2 : String} {gs : List (DataW H)} {q : List MemPlace} (h : DataW.TrodVars enc P W sp [n0, n1, n2] gs q) : ∃ g0 g1 g2, gs = [g0, g1, g2] := by
  cases gs with
  | nil => exact h.elim
  | cons g0 gs =>
    obtain ⟨_, _, _, _, _, _, _, _, _, _, h', _⟩ := h
    obtain ⟨g1, g2, rfl⟩ := trodVars_len2 h'
    exact ⟨g0, g1, g2, rfl⟩
theorem trodVars_len4 {n0 n1 n2 n3 : String} {gs : List (DataW H)} {q : List MemPlace} (h : DataW.TrodVars enc P W sp [n0, n1, n2, n3] gs q) : ∃ g0 g1 g2 g3, gs = [g0, g1, g2, g3] := by
  cases gs with
  | nil => exact h.elim
  | cons g0 gs =>
    obtain ⟨_, _, _, _, _, _, _, _, _, _, h', _⟩ := h
    obtain ⟨g1, g2, g3, rfl⟩ := trodVars_len3 h'
    exact ⟨g0, g1, g2, g3, rfl⟩
end

/-- What a law's specification says: the call returns true, and all reads as before. -/
structure Plain (s : ChangeSpec) (ds gs : List (DataW H)) : Prop where
  res : (s.fn H (ds ++ gs)).results = [.lit (.bool true)]
  args : (s.fn H (ds ++ gs)).args = ds
  vars : (s.fn H (ds ++ gs)).vars = gs

def rowsOk (P : Program) (ts : List TypeId) : Bool := ts.all fun t => P.readableRec t && decide (t < P.types.size)
def varsOk (P : Program) (ns : List String) : Bool := ns.all fun n => ((P.globalNamed n).bind (P.globals[·]?)).all fun gl => P.readableRec gl.type && decide (gl.type < P.types.size)

theorem law_post {f : Func} {s : ChangeSpec} {W W' : World} {args : Array Value} {ds gs : List (DataW H)} {before : List MemPlace} (hl : laidOutB P = true) (ht : rowsOk P f.params.toList = true) (hv : varsOk P s.vars = true)
    {tb : TypeId} (hb1 : f.resultTypes = #[tb]) (hb2 : P.underlying tb = some .bool)
    (hW : DataW.Whole enc P f.params.toList s.vars false W args.toList ds gs before) (hs : Plain s ds gs) (hb : Below W.heap.size W W') :
    s.post enc P f false true false false W args (.bool true) W' := by
  have hlt : ∀ p ∈ before, p.block < W.heap.size := fun p hp => hW.lt p hp
  have hold : ∀ p ∈ before, (fun b => decide (b < W.heap.size)) p.block = true := fun p hp => by simpa using hlt p hp
  have hW' := hW
  obtain ⟨pa, pv, hA, hV, rfl, hz, hn⟩ := hW
  have hsame : ∀ p ∈ pa ++ pv, W.sameAt W' p := fun p hp => hb.same (hlt p hp)
  have htr : ∀ t ∈ f.params.toList, P.readableRec t = true ∧ t < P.types.size := fun t h => by
    have := List.all_eq_true.1 ht t h
    simpa using this
  have hvr : ∀ n ∈ s.vars, ∀ g t, P.globalNamed n = some g → (P.globals[g]?).map (·.type) = some t → P.readableRec t = true ∧ t < P.types.size := fun n h g t h1 h2 => by
    have := List.all_eq_true.1 hv n h
    rw [h1] at this
    cases hg : P.globals[g]? with
    | none => rw [hg] at h2; cases h2
    | some gl =>
      rw [hg] at h2
      obtain rfl : gl.type = t := Option.some.inj h2
      simpa [hg] using this
  have hargs : ∀ sp : Nat → Bool, (∀ p ∈ pa ++ pv, sp p.block = true) → DataW.TrodAll enc P W' 0 sp true f.params.toList args.toList (s.fn H (ds ++ gs)).args pa := fun sp hsp => by
    rw [hs.args]
    exact trodAll_stays hl htr hA (fun x hx => hsame x (by simp [hx])) (fun x hx => hsp x (by simp [hx]))
  have hvars : ∀ sp : Nat → Bool, (∀ p ∈ pa ++ pv, sp p.block = true) → DataW.TrodVars enc P W' sp s.vars (s.fn H (ds ++ gs)).vars pv := fun sp hsp => by
    rw [hs.vars]
    exact trodVars_stays hl hb hvr hV (fun x hx => hsame x (by simp [hx])) (fun x hx => hsp x (by simp [hx]))
  have hres : ∀ (b : Nat) (sp : Nat → Bool) (hd : Bool), DataW.TrodAll enc P W' b sp hd f.resultTypes.toList ((Value.bool true).resultList f.resultTypes.size) (s.fn H (ds ++ gs)).results [] := fun b sp hd => by
    rw [hs.res, hb1]
    exact trodAll_cons_mk (shut_bool hb2 _) trodAll_mk0
  refine ⟨ds, gs, pa ++ pv, [], pa, pv, hW', hres _ _ _, hargs _ hold, hvars _ hold, World.keptBut_mono (fun p hp => ⟨hp, ?_⟩) (hb.frame (· ∈ pa ++ pv)), fun h => by cases h⟩
  rw [List.mem_append] at hp
  exact Or.inr hp

/-- Out of the list of variables with what they hold: one of them. -/
theorem laid_one {W : World} {n : String} {d : DataW Unit} : ∀ {laid : List (String × DataW Unit)} {ps : List MemPlace}, DataW.LaidVars P W laid ps → (n, d) ∈ laid →
    ∃ g t cs fuel p, P.globalNamed n = some g ∧ (P.globals[g]?).map (·.type) = some t ∧ W.var? P n = some cs ∧ DataW.trod (fun _ => ()) P W 0 (fun _ => true) false fuel t cs.toList = some (d, p)
  | [], _, _, hm => by cases hm
  | (n', d') :: r, _, h, hm => by
    obtain ⟨g, t, cs, fuel, p, q, h1, h2, h3, h4, h5, _⟩ := h
    rcases List.mem_cons.1 hm with e | hm
    · cases e
      exact ⟨g, t, cs, fuel, p, h1, h2, h3, h4⟩
    · exact laid_one h5 hm

/-- An array of strings, cell for cell. -/
theorem cells_of_strs {w : World} {base : Nat} {sp : Nat → Bool} {held : Bool} {fuel : Nat} {t e : TypeId} {n : Nat} {cs : List Value} {zs : List (List UInt8)} {p : List MemPlace}
    (ht : P.underlying t = some (.array n e)) (he : P.underlying e = some .string) (hce : P.cellsOf e = 1)
    (h : DataW.trod enc P w base sp held fuel t cs = some (.agg (zs.map fun z => .lit (.string z)), p)) : ∀ i, i < n → cs[i]? = some (.string (Tw.str (zs.getD i []))) := by
  obtain ⟨xs, m, _, hx, _, hxl, hel⟩ := DataW.trod_array ht h
  simp only [Prod.mk.injEq, DataW.agg.injEq] at hx
  intro i hi
  have h1 := hel i hi
  rw [hce, Nat.mul_one] at h1
  have hx1 : xs[i]? = some (xs[i]'(by omega)) := List.getElem?_eq_getElem (by omega)
  rw [hx1] at h1
  obtain ⟨s, hc, hy, _⟩ := DataW.trod_string he h1
  have h2 : (xs.map (·.1))[i]? = some (DataW.lit (.string s.data.toList) : DataW H) := by simp [hx1, hy]
  rw [← hx.1] at h2
  simp only [List.getElem?_map, Option.map_eq_some_iff, DataW.lit.injEq, Lit.string.injEq] at h2
  obtain ⟨z, hz, rfl⟩ := h2
  have h3 := congrArg (·[0]?) hc
  simp only [List.getElem?_take, List.getElem?_drop] at h3
  simp at h3
  rw [h3, List.getD, hz, Option.getD_some, Tw.str_of]

end

theorem gWays : Tryz.prog.globalNamed "loop.example/turtlewalks/impl.wayLetters" = some 1 := by kernel_rfl
theorem gWaysType : (Tryz.prog.globals[1]?).map (·.type) = some 144 := by kernel_rfl
theorem cellsString : Tryz.prog.cellsOf 9 = 1 := by kernel_rfl
theorem waysAt {W : World} {laid : List (String × DataW Unit)} (hp : (laid.all fun x => x.2.handleName?.isNone) = true) (h : laidMetH Tryz.prog laid W)
    (hm : ("loop.example/turtlewalks/impl.wayLetters", Rows.laid_loop_example_turtlewalks_impl_wayLetters) ∈ laid) : WaysAt W := by
  rw [MakeChecks.laidMetH_plain _ _ _ hp] at h
  obtain ⟨_, h, _⟩ := h
  obtain ⟨g, t, cs, fuel, p, h1, h2, h3, h4⟩ := laid_one h hm
  obtain rfl := Option.some.inj (gWays.symm.trans h1)
  obtain rfl := Option.some.inj (gWaysType.symm.trans h2)
  intro i hi
  rw [World.var?_cell h1 h3 i]
  have := cells_of_strs (zs := wayList) Tryz.underlying144 Tryz.underlying9 cellsString h4 i hi
  simpa using this

theorem gDirs : Tryz.prog.globalNamed "loop.example/turtlewalks/impl.directions" = some 3 := by kernel_rfl
theorem gDirsType : (Tryz.prog.globals[3]?).map (·.type) = some 169 := by kernel_rfl
theorem cellsPair : Tryz.prog.cellsOf 129 = 2 := by kernel_rfl
theorem cellsInt : Tryz.prog.cellsOf 3 = 1 := by kernel_rfl
theorem cells_of_dirs {w : World} {base : Nat} {sp : Nat → Bool} {held : Bool} {fuel : Nat} {cs : List Value} {zs : List (List Int)} {p : List MemPlace}
    (h : DataW.trod (fun _ => ()) Tryz.prog w base sp held fuel 169 cs = some (.agg (zs.map fun z => .agg (z.map fun y => .lit (.int .i64 y))), p)) :
    ∀ i j, i < 4 → j < 2 → cs[i * 2 + j]? = some (.int .i64 ((zs.getD i []).getD j 0)) := by
  obtain ⟨xs, m, _, hx, _, hxl, hel⟩ := DataW.trod_array Tryz.underlying169 h
  simp only [Prod.mk.injEq, DataW.agg.injEq] at hx
  intro i j hi hj
  have h1 := hel i hi
  rw [cellsPair] at h1
  have hx1 : xs[i]? = some (xs[i]'(by omega)) := List.getElem?_eq_getElem (by omega)
  rw [hx1] at h1
  have h2 : (xs.map (·.1))[i]? = some (xs[i]'(by omega)).1 := by simp [hx1]
  rw [← hx.1] at h2
  simp only [List.getElem?_map, Option.map_eq_some_iff] at h2
  obtain ⟨z, hz, hz1⟩ := h2
  have h1' : DataW.trod (fun _ => ()) Tryz.prog w base sp held m 129 ((cs.drop (i * 2)).take 2) = some (.agg (z.map fun y => .lit (.int .i64 y)), (xs[i]'(by omega)).2) := by rw [h1, hz1]
  obtain ⟨ys, m2, _, hy, _, hyl, hel2⟩ := DataW.trod_array Tryz.underlying129 h1'
  simp only [Prod.mk.injEq, DataW.agg.injEq] at hy
  have h3 := hel2 j hj
  rw [cellsInt, Nat.mul_one] at h3
  have hy1 : ys[j]? = some (ys[j]'(by omega)) := List.getElem?_eq_getElem (by omega)
  rw [hy1] at h3
  obtain ⟨q, hc, hq, _⟩ := DataW.trod_int Tryz.underlying3 h3
  have h4 : (ys.map (·.1))[j]? = some (DataW.lit (.int .i64 q) : DataW Unit) := by simp [hy1, hq]
  rw [← hy.1] at h4
  simp only [List.getElem?_map, Option.map_eq_some_iff, DataW.lit.injEq, Lit.int.injEq, true_and] at h4
  obtain ⟨z', hz', rfl⟩ := h4
  have h5 := congrArg (·[0]?) hc
  simp only [List.getElem?_take, List.getElem?_drop] at h5
  simp [hj] at h5
  have e1 : zs.getD i [] = z := by simp [List.getD, hz]
  rw [h5, e1, List.getD, hz', Option.getD_some]
theorem dirsAt {W : World} {laid : List (String × DataW Unit)} (hp : (laid.all fun x => x.2.handleName?.isNone) = true) (h : laidMetH Tryz.prog laid W)
    (hm : ("loop.example/turtlewalks/impl.directions", Rows.laid_loop_example_turtlewalks_impl_directions) ∈ laid) : DirsAt W := by
  rw [MakeChecks.laidMetH_plain _ _ _ hp] at h
  obtain ⟨_, h, _⟩ := h
  obtain ⟨g, t, cs, fuel, p, h1, h2, h3, h4⟩ := laid_one h hm
  obtain rfl := Option.some.inj (gDirs.symm.trans h1)
  obtain rfl := Option.some.inj (gDirsType.symm.trans h2)
  have hc : ∀ i j, i < 4 → j < 2 → W.cell? ⟨3, i * 2 + j, none⟩ = some (.int .i64 (([[1, 0], [0, 1], [-1, 0], [0, -1]].getD i []).getD j 0)) := fun i j hi hj => by
    rw [World.var?_cell h1 h3 (i * 2 + j)]
    have := cells_of_dirs (zs := [[1, 0], [0, 1], [-1, 0], [0, -1]]) h4 i j hi hj
    rw [← Array.getElem?_toList]
    exact this
  exact ⟨hc 0 0 (by omega) (by omega), hc 0 1 (by omega) (by omega), hc 1 0 (by omega) (by omega), hc 1 1 (by omega) (by omega), hc 2 0 (by omega) (by omega), hc 2 1 (by omega) (by omega), hc 3 0 (by omega) (by omega), hc 3 1 (by omega) (by omega)⟩

end Go.Proofs.YtccdfndnjjjgfaaGreatDoor

namespace Go.Proofs.YtccdfndnjjjgfaaGreatDoor
open Go.ChangeShapes Go.WideShapes Go.ChangeAt Go.RowKit Go.WideMaps Go.WideElems

set_option maxRecDepth 100000 in
theorem open_code {H : Type} {enc : TypeId × Value → H} {W : World} {base : Nat} {spare : Nat → Bool} {held : Bool} {r : Reach} {b0 : Nat} {v : Value} {d : DataW H} {p : List MemPlace} (hv : Value.okWide Tryz.prog W r b0 36 v) (h : DataW.Trod enc Tryz.prog W base spare held 36 v d p) :
    ∃ n, CodeAt W v n := by
  obtain ⟨a0, l0, c0, rfl⟩ := okWide_slice Tryz.underlying36 hv
  obtain ⟨fuel, hf⟩ := h
  rcases Go.ChangeShapes.open_ints Tryz.underlying36 Tryz.underlying5 (by kernel_rfl) hf with ⟨hv1, _⟩ | ⟨a, len, cap, zs, hv1, _, hl, _, hlen, _, hc, hzs⟩
  · simp [Value.cells] at hv1
    obtain ⟨rfl, rfl, rfl⟩ := hv1
    exact ⟨0, .inl ⟨rfl, rfl⟩⟩
  · simp [Value.cells] at hv1
    obtain ⟨rfl, rfl, rfl⟩ := hv1
    refine ⟨l0, .inr ⟨a, c0, rfl, hl, fun j hj => ?_⟩⟩
    have hj2 : j < zs.length := by rw [hlen]; split <;> omega
    have hw := hzs _ (List.getElem_mem hj2)
    have hcj := hc j hj2
    rw [List.getD, List.getElem?_eq_getElem hj2, Option.getD_some] at hcj
    refine ⟨_, ?_, ?_, hcj⟩ <;> (have := hw; simp [Lit.wf, IntKind.min, IntKind.max, IntKind.signed, IntKind.bits] at this; omega)

end Go.Proofs.YtccdfndnjjjgfaaGreatDoor

namespace Go.Proofs.YtccdfndnjjjgfaaGreatDoor
open Go.ChangeShapes Go.WideShapes Go.ChangeAt Go.RowKit Go.WideMaps Go.WideElems

def wordsList : List (List UInt8) := [[115, 116, 101, 112], [100, 114, 111, 112], [119, 97, 121], [111, 110], [102, 105, 114, 115, 116], [98, 97, 99, 107]]
theorem gWords : Tryz.prog.globalNamed "loop.example/turtlewalks/impl.deedWords" = some 0 := by kernel_rfl
theorem gWordsType : (Tryz.prog.globals[0]?).map (·.type) = some 94 := by kernel_rfl
theorem cellsWord : Tryz.prog.cellsOf 9 = 1 := by kernel_rfl
set_option maxRecDepth 100000 in
theorem wordsAt {W : World} {laid : List (String × DataW Unit)} (hp : (laid.all fun x => x.2.handleName?.isNone) = true) (h : laidMetH Tryz.prog laid W)
    (hm : ("loop.example/turtlewalks/impl.deedWords", Rows.laid_loop_example_turtlewalks_impl_deedWords) ∈ laid) : WordsAt W := by
  rw [MakeChecks.laidMetH_plain _ _ _ hp] at h
  obtain ⟨_, h, _⟩ := h
  obtain ⟨g, t, cs, fuel, p, h1, h2, h3, h4⟩ := laid_one h hm
  obtain rfl := Option.some.inj (gWords.symm.trans h1)
  obtain rfl := Option.some.inj (gWordsType.symm.trans h2)
  intro i hi
  rw [World.var?_cell h1 h3 i]
  have := cells_of_strs (zs := wordsList) Tryz.underlying94 Tryz.underlying9 cellsWord h4 i hi
  rw [← Array.getElem?_toList, this]
  rfl

end Go.Proofs.YtccdfndnjjjgfaaGreatDoor

namespace Go.Proofs.YtccdfndnjjjgfaaGreatDoor.fnReadJournal
open Go.ChangeShapes Go.WideShapes Go.ChangeAt Go.RowKit Go.WideMaps Go.WideElems
open Go.ChangeMaps (open_string shut_string)

theorem code_ext {w X : World} {v : Value} {n : Nat} (h : CodeAt w v n) (e : Ext w X) : CodeAt X v n := by
  rcases h with h | ⟨a, cap, rfl, hl, hc⟩
  · exact .inl h
  · exact .inr ⟨a, cap, rfl, hl, fun j hj => by obtain ⟨b, h0, h1, h3⟩ := hc j hj; exact ⟨b, h0, h1, cell_keep e h3⟩⟩
theorem run_min_int (w : World) (ts : Array TypeId) (t : TypeId) (m n : Nat) (h : m ≤ n) : (Builtin.min_ ts t #[.int .i64 (m : Int), .int .i64 (n : Int)]).run Tryz.prog w = .ok (.int .i64 (m : Int)) w := by
  have h4 : ¬ n < m := by omega
  simp [Builtin.min_, Builtin.min2, go_sem, h4]
theorem cut_text (s : ByteArray) (M : Nat) : Tw.str (s.data.toList.take M) = s.extract 0 M := by
  have e : (s.extract 0 M).data.toList = s.data.toList.take M := by
    rw [Lib.extract_data]
    simp
  rw [← e, Tw.str_of]
theorem same_is (s x : ByteArray) (v u : Value) (ys zs : List ByteArray) (w : World) (hv : StrsAt w v ys) (hu : StrsAt w u zs) (hm : zs.length ≤ 1048577) (b : Bool) (hb : (decide (s = x) && decide (ys = zs)) = b) :
    Calls Tryz.prog 23 #[.agg #[.string s, v], .agg #[.string x, u]] w fun e w' => e = .returned (.bool b) ∧ Below w.heap.size w w' := hb ▸ sameDesk_any s x v u ys zs w hv hu hm
theorem okS_is (s : ByteArray) (v : Value) (zs : List ByteArray) (w : World) (h : PastAt w v zs) (hs : s.size ≤ 1048576) (hl : zs.length ≤ 1048576) (hz : ∀ z ∈ zs, z.size ≤ 1048576) (b : Bool) (hb : deskOk s zs = b) :
    Calls Tryz.prog 24 #[.agg #[.string s, v]] w fun e w' => e = .returned (.bool b) ∧ Below w.heap.size w w' := hb ▸ specDeskOk s v zs w h.strs hs hl hz
theorem step_done {x : ByteArray} {ys : List ByteArray} {mm : Nat} {d : Int × Int} {x1 : ByteArray} {y1 : List ByteArray} {t1 : Bool} (hok : deskOk x ys = true) (h : deskDone x ys d.1 d.2 = (x1, y1, t1)) : (runStep ((x, ys), mm) d).1 = (x1, y1) := by
  have h' : deskDo x ys d.1 d.2 = (x1, y1, t1) := by
    unfold deskDo
    rw [if_pos hok]
    exact h
  unfold runStep
  rw [show deskDo ((x, ys), mm).1.1 ((x, ys), mm).1.2 d.1 d.2 = (x1, y1, t1) from h']
  cases t1
  · obtain ⟨rfl, rfl⟩ := do_not h' hok
    rfl
  · rfl
theorem run_next {s : ByteArray} {zs : List ByteArray} {ds : List (Int × Int)} {k : Nat} {d : Int × Int} {x : ByteArray} {ys : List ByteArray} {x1 : ByteArray} {y1 : List ByteArray} {t1 : Bool} (hd : ds[k]? = some d) (hr : (runTo s zs (ds.take k)).1 = (x, ys)) (hok : deskOk x ys = true) (h : deskDone x ys d.1 d.2 = (x1, y1, t1)) : (runTo s zs (ds.take (k + 1))).1 = (x1, y1) := by
  rw [runTo_succ hd, show runTo s zs (ds.take k) = ((x, ys), (runTo s zs (ds.take k)).2) from Prod.ext hr rfl]
  exact step_done hok h
theorem row_value {w : World} {v : Value} {ds : List (Int × Int)} (h : RowAt w v ds) {n : Nat} (hn : ds.length = n) : ∃ a c, v = .slice a n c ∧ n ≤ c := by
  subst hn
  rcases h with ⟨rfl, rfl⟩ | ⟨g, cap, _, rfl, hl, _⟩
  · exact ⟨_, _, rfl, Nat.le_refl _⟩
  · exact ⟨_, _, rfl, hl⟩
theorem row_first {w : World} {a : Option Addr} {n c : Nat} {ds : List (Int × Int)} (h : RowAt w (.slice a n c) ds) (hn : ds.length = n) {k : Nat} (hk : k ≤ n) (h0 : 0 < k) : DeedsAt w (.slice a k c) (ds.take k) := by
  rcases h with ⟨he, _⟩ | ⟨g, cap, cur, he, hl, hg, hz, hc⟩
  · cases he
    omega
  · cases he
    exact row_take (.inr ⟨g, c, cur, rfl, hl, hg, hz, hc⟩) rfl hk
set_option maxHeartbeats 800000 in
theorem same_none (a b : Option Addr) (c d : Nat) (w : World) :
    Calls Tryz.prog 33 #[.slice a 0 c, .slice b 0 d] w fun e w' => e = .returned (.bool true) ∧ Below w.heap.size w w' := by
  go_enter Tryz.func33, Tryz.ntmps33
  go_wp2
  refine wp_loop_rounds 1 ?_
  rw [rounds_succ]
  go_wp2
  go_ret
  exact ⟨rfl, Below.refl _ _⟩
theorem same_first (a b : Option Addr) (c d n m : Nat) (ds : List (Int × Int)) (w : World) (h : RowAt w (.slice a n c) ds) (hn : ds.length = n) (k : RowAt w (.slice b m d) (ds.take m)) (hm : m ≤ n) (hb : n ≤ 1048576) :
    Calls Tryz.prog 33 #[.slice b m d, .slice a m c] w fun e w' => e = .returned (.bool true) ∧ Below w.heap.size w w' := by
  rcases Nat.eq_zero_or_pos m with rfl | h0
  · exact same_none _ _ _ _ w
  · exact sameDeeds_yes _ _ (ds.take m) w k.deeds (row_first h hn hm h0) (by rw [List.length_take]; omega) (by rw [List.length_take]; omega)
theorem same_all (a b : Option Addr) (c d n : Nat) (ds : List (Int × Int)) (w : World) (h : RowAt w (.slice a n c) ds) (hn : ds.length = n) (k : RowAt w (.slice b n d) ds) (hb : n ≤ 1048576) :
    Calls Tryz.prog 33 #[.slice b n d, .slice a n c] w fun e w' => e = .returned (.bool true) ∧ Below w.heap.size w w' :=
  same_first a b c d n n ds w h hn (by rw [List.take_of_length_le (by omega)]; exact k) (Nat.le_refl _) hb
theorem deed_bound {d : Int × Int} (h : dt d ≠ []) : -9223372036854775808 ≤ d.2 ∧ d.2 ≤ 9223372036854775807 := by
  unfold dt deedText at h
  split at h
  · split at h
    · omega
    · exact absurd rfl h
  · split at h
    · split at h
      · omega
      · exact absurd rfl h
    · exact absurd rfl h
/-- What is read of a beginning. -/
theorem read_cut (s : ByteArray) (k : Nat) (hk : k ≤ s.size) (hs : s.size ≤ 1048576) (ds : List (Int × Int)) (hds : (journalOf s.data.toList).1 = ds) (w : World) (hw : WordsAt w) (hm : MaxAt w) :
    Calls Tryz.prog 31 #[.string (s.extract 0 k)] w fun e w' => ∃ (b : Option Addr) (d m r : Nat), e = .returned (.tuple #[.slice b m d, .int .i64 (r : Int)]) ∧ RowAt w' (.slice b m d) (ds.take m) ∧ m ≤ ds.length ∧ r ≤ k ∧ Below w.heap.size w w' := by
  refine (implReadJournal _ w hw hm (by rw [ByteArray.size_extract]; omega)).mono ?_
  rintro e w' ⟨v, rfl, hr, hf, hb⟩
  have e1 : (s.extract 0 k).data.toList = s.data.toList.take k := by
    rw [Lib.extract_data]
    simp
  rw [e1] at hr ⊢
  obtain ⟨hp, hle⟩ := journal_cut s.data.toList k
  rw [hds] at hp
  obtain ⟨b, d, rfl, _⟩ := row_value hr rfl
  have e2 := List.prefix_iff_eq_take.1 hp
  exact ⟨b, d, _, _, rfl, e2 ▸ hr, hp.length_le, hle, hb⟩

set_option maxRecDepth 100000 in
set_option maxHeartbeats 6400000 in
theorem walk (v : Value) (n : Nat) (u : Value) (m : Nat) (w : World) (hw : WordsAt w) (hww : WaysAt w) (hd : DirsAt w) (hx : MaxAt w) (h : CodeAt w v n) (h2 : CodeAt w u m) :
    Calls Tryz.prog 6 #[v, u] w fun e w' => e = .returned (.bool true) ∧ Below w.heap.size w w' := by
  have hdraw := drawReadJournal v n w h
  have hdraw2 : ∀ X, Ext w X → _ := fun X hX => drawDeskRun u m X (code_ext h2 hX)
  obtain ⟨a, cap, rfl⟩ := code_value h
  obtain ⟨b, cap2, rfl⟩ := code_value h2
  have HD := Lib.hid hdraw
  have HD2 := Lib.hid hdraw2
  clear hdraw hdraw2 h h2
  by_cases hn : 1048576 < n
  · go_enter Tryz.func6, Tryz.ntmps6
    go_wp2_with fail
    go_ret
    exact ⟨rfl, Below.refl _ _⟩
  by_cases hm2 : 1048576 < m
  · have hn' : n ≤ 1048576 := by omega
    go_enter Tryz.func6, Tryz.ntmps6
    go_wp2_with fail
    go_ret
    exact ⟨rfl, Below.refl _ _⟩
  have hn' : n ≤ 1048576 := by omega
  have hm' : m ≤ 1048576 := by omega
  have HWW := Lib.hid hww
  have HWO := Lib.hid hw
  have HDD := Lib.hid hd
  have HXX := Lib.hid hx
  clear hw hww hd hx hn hm2
  go_enter Tryz.func6, Tryz.ntmps6
  go_upto_region 4 with (go_at_call 30; refine HD.out.mono ?_; rintro e w1 ⟨s, rfl, hs, hb1⟩; have B1 := Lib.hid hb1; clear hb1)
  obtain ⟨ds, hds⟩ : ∃ ds, (journalOf s.data.toList).1 = ds := ⟨_, rfl⟩
  obtain ⟨M, hM⟩ : ∃ M, (journalOf s.data.toList).2 = M := ⟨_, rfl⟩
  obtain ⟨N, hN⟩ : ∃ N, ds.length = N := ⟨_, rfl⟩
  obtain ⟨j1, j2, j3, j4⟩ := journal_again s.data.toList
  rw [size_data] at j1
  rw [hds, hM] at j2
  rw [hds] at j3 j4
  rw [hM] at j1 j4
  rw [hN] at j4
  have HJ2 := Lib.hid j2
  have HGOOD := Lib.hid j3
  have HN := Lib.hid hN
  have HRI : Hid (∀ Y, Ext w1 Y → Calls Tryz.prog 31 #[.string s] Y fun e w' => ∃ a c, e = .returned (.tuple #[.slice a N c, .int .i64 (M : Int)]) ∧ N ≤ c ∧ RowAt w' (.slice a N c) ds ∧ Below Y.heap.size Y w') := fun Y hY => by
    refine (implReadJournal s Y (HWO.out.below' (B1.out.trans (Below.mono hY B1.out.size))) (HXX.out.below' (B1.out.trans (Below.mono hY B1.out.size))) (by omega)).mono ?_
    rintro e w' ⟨x, rfl, hr, hf, hb⟩
    rw [hds] at hr
    rw [hM]
    obtain ⟨a, c, rfl, hc⟩ := row_value hr hN
    exact ⟨a, c, rfl, hc, hr, hb⟩
  have HRS : Hid (∀ Y, Ext w1 Y → Calls Tryz.prog 32 #[.string s] Y fun e w' => ∃ a c, e = .returned (.tuple #[.slice a N c, .int .i64 (M : Int)]) ∧ RowAt w' (.slice a N c) ds ∧ Below Y.heap.size Y w') := fun Y hY => by
    refine (specReadJournal s Y (by omega)).mono ?_
    rintro e w' ⟨x, rfl, hr, hf, hb⟩
    rw [hds] at hr
    rw [hM]
    obtain ⟨a, c, rfl, _⟩ := row_value hr hN
    exact ⟨a, c, rfl, hr, hb⟩
  have HRC : Hid (∀ Y, Ext w1 Y → ∀ k, k ≤ s.size → Calls Tryz.prog 31 #[.string (s.extract 0 k)] Y fun e w' => ∃ (b : Option Addr) (d m r : Nat), e = .returned (.tuple #[.slice b m d, .int .i64 (r : Int)]) ∧ RowAt w' (.slice b m d) (ds.take m) ∧ m ≤ N ∧ r ≤ k ∧ Below Y.heap.size Y w') := fun Y hY k hk => hN ▸ read_cut s k hk (by omega) ds hds Y (HWO.out.below' (B1.out.trans (Below.mono hY B1.out.size))) (HXX.out.below' (B1.out.trans (Below.mono hY B1.out.size)))
  clear hds hM hN j2 j3
  go_upto_region 8 with (first
    | (go_at_call 31; refine (HRI.out _ (Ext.refl _)).mono ?_; rintro e w2 ⟨aL, cL, rfl, hcL, hr2, hb2⟩; have E2 : Hid (Ext w1 w2) := hb2; have R2 := Lib.hid hr2; clear hr2 hb2)
    | (go_at_call 32; refine (HRS.out _ E2.out).mono ?_; rintro e w3 ⟨aM, cM, rfl, hr3, hb3⟩; have E3 : Hid (Ext w1 w3) := Ext.call E2.out hb3; have R3 := Lib.hid (R2.out.ext hb3); have RM := Lib.hid hr3; clear hr3 hb3)
    | (go_at_call 33; refine (same_all _ _ _ _ N ds _ RM.out HN.out R3.out (by omega)).mono ?_; rintro e w4 ⟨rfl, hb4⟩; have E4 : Hid (Ext w1 w4) := Ext.call E3.out hb4; have R4 := Lib.hid (R3.out.ext hb4); clear hb4))
  go_wp2_with fail
  go_loopw [10] (fun i wr => ∃ k : Nat, i = .int .i64 k ∧ k ≤ s.size + 1 ∧ Hid (Ext w4 wr)) (fun i _ => s.size + 1 - (intOf i).toNat)
  case atStart => exact ⟨0, rfl, Nat.zero_le _, Ext.refl _⟩
  case round =>
    obtain ⟨k, rfl, hk, er⟩ := hrel
    by_cases hlt : k ≤ s.size
    · have hk1 : (0 : Int) ≤ (k : Int) := by omega
      have hk2 : (k : Int) ≤ (s.size : Int) := by omega
      go_upto_region 12 with (first
        | (go_at_call 31; refine (HRC.out _ (E4.out.trans er.out) k hlt).mono ?_; rintro e w5 ⟨b5, d5, m5, r5, rfl, hr5, hm5, hk5, hb5⟩; have E5 : Hid (Ext w4 w5) := Ext.call er.out hb5; have R5 := Lib.hid hr5; clear hr5 hb5))
      have hq1 : (m5 : Int) ≤ (N : Int) := by omega
      have hq2 : (r5 : Int) ≤ (k : Int) := by omega
      have hq3 : (0 : Int) ≤ (m5 : Int) := by omega
      have hq4 : (N : Int) ≤ (cL : Int) := by omega
      have hmin := fun (w : World) (ts : Array TypeId) (t : TypeId) => run_min_int w ts t m5 N hm5
      go_wp2_with (first
        | (go_at_call 33; refine (same_first _ _ _ _ N m5 ds _ (R4.out.ext E5.out) HN.out R5.out hm5 (by omega)).mono ?_; rintro e w6 ⟨rfl, hb6⟩; have E6 : Hid (Ext w4 w6) := Ext.call E5.out hb6; clear hb6))
      go_roundw
      case rel => exact ⟨k + 1, by go_num, by omega, E6.out⟩
      case measure => simp [intOf]; omega
    · obtain rfl : k = s.size + 1 := by omega
      have W4 := Lib.hid (E4.out.trans er.out)
      have B4 : Below w.heap.size w wr := Ext.below B1.out W4.out B1.out.size
      go_upto_region 14 with (fail)
      go_upto_region 15 with (go_at_call 34; refine (HD2.out _ (show Ext w wr from B4)).mono ?_; rintro e w5 ⟨sd, ud, zs, g2, cp2, ds2, rfl, hk5, _, hb5⟩; obtain ⟨aU, cU, hvU⟩ := past_slice hk5.past (M := zs.length) rfl; subst hvU; have E5 : Hid (Ext w4 w5) := Ext.call er.out hb5; have e5 : Ext wr w5 := hb5; have HK := Lib.hid hk5; have hs41 := hk5.hs; have hl9 := hk5.hl; clear hk5 hb5)
      obtain ⟨L, hL⟩ : ∃ L, zs.length = L := ⟨_, rfl⟩
      rw [hL] at HK hl9 ⊢
      have HL := Lib.hid hL
      have HZ : Hid (∀ z ∈ zs, z.size ≤ 1048576) := fun z hz => by have := HK.out.hz z hz; omega
      have hro := heap_alloc_new w5 (.cells #[.string sd, .slice aU L cU] 27)
      have hE6 : Ext w5 (w5.alloc (.cells #[.string sd, .slice aU L cU] 27)) := (Ext.refl w5).alloc _
      have hs6 : w5.heap.size < (w5.alloc (.cells #[.string sd, .slice aU L cU] 27)).heap.size := by simp
      obtain ⟨W6, hW6⟩ : ∃ W6, w5.alloc (.cells #[.string sd, .slice aU L cU] 27) = W6 := ⟨_, rfl⟩
      obtain ⟨D, hD⟩ : ∃ D, w5.heap.size = D := ⟨_, rfl⟩
      rw [hW6] at hro hE6 hs6 ⊢
      rw [hD] at hro hs6 ⊢
      have HP6 := Lib.hid (hE6.past HK.out.past)
      have E6 := Lib.hid (E5.out.trans hE6)
      have R6 := Lib.hid (R4.out.ext E6.out)
      have HB6 : Hid (Below w.heap.size w W6) := Ext.below B4 ((e5.trans hE6)) B4.size
      have HDB : Hid (∀ X, Ext W6 X → X.cell? ⟨D, 0, none⟩ = some (.string sd) ∧ X.cell? ⟨D, 1, none⟩ = some (.slice aU L cU)) := fun X hX => two_cells (hX.row hro)
      obtain ⟨d0, d1⟩ := HDB.out W6 (Ext.refl _)
      obtain ⟨xE, hxE⟩ : ∃ x, (deskRun sd zs ds).1.1 = x := ⟨_, rfl⟩
      obtain ⟨yE, hyE⟩ : ∃ x, (deskRun sd zs ds).1.2 = x := ⟨_, rfl⟩
      obtain ⟨kE, hkE⟩ : ∃ x, (deskRun sd zs ds).2 = x := ⟨_, rfl⟩
      have HRE : Hid (deskRun sd zs ds = ((xE, yE), kE)) := by show deskRun sd zs ds = _; rw [← hxE, ← hyE, ← hkE]
      obtain ⟨mE, hmE⟩ : ∃ m, yE.length = m := ⟨_, rfl⟩
      have HEM := Lib.hid hmE
      have hmE8 : mE ≤ 8 := by
        rw [← hmE, ← hyE]
        exact deskRun_few sd zs ds
      have HRUN : Hid (∀ X, Ext W6 X → Calls Tryz.prog 36 #[.agg #[.string sd, .slice aU L cU], .slice aL N cL] X (RunOut X ((xE, yE), kE))) := fun X hX => by
        rw [← HRE.out]
        exact implDeskRun sd _ zs _ ds X (hX.past HP6.out) (R6.out.ext hX).deeds (by omega) (by rw [HL.out]; omega) HZ.out (by rw [HN.out]; omega) (fun d hd => deed_bound (good_at HGOOD.out hd).1) (HWW.out.below' (HB6.out.trans (Below.mono hX HB6.out.size))) (HDD.out.below' (HB6.out.trans (Below.mono hX HB6.out.size)))
      have HJT : Hid (∀ X, Ext W6 X → Calls Tryz.prog 37 #[.slice aL N cL] X fun e w' => e = .returned (.string (s.extract 0 M)) ∧ Below X.heap.size X w') := fun X hX => by
        have h9 : Tw.str (journal ds) = s.extract 0 M := by
          rw [HJ2.out]
          exact cut_text s M
        rw [← h9]
        exact implJournal _ ds X (HWO.out.below' (HB6.out.trans (Below.mono hX HB6.out.size))) (R6.out.ext hX).deeds (by rw [HN.out]; omega)
      obtain ⟨t, ht⟩ : ∃ t, deskOk sd zs = t := ⟨_, rfl⟩
      have HT := Lib.hid ht
      have HOKS : Hid (∀ X, Ext W6 X → Calls Tryz.prog 24 #[.agg #[.string sd, .slice aU L cU]] X fun e w' => e = .returned (.bool t) ∧ Below X.heap.size X w') := fun X hX => okS_is sd _ zs X (hX.past HP6.out) (by omega) (by rw [HL.out]; omega) HZ.out t HT.out
      have hM1 : (0 : Int) ≤ (M : Int) := by omega
      have hM2 : (M : Int) ≤ (s.size : Int) := by omega
      clear hW6 hD hL hE6 e5 hxE hyE hkE hmE ht
      go_upto_region 16 with (fail)
      have hBO := box_new (A := 0) (x := sd) HP6.out (fun _ _ => Nat.zero_le _) (Nat.zero_le _)
      have hE7 : Ext W6 (W6.alloc (.cells #[.string sd, .slice aU L cU] 27)) := (Ext.refl W6).alloc _
      have hs7 : W6.heap.size < (W6.alloc (.cells #[.string sd, .slice aU L cU] 27)).heap.size := by simp
      obtain ⟨W7, hW7⟩ : ∃ W7, W6.alloc (.cells #[.string sd, .slice aU L cU] 27) = W7 := ⟨_, rfl⟩
      obtain ⟨O, hO⟩ : ∃ O, W6.heap.size = O := ⟨_, rfl⟩
      have hO6 : W6.heap.size ≤ O := by omega
      rw [hW7] at hBO hE7 hs7 ⊢
      rw [hO] at hBO hs7 ⊢
      have HBO := Lib.hid hBO
      have E7 := Lib.hid hE7
      have HOB0 := Lib.hid hBO.row
      obtain ⟨l0, l1⟩ := HDB.out W7 hE7
      clear hW7 hO hBO hE7
      cases t
      · go_wp2_with fail
        refine wp_loop_rounds 1 ?_
        rw [rounds_succ]
        rcases Nat.eq_zero_or_pos N with hN0 | hN0
        · have hN1 : ¬ (0 : Int) < (N : Int) := by omega
          clear hN0
          obtain ⟨wB, rfl⟩ : ∃ wB : World, wB = W7 := ⟨_, rfl⟩
          have EB := E7
          have HOB := HOB0
          go_upto_region 24 with (go_at_call 36; refine (HRUN.out _ EB.out).mono ?_; rintro e wR ⟨vR, rfl, hpR, hfR, hbR⟩; obtain ⟨aR, cR, hvR⟩ := past_slice hpR HEM.out; subst hvR; have ER : Hid (Ext wB wR) := hbR; have PR := Lib.hid hpR; clear hpR hfR hbR)
          have hE0 := two_cells (heap_alloc_new wR (.cells #[.string xE, .slice aR mE cR] 27))
          have ERA : Hid (Ext wB (wR.alloc (.cells #[.string xE, .slice aR mE cR] 27))) := ER.out.alloc _
          have PRA := Lib.hid (((Ext.refl wR).alloc (.cells #[.string xE, .slice aR mE cR] 27)).past PR.out)
          have ROW := Lib.hid (heap_alloc_new wR (.cells #[.string xE, .slice aR mE cR] 27))
          obtain ⟨wF, hwF⟩ : ∃ wF, wR.alloc (.cells #[.string xE, .slice aR mE cR] 27) = wF := ⟨_, rfl⟩
          obtain ⟨F, hF⟩ : ∃ F, wR.heap.size = F := ⟨_, rfl⟩
          rw [hwF] at ERA PRA ROW hE0 ⊢
          rw [hF] at ROW hE0 ⊢
          clear hwF hF
          have HSL : Hid (∀ X, Ext wF X → X.cell? ⟨D, 0, none⟩ = some (.string sd) ∧ X.cell? ⟨D, 1, none⟩ = some (.slice aU L cU) ∧ (X.cell? ⟨O, 0, none⟩ = some (.string sd) ∧ X.cell? ⟨O, 1, none⟩ = some (.slice aU L cU)) ∧ (X.cell? ⟨F, 0, none⟩ = some (.string xE) ∧ X.cell? ⟨F, 1, none⟩ = some (.slice aR mE cR))) := fun X hX => ⟨(HDB.out X (EB.out.trans (ERA.out.trans hX))).1, (HDB.out X (EB.out.trans (ERA.out.trans hX))).2, two_cells (hX.row (ERA.out.row HOB.out)), two_cells (hX.row ROW.out)⟩
          refine wp_region_held_drew (S := fun w' => w'.cell? ⟨D, 0, none⟩ = some (.string sd) ∧ w'.cell? ⟨D, 1, none⟩ = some (.slice aU L cU) ∧ (w'.cell? ⟨O, 0, none⟩ = some (.string sd) ∧ w'.cell? ⟨O, 1, none⟩ = some (.slice aU L cU)) ∧ (w'.cell? ⟨F, 0, none⟩ = some (.string xE) ∧ w'.cell? ⟨F, 1, none⟩ = some (.slice aR mE cR))) (by kernel_rfl) (HSL.out _ (Ext.refl _).drew) (fun hHeld => ?_)
          refine wpAnyH_take (i := 0) (v := .int .i64 (M : Int)) rfl (by kernel_rfl) (by kernel_rfl) (by kernel_rfl) (fun _ _ _ h => h) (Or.inl ⟨by kernel_rfl, ?_⟩) (by assumption) ?_
          · intro w hSw
            (try dsimp only at hSw)
            (try obtain ⟨q1, q2, q3, q4⟩ := hSw)
            go_simp
          change wpAnyH _ _ _ _ _ _ _ (Act.put _ (some 124) _) _
          simp only [Act.put, List.setIfInBounds_toArray, List.set_cons_zero, List.set_cons_succ]
          refine wpAnyH_take (i := 1) (v := .string s) rfl (by kernel_rfl) (by kernel_rfl) (by kernel_rfl) (fun _ _ _ h => h) (Or.inl ⟨by kernel_rfl, ?_⟩) (by assumption) ?_
          · intro w hSw
            (try dsimp only at hSw)
            (try obtain ⟨q1, q2, q3, q4⟩ := hSw)
            go_simp
          change wpAnyH _ _ _ _ _ _ _ (Act.put _ (some 125) _) _
          simp only [Act.put, List.setIfInBounds_toArray, List.set_cons_zero, List.set_cons_succ]
          refine wpAnyH_take (i := 2) (v := .int .i64 (s.size : Int)) rfl (by kernel_rfl) (by kernel_rfl) (by kernel_rfl) (fun _ _ _ h => h) (Or.inl ⟨by kernel_rfl, ?_⟩) (by assumption) ?_
          · intro w hSw
            (try dsimp only at hSw)
            (try obtain ⟨q1, q2, q3, q4⟩ := hSw)
            go_simp
          change wpAnyH _ _ _ _ _ _ _ (Act.put _ (some 126) _) _
          simp only [Act.put, List.setIfInBounds_toArray, List.set_cons_zero, List.set_cons_succ]
          refine wpAnyH_take (i := 3) (v := .bool true) rfl (by kernel_rfl) (by kernel_rfl) (by kernel_rfl) (fun _ _ _ h => h) (Or.inl ⟨by kernel_rfl, ?_⟩) (by assumption) ?_
          · intro w hSw
            (try dsimp only at hSw)
            (try obtain ⟨q1, q2, q3, q4⟩ := hSw)
            go_simp
          change wpAnyH _ _ _ _ _ _ _ (Act.put _ (some 127) _) _
          simp only [Act.put, List.setIfInBounds_toArray, List.set_cons_zero, List.set_cons_succ]
          refine wpAnyH_take (i := 4) (v := .bool true) rfl (by kernel_rfl) (by kernel_rfl) (by kernel_rfl) (fun _ _ _ h => h) (Or.inl ⟨by kernel_rfl, ?_⟩) (by assumption) ?_
          · intro w hSw
            (try dsimp only at hSw)
            (try obtain ⟨q1, q2, q3, q4⟩ := hSw)
            go_simp
          change wpAnyH _ _ _ _ _ _ _ (Act.put _ (some 128) _) _
          simp only [Act.put, List.setIfInBounds_toArray, List.set_cons_zero, List.set_cons_succ]
          refine wpAnyH_take (i := 5) (v := .slice aL N cL) rfl (by kernel_rfl) (by kernel_rfl) (by kernel_rfl) (fun _ _ _ h => h) (Or.inl ⟨by kernel_rfl, ?_⟩) (by assumption) ?_
          · intro w hSw
            (try dsimp only at hSw)
            (try obtain ⟨q1, q2, q3, q4⟩ := hSw)
            go_simp
          change wpAnyH _ _ _ _ _ _ _ (Act.put _ (some 129) _) _
          simp only [Act.put, List.setIfInBounds_toArray, List.set_cons_zero, List.set_cons_succ]
          refine wpAnyH_take (i := 7) (v := .string s) rfl (by kernel_rfl) (by kernel_rfl) (by kernel_rfl) (fun _ _ _ h => h) (Or.inl ⟨by kernel_rfl, ?_⟩) (by assumption) ?_
          · intro w hSw
            (try dsimp only at hSw)
            (try obtain ⟨q1, q2, q3, q4⟩ := hSw)
            go_simp
          change wpAnyH _ _ _ _ _ _ _ (Act.put _ (some 131) _) _
          simp only [Act.put, List.setIfInBounds_toArray, List.set_cons_zero, List.set_cons_succ]
          refine wpAnyH_take (i := 8) (v := .int .i64 (M : Int)) rfl (by kernel_rfl) (by kernel_rfl) (by kernel_rfl) (fun _ _ _ h => h) (Or.inl ⟨by kernel_rfl, ?_⟩) (by assumption) ?_
          · intro w hSw
            (try dsimp only at hSw)
            (try obtain ⟨q1, q2, q3, q4⟩ := hSw)
            go_simp
          change wpAnyH _ _ _ _ _ _ _ (Act.put _ (some 132) _) _
          simp only [Act.put, List.setIfInBounds_toArray, List.set_cons_zero, List.set_cons_succ]
          refine wpAnyH_take (i := 9) (v := .string (s.extract 0 M)) rfl (by kernel_rfl) (by kernel_rfl) (by kernel_rfl) (fun _ _ _ h => h) (Or.inl ⟨by kernel_rfl, ?_⟩) (by assumption) ?_
          · intro w hSw
            (try dsimp only at hSw)
            (try obtain ⟨q1, q2, q3, q4⟩ := hSw)
            go_simp
          change wpAnyH _ _ _ _ _ _ _ (Act.put _ (some 133) _) _
          simp only [Act.put, List.setIfInBounds_toArray, List.set_cons_zero, List.set_cons_succ]
          refine wpAnyH_ready (rs := [6]) (by kernel_rfl) (by simp) ?_
          refine AllReadyH.cons rfl (fun K hK => ?_) AllReadyH.nil
          go_simp
          go_at_call 37
          refine (HJT.out _ (EB.out.trans (ERA.out.trans (Ext.refl _).drew))).mono ?_
          rintro e wJ ⟨rfl, hbJ⟩
          have eC6 : Hid (Ext wF wJ) := Ext.call (Ext.refl _).drew hbJ
          clear hbJ
          go_wp2_with fail
          refine hK.out _ _ (HSL.out _ eC6.out) (fun hHeld => ?_)
          clear hK K
          refine wpAnyH_take (i := 10) (v := .bool true) rfl (by kernel_rfl) (by kernel_rfl) (by kernel_rfl) (fun _ _ _ h => h) (Or.inl ⟨by kernel_rfl, ?_⟩) (by assumption) ?_
          · intro w hSw
            (try dsimp only at hSw)
            (try obtain ⟨q1, q2, q3, q4⟩ := hSw)
            go_simp
          change wpAnyH _ _ _ _ _ _ _ (Act.put _ (some 134) _) _
          simp only [Act.put, List.setIfInBounds_toArray, List.set_cons_zero, List.set_cons_succ]
          refine wpAnyH_take (i := 11) (v := .bool true) rfl (by kernel_rfl) (by kernel_rfl) (by kernel_rfl) (fun _ _ _ h => h) (Or.inl ⟨by kernel_rfl, ?_⟩) (by assumption) ?_
          · intro w hSw
            (try dsimp only at hSw)
            (try obtain ⟨q1, q2, q3, q4⟩ := hSw)
            go_simp
          change wpAnyH _ _ _ _ _ _ _ (Act.put _ (some 135) _) _
          simp only [Act.put, List.setIfInBounds_toArray, List.set_cons_zero, List.set_cons_succ]
          refine wpAnyH_take (i := 12) (v := .bool true) rfl (by kernel_rfl) (by kernel_rfl) (by kernel_rfl) (fun _ _ _ h => h) (Or.inl ⟨by kernel_rfl, ?_⟩) (by assumption) ?_
          · intro w hSw
            (try dsimp only at hSw)
            (try obtain ⟨q1, q2, q3, q4⟩ := hSw)
            go_simp
          change wpAnyH _ _ _ _ _ _ _ (Act.put _ (some 136) _) _
          simp only [Act.put, List.setIfInBounds_toArray, List.set_cons_zero, List.set_cons_succ]
          refine wpAnyH_take (i := 13) (v := .agg #[.string sd, .slice aU L cU]) rfl (by kernel_rfl) (by kernel_rfl) (by kernel_rfl) (fun _ _ _ h => h) (Or.inl ⟨by kernel_rfl, ?_⟩) (by assumption) ?_
          · intro w hSw
            (try dsimp only at hSw)
            (try obtain ⟨q1, q2, q3, q4⟩ := hSw)
            go_simp
          change wpAnyH _ _ _ _ _ _ _ (Act.put _ (some 137) _) _
          simp only [Act.put, List.setIfInBounds_toArray, List.set_cons_zero, List.set_cons_succ]
          refine wpAnyH_ready (rs := [14]) (by kernel_rfl) (by simp) ?_
          refine AllReadyH.cons rfl (fun K hK => ?_) AllReadyH.nil
          go_simp
          go_at_call 24
          refine (HOKS.out _ (EB.out.trans (ERA.out.trans eC6.out))).mono ?_
          rintro e wK ⟨rfl, hbK⟩
          have eC14 : Hid (Ext wF wK) := Ext.call eC6.out hbK
          clear hbK
          go_wp2_with fail
          refine hK.out _ _ (HSL.out _ eC14.out) (fun hHeld => ?_)
          clear hK K
          refine wpAnyH_take (i := 15) (v := .bool true) rfl (by kernel_rfl) (by kernel_rfl) (by kernel_rfl) (fun _ _ _ h => h) (Or.inl ⟨by kernel_rfl, ?_⟩) (by assumption) ?_
          · intro w hSw
            (try dsimp only at hSw)
            (try obtain ⟨q1, q2, q3, q4⟩ := hSw)
            go_simp
          change wpAnyH _ _ _ _ _ _ _ (Act.put _ (some 139) _) _
          simp only [Act.put, List.setIfInBounds_toArray, List.set_cons_zero, List.set_cons_succ]
          refine wpAnyH_take (i := 16) (v := .bool true) rfl (by kernel_rfl) (by kernel_rfl) (by kernel_rfl) (fun _ _ _ h => h) (Or.inl ⟨by kernel_rfl, ?_⟩) (by assumption) ?_
          · intro w hSw
            (try dsimp only at hSw)
            (try obtain ⟨q1, q2, q3, q4⟩ := hSw)
            go_simp
          change wpAnyH _ _ _ _ _ _ _ (Act.put _ (some 140) _) _
          simp only [Act.put, List.setIfInBounds_toArray, List.set_cons_zero, List.set_cons_succ]
          refine wpAnyH_take (i := 17) (v := undef) rfl (by kernel_rfl) (by kernel_rfl) (by kernel_rfl) (fun _ _ _ h => h) (Or.inr ⟨by kernel_rfl, rfl⟩) (by assumption) ?_
          change wpAnyH _ _ _ _ _ _ _ (Act.put _ (some 141) _) _
          simp only [Act.put, List.setIfInBounds_toArray, List.set_cons_zero, List.set_cons_succ]
          refine wpAnyH_take (i := 18) (v := undef) rfl (by kernel_rfl) (by kernel_rfl) (by kernel_rfl) (fun _ _ _ h => h) (Or.inr ⟨by kernel_rfl, rfl⟩) (by assumption) ?_
          change wpAnyH _ _ _ _ _ _ _ (Act.put _ (some 142) _) _
          simp only [Act.put, List.setIfInBounds_toArray, List.set_cons_zero, List.set_cons_succ]
          refine wpAnyH_take (i := 19) (v := undef) rfl (by kernel_rfl) (by kernel_rfl) (by kernel_rfl) (fun _ _ _ h => h) (Or.inr ⟨by kernel_rfl, rfl⟩) (by assumption) ?_
          change wpAnyH _ _ _ _ _ _ _ (Act.put _ (some 143) _) _
          simp only [Act.put, List.setIfInBounds_toArray, List.set_cons_zero, List.set_cons_succ]
          refine wpAnyH_take (i := 20) (v := .bool true) rfl (by kernel_rfl) (by kernel_rfl) (by kernel_rfl) (fun _ _ _ h => h) (Or.inl ⟨by kernel_rfl, ?_⟩) (by assumption) ?_
          · intro w hSw
            (try dsimp only at hSw)
            (try obtain ⟨q1, q2, q3, q4⟩ := hSw)
            go_simp
          change wpAnyH _ _ _ _ _ _ _ (Act.put _ (some 144) _) _
          simp only [Act.put, List.setIfInBounds_toArray, List.set_cons_zero, List.set_cons_succ]
          refine wpAnyH_take (i := 21) (v := .bool true) rfl (by kernel_rfl) (by kernel_rfl) (by kernel_rfl) (fun _ _ _ h => h) (Or.inl ⟨by kernel_rfl, ?_⟩) (by assumption) ?_
          · intro w hSw
            (try dsimp only at hSw)
            (try obtain ⟨q1, q2, q3, q4⟩ := hSw)
            go_simp
          change wpAnyH _ _ _ _ _ _ _ (Act.put _ (some 145) _) _
          simp only [Act.put, List.setIfInBounds_toArray, List.set_cons_zero, List.set_cons_succ]
          refine wpAnyH_take (i := 22) (v := undef) rfl (by kernel_rfl) (by kernel_rfl) (by kernel_rfl) (fun _ _ _ h => h) (Or.inr ⟨by kernel_rfl, rfl⟩) (by assumption) ?_
          change wpAnyH _ _ _ _ _ _ _ (Act.put _ (some 146) _) _
          simp only [Act.put, List.setIfInBounds_toArray, List.set_cons_zero, List.set_cons_succ]
          refine wpAnyH_take (i := 23) (v := undef) rfl (by kernel_rfl) (by kernel_rfl) (by kernel_rfl) (fun _ _ _ h => h) (Or.inr ⟨by kernel_rfl, rfl⟩) (by assumption) ?_
          change wpAnyH _ _ _ _ _ _ _ (Act.put _ (some 147) _) _
          simp only [Act.put, List.setIfInBounds_toArray, List.set_cons_zero, List.set_cons_succ]
          refine wpAnyH_take (i := 24) (v := undef) rfl (by kernel_rfl) (by kernel_rfl) (by kernel_rfl) (fun _ _ _ h => h) (Or.inr ⟨by kernel_rfl, rfl⟩) (by assumption) ?_
          change wpAnyH _ _ _ _ _ _ _ (Act.put _ (some 148) _) _
          simp only [Act.put, List.setIfInBounds_toArray, List.set_cons_zero, List.set_cons_succ]
          refine wpAnyH_take (i := 25) (v := .bool true) rfl (by kernel_rfl) (by kernel_rfl) (by kernel_rfl) (fun _ _ _ h => h) (Or.inl ⟨by kernel_rfl, ?_⟩) (by assumption) ?_
          · intro w hSw
            (try dsimp only at hSw)
            (try obtain ⟨q1, q2, q3, q4⟩ := hSw)
            go_simp
          change wpAnyH _ _ _ _ _ _ _ (Act.put _ (some 149) _) _
          simp only [Act.put, List.setIfInBounds_toArray, List.set_cons_zero, List.set_cons_succ]
          refine wpAnyH_take (i := 26) (v := .bool true) rfl (by kernel_rfl) (by kernel_rfl) (by kernel_rfl) (fun _ _ _ h => h) (Or.inl ⟨by kernel_rfl, ?_⟩) (by assumption) ?_
          · intro w hSw
            (try dsimp only at hSw)
            (try obtain ⟨q1, q2, q3, q4⟩ := hSw)
            go_simp
          change wpAnyH _ _ _ _ _ _ _ (Act.put _ (some 150) _) _
          simp only [Act.put, List.setIfInBounds_toArray, List.set_cons_zero, List.set_cons_succ]
          refine wpAnyH_take (i := 27) (v := .bool true) rfl (by kernel_rfl) (by kernel_rfl) (by kernel_rfl) (fun _ _ _ h => h) (Or.inl ⟨by kernel_rfl, ?_⟩) (by assumption) ?_
          · intro w hSw
            (try dsimp only at hSw)
            (try obtain ⟨q1, q2, q3, q4⟩ := hSw)
            go_simp
          change wpAnyH _ _ _ _ _ _ _ (Act.put _ (some 151) _) _
          simp only [Act.put, List.setIfInBounds_toArray, List.set_cons_zero, List.set_cons_succ]
          refine wpAnyH_ready (rs := [28]) (by kernel_rfl) (by simp) ?_
          refine AllReadyH.cons rfl (fun K hK => ?_) AllReadyH.nil
          go_simp
          go_at_call 26
          refine (alive_yes _).mono ?_
          rintro e wZ ⟨rfl, rfl⟩
          have eC28 := eC14
          go_wp2_with fail
          refine hK.out _ _ (HSL.out _ eC28.out) (fun hHeld => ?_)
          clear hK K
          refine wpAnyH_take (i := 29) (v := .bool true) rfl (by kernel_rfl) (by kernel_rfl) (by kernel_rfl) (fun _ _ _ h => h) (Or.inl ⟨by kernel_rfl, ?_⟩) (by assumption) ?_
          · intro w hSw
            (try dsimp only at hSw)
            (try obtain ⟨q1, q2, q3, q4⟩ := hSw)
            go_simp
          change wpAnyH _ _ _ _ _ _ _ (Act.put _ (some 153) _) _
          simp only [Act.put, List.setIfInBounds_toArray, List.set_cons_zero, List.set_cons_succ]
          refine wpAnyH_take (i := 30) (v := .bool true) rfl (by kernel_rfl) (by kernel_rfl) (by kernel_rfl) (fun _ _ _ h => h) (Or.inl ⟨by kernel_rfl, ?_⟩) (by assumption) ?_
          · intro w hSw
            (try dsimp only at hSw)
            (try obtain ⟨q1, q2, q3, q4⟩ := hSw)
            go_simp
          change wpAnyH _ _ _ _ _ _ _ (Act.put _ (some 4) _) _
          simp only [Act.put, List.setIfInBounds_toArray, List.set_cons_zero, List.set_cons_succ]
          refine wpAnyH_done (by kernel_rfl) ?_ _
          go_wp2_with fail
          go_ret
          exact ⟨rfl, Ext.below HB6.out (EB.out.trans (ERA.out.trans eC28.out)) HB6.out.size⟩
        · have hN1 : (0 : Int) < (N : Int) := by omega
          go_upto_region 23 with (go_at_call 24; refine (HOKS.out _ E7.out).mono ?_; rintro e w8 ⟨rfl, hb8⟩; have E8 : Hid (Ext W6 w8) := Ext.call E7.out hb8; have E8x : Ext W7 w8 := hb8; have HOB8 := Lib.hid (E8x.row HOB0.out); clear hb8 E8x)
          obtain ⟨wB, rfl⟩ : ∃ wB : World, wB = w8 := ⟨_, rfl⟩
          have EB := E8
          have HOB := HOB8
          obtain ⟨g0, g1⟩ := HDB.out wB EB.out
          go_upto_region 24 with (go_at_call 36; refine (HRUN.out _ EB.out).mono ?_; rintro e wR ⟨vR, rfl, hpR, hfR, hbR⟩; obtain ⟨aR, cR, hvR⟩ := past_slice hpR HEM.out; subst hvR; have ER : Hid (Ext wB wR) := hbR; have PR := Lib.hid hpR; clear hpR hfR hbR)
          have hE0 := two_cells (heap_alloc_new wR (.cells #[.string xE, .slice aR mE cR] 27))
          have ERA : Hid (Ext wB (wR.alloc (.cells #[.string xE, .slice aR mE cR] 27))) := ER.out.alloc _
          have PRA := Lib.hid (((Ext.refl wR).alloc (.cells #[.string xE, .slice aR mE cR] 27)).past PR.out)
          have ROW := Lib.hid (heap_alloc_new wR (.cells #[.string xE, .slice aR mE cR] 27))
          obtain ⟨wF, hwF⟩ : ∃ wF, wR.alloc (.cells #[.string xE, .slice aR mE cR] 27) = wF := ⟨_, rfl⟩
          obtain ⟨F, hF⟩ : ∃ F, wR.heap.size = F := ⟨_, rfl⟩
          rw [hwF] at ERA PRA ROW hE0 ⊢
          rw [hF] at ROW hE0 ⊢
          clear hwF hF
          have HSL : Hid (∀ X, Ext wF X → X.cell? ⟨D, 0, none⟩ = some (.string sd) ∧ X.cell? ⟨D, 1, none⟩ = some (.slice aU L cU) ∧ (X.cell? ⟨O, 0, none⟩ = some (.string sd) ∧ X.cell? ⟨O, 1, none⟩ = some (.slice aU L cU)) ∧ (X.cell? ⟨F, 0, none⟩ = some (.string xE) ∧ X.cell? ⟨F, 1, none⟩ = some (.slice aR mE cR))) := fun X hX => ⟨(HDB.out X (EB.out.trans (ERA.out.trans hX))).1, (HDB.out X (EB.out.trans (ERA.out.trans hX))).2, two_cells (hX.row (ERA.out.row HOB.out)), two_cells (hX.row ROW.out)⟩
          refine wp_region_held_drew (S := fun w' => w'.cell? ⟨D, 0, none⟩ = some (.string sd) ∧ w'.cell? ⟨D, 1, none⟩ = some (.slice aU L cU) ∧ (w'.cell? ⟨O, 0, none⟩ = some (.string sd) ∧ w'.cell? ⟨O, 1, none⟩ = some (.slice aU L cU)) ∧ (w'.cell? ⟨F, 0, none⟩ = some (.string xE) ∧ w'.cell? ⟨F, 1, none⟩ = some (.slice aR mE cR))) (by kernel_rfl) (HSL.out _ (Ext.refl _).drew) (fun hHeld => ?_)
          refine wpAnyH_take (i := 0) (v := .int .i64 (M : Int)) rfl (by kernel_rfl) (by kernel_rfl) (by kernel_rfl) (fun _ _ _ h => h) (Or.inl ⟨by kernel_rfl, ?_⟩) (by assumption) ?_
          · intro w hSw
            (try dsimp only at hSw)
            (try obtain ⟨q1, q2, q3, q4⟩ := hSw)
            go_simp
          change wpAnyH _ _ _ _ _ _ _ (Act.put _ (some 124) _) _
          simp only [Act.put, List.setIfInBounds_toArray, List.set_cons_zero, List.set_cons_succ]
          refine wpAnyH_take (i := 1) (v := .string s) rfl (by kernel_rfl) (by kernel_rfl) (by kernel_rfl) (fun _ _ _ h => h) (Or.inl ⟨by kernel_rfl, ?_⟩) (by assumption) ?_
          · intro w hSw
            (try dsimp only at hSw)
            (try obtain ⟨q1, q2, q3, q4⟩ := hSw)
            go_simp
          change wpAnyH _ _ _ _ _ _ _ (Act.put _ (some 125) _) _
          simp only [Act.put, List.setIfInBounds_toArray, List.set_cons_zero, List.set_cons_succ]
          refine wpAnyH_take (i := 2) (v := .int .i64 (s.size : Int)) rfl (by kernel_rfl) (by kernel_rfl) (by kernel_rfl) (fun _ _ _ h => h) (Or.inl ⟨by kernel_rfl, ?_⟩) (by assumption) ?_
          · intro w hSw
            (try dsimp only at hSw)
            (try obtain ⟨q1, q2, q3, q4⟩ := hSw)
            go_simp
          change wpAnyH _ _ _ _ _ _ _ (Act.put _ (some 126) _) _
          simp only [Act.put, List.setIfInBounds_toArray, List.set_cons_zero, List.set_cons_succ]
          refine wpAnyH_take (i := 3) (v := .bool true) rfl (by kernel_rfl) (by kernel_rfl) (by kernel_rfl) (fun _ _ _ h => h) (Or.inl ⟨by kernel_rfl, ?_⟩) (by assumption) ?_
          · intro w hSw
            (try dsimp only at hSw)
            (try obtain ⟨q1, q2, q3, q4⟩ := hSw)
            go_simp
          change wpAnyH _ _ _ _ _ _ _ (Act.put _ (some 127) _) _
          simp only [Act.put, List.setIfInBounds_toArray, List.set_cons_zero, List.set_cons_succ]
          refine wpAnyH_take (i := 4) (v := .bool true) rfl (by kernel_rfl) (by kernel_rfl) (by kernel_rfl) (fun _ _ _ h => h) (Or.inl ⟨by kernel_rfl, ?_⟩) (by assumption) ?_
          · intro w hSw
            (try dsimp only at hSw)
            (try obtain ⟨q1, q2, q3, q4⟩ := hSw)
            go_simp
          change wpAnyH _ _ _ _ _ _ _ (Act.put _ (some 128) _) _
          simp only [Act.put, List.setIfInBounds_toArray, List.set_cons_zero, List.set_cons_succ]
          refine wpAnyH_take (i := 5) (v := .slice aL N cL) rfl (by kernel_rfl) (by kernel_rfl) (by kernel_rfl) (fun _ _ _ h => h) (Or.inl ⟨by kernel_rfl, ?_⟩) (by assumption) ?_
          · intro w hSw
            (try dsimp only at hSw)
            (try obtain ⟨q1, q2, q3, q4⟩ := hSw)
            go_simp
          change wpAnyH _ _ _ _ _ _ _ (Act.put _ (some 129) _) _
          simp only [Act.put, List.setIfInBounds_toArray, List.set_cons_zero, List.set_cons_succ]
          refine wpAnyH_take (i := 7) (v := .string s) rfl (by kernel_rfl) (by kernel_rfl) (by kernel_rfl) (fun _ _ _ h => h) (Or.inl ⟨by kernel_rfl, ?_⟩) (by assumption) ?_
          · intro w hSw
            (try dsimp only at hSw)
            (try obtain ⟨q1, q2, q3, q4⟩ := hSw)
            go_simp
          change wpAnyH _ _ _ _ _ _ _ (Act.put _ (some 131) _) _
          simp only [Act.put, List.setIfInBounds_toArray, List.set_cons_zero, List.set_cons_succ]
          refine wpAnyH_take (i := 8) (v := .int .i64 (M : Int)) rfl (by kernel_rfl) (by kernel_rfl) (by kernel_rfl) (fun _ _ _ h => h) (Or.inl ⟨by kernel_rfl, ?_⟩) (by assumption) ?_
          · intro w hSw
            (try dsimp only at hSw)
            (try obtain ⟨q1, q2, q3, q4⟩ := hSw)
            go_simp
          change wpAnyH _ _ _ _ _ _ _ (Act.put _ (some 132) _) _
          simp only [Act.put, List.setIfInBounds_toArray, List.set_cons_zero, List.set_cons_succ]
          refine wpAnyH_take (i := 9) (v := .string (s.extract 0 M)) rfl (by kernel_rfl) (by kernel_rfl) (by kernel_rfl) (fun _ _ _ h => h) (Or.inl ⟨by kernel_rfl, ?_⟩) (by assumption) ?_
          · intro w hSw
            (try dsimp only at hSw)
            (try obtain ⟨q1, q2, q3, q4⟩ := hSw)
            go_simp
          change wpAnyH _ _ _ _ _ _ _ (Act.put _ (some 133) _) _
          simp only [Act.put, List.setIfInBounds_toArray, List.set_cons_zero, List.set_cons_succ]
          refine wpAnyH_ready (rs := [6]) (by kernel_rfl) (by simp) ?_
          refine AllReadyH.cons rfl (fun K hK => ?_) AllReadyH.nil
          go_simp
          go_at_call 37
          refine (HJT.out _ (EB.out.trans (ERA.out.trans (Ext.refl _).drew))).mono ?_
          rintro e wJ ⟨rfl, hbJ⟩
          have eC6 : Hid (Ext wF wJ) := Ext.call (Ext.refl _).drew hbJ
          clear hbJ
          go_wp2_with fail
          refine hK.out _ _ (HSL.out _ eC6.out) (fun hHeld => ?_)
          clear hK K
          refine wpAnyH_take (i := 10) (v := .bool true) rfl (by kernel_rfl) (by kernel_rfl) (by kernel_rfl) (fun _ _ _ h => h) (Or.inl ⟨by kernel_rfl, ?_⟩) (by assumption) ?_
          · intro w hSw
            (try dsimp only at hSw)
            (try obtain ⟨q1, q2, q3, q4⟩ := hSw)
            go_simp
          change wpAnyH _ _ _ _ _ _ _ (Act.put _ (some 134) _) _
          simp only [Act.put, List.setIfInBounds_toArray, List.set_cons_zero, List.set_cons_succ]
          refine wpAnyH_take (i := 11) (v := .bool true) rfl (by kernel_rfl) (by kernel_rfl) (by kernel_rfl) (fun _ _ _ h => h) (Or.inl ⟨by kernel_rfl, ?_⟩) (by assumption) ?_
          · intro w hSw
            (try dsimp only at hSw)
            (try obtain ⟨q1, q2, q3, q4⟩ := hSw)
            go_simp
          change wpAnyH _ _ _ _ _ _ _ (Act.put _ (some 135) _) _
          simp only [Act.put, List.setIfInBounds_toArray, List.set_cons_zero, List.set_cons_succ]
          refine wpAnyH_take (i := 12) (v := .bool true) rfl (by kernel_rfl) (by kernel_rfl) (by kernel_rfl) (fun _ _ _ h => h) (Or.inl ⟨by kernel_rfl, ?_⟩) (by assumption) ?_
          · intro w hSw
            (try dsimp only at hSw)
            (try obtain ⟨q1, q2, q3, q4⟩ := hSw)
            go_simp
          change wpAnyH _ _ _ _ _ _ _ (Act.put _ (some 136) _) _
          simp only [Act.put, List.setIfInBounds_toArray, List.set_cons_zero, List.set_cons_succ]
          refine wpAnyH_take (i := 13) (v := .agg #[.string sd, .slice aU L cU]) rfl (by kernel_rfl) (by kernel_rfl) (by kernel_rfl) (fun _ _ _ h => h) (Or.inl ⟨by kernel_rfl, ?_⟩) (by assumption) ?_
          · intro w hSw
            (try dsimp only at hSw)
            (try obtain ⟨q1, q2, q3, q4⟩ := hSw)
            go_simp
          change wpAnyH _ _ _ _ _ _ _ (Act.put _ (some 137) _) _
          simp only [Act.put, List.setIfInBounds_toArray, List.set_cons_zero, List.set_cons_succ]
          refine wpAnyH_ready (rs := [14]) (by kernel_rfl) (by simp) ?_
          refine AllReadyH.cons rfl (fun K hK => ?_) AllReadyH.nil
          go_simp
          go_at_call 24
          refine (HOKS.out _ (EB.out.trans (ERA.out.trans eC6.out))).mono ?_
          rintro e wK ⟨rfl, hbK⟩
          have eC14 : Hid (Ext wF wK) := Ext.call eC6.out hbK
          clear hbK
          go_wp2_with fail
          refine hK.out _ _ (HSL.out _ eC14.out) (fun hHeld => ?_)
          clear hK K
          refine wpAnyH_take (i := 15) (v := .bool true) rfl (by kernel_rfl) (by kernel_rfl) (by kernel_rfl) (fun _ _ _ h => h) (Or.inl ⟨by kernel_rfl, ?_⟩) (by assumption) ?_
          · intro w hSw
            (try dsimp only at hSw)
            (try obtain ⟨q1, q2, q3, q4⟩ := hSw)
            go_simp
          change wpAnyH _ _ _ _ _ _ _ (Act.put _ (some 139) _) _
          simp only [Act.put, List.setIfInBounds_toArray, List.set_cons_zero, List.set_cons_succ]
          refine wpAnyH_take (i := 16) (v := .bool true) rfl (by kernel_rfl) (by kernel_rfl) (by kernel_rfl) (fun _ _ _ h => h) (Or.inl ⟨by kernel_rfl, ?_⟩) (by assumption) ?_
          · intro w hSw
            (try dsimp only at hSw)
            (try obtain ⟨q1, q2, q3, q4⟩ := hSw)
            go_simp
          change wpAnyH _ _ _ _ _ _ _ (Act.put _ (some 140) _) _
          simp only [Act.put, List.setIfInBounds_toArray, List.set_cons_zero, List.set_cons_succ]
          refine wpAnyH_take (i := 17) (v := undef) rfl (by kernel_rfl) (by kernel_rfl) (by kernel_rfl) (fun _ _ _ h => h) (Or.inr ⟨by kernel_rfl, rfl⟩) (by assumption) ?_
          change wpAnyH _ _ _ _ _ _ _ (Act.put _ (some 141) _) _
          simp only [Act.put, List.setIfInBounds_toArray, List.set_cons_zero, List.set_cons_succ]
          refine wpAnyH_take (i := 18) (v := undef) rfl (by kernel_rfl) (by kernel_rfl) (by kernel_rfl) (fun _ _ _ h => h) (Or.inr ⟨by kernel_rfl, rfl⟩) (by assumption) ?_
          change wpAnyH _ _ _ _ _ _ _ (Act.put _ (some 142) _) _
          simp only [Act.put, List.setIfInBounds_toArray, List.set_cons_zero, List.set_cons_succ]
          refine wpAnyH_take (i := 19) (v := undef) rfl (by kernel_rfl) (by kernel_rfl) (by kernel_rfl) (fun _ _ _ h => h) (Or.inr ⟨by kernel_rfl, rfl⟩) (by assumption) ?_
          change wpAnyH _ _ _ _ _ _ _ (Act.put _ (some 143) _) _
          simp only [Act.put, List.setIfInBounds_toArray, List.set_cons_zero, List.set_cons_succ]
          refine wpAnyH_take (i := 20) (v := .bool true) rfl (by kernel_rfl) (by kernel_rfl) (by kernel_rfl) (fun _ _ _ h => h) (Or.inl ⟨by kernel_rfl, ?_⟩) (by assumption) ?_
          · intro w hSw
            (try dsimp only at hSw)
            (try obtain ⟨q1, q2, q3, q4⟩ := hSw)
            go_simp
          change wpAnyH _ _ _ _ _ _ _ (Act.put _ (some 144) _) _
          simp only [Act.put, List.setIfInBounds_toArray, List.set_cons_zero, List.set_cons_succ]
          refine wpAnyH_take (i := 21) (v := .bool true) rfl (by kernel_rfl) (by kernel_rfl) (by kernel_rfl) (fun _ _ _ h => h) (Or.inl ⟨by kernel_rfl, ?_⟩) (by assumption) ?_
          · intro w hSw
            (try dsimp only at hSw)
            (try obtain ⟨q1, q2, q3, q4⟩ := hSw)
            go_simp
          change wpAnyH _ _ _ _ _ _ _ (Act.put _ (some 145) _) _
          simp only [Act.put, List.setIfInBounds_toArray, List.set_cons_zero, List.set_cons_succ]
          refine wpAnyH_take (i := 22) (v := undef) rfl (by kernel_rfl) (by kernel_rfl) (by kernel_rfl) (fun _ _ _ h => h) (Or.inr ⟨by kernel_rfl, rfl⟩) (by assumption) ?_
          change wpAnyH _ _ _ _ _ _ _ (Act.put _ (some 146) _) _
          simp only [Act.put, List.setIfInBounds_toArray, List.set_cons_zero, List.set_cons_succ]
          refine wpAnyH_take (i := 23) (v := undef) rfl (by kernel_rfl) (by kernel_rfl) (by kernel_rfl) (fun _ _ _ h => h) (Or.inr ⟨by kernel_rfl, rfl⟩) (by assumption) ?_
          change wpAnyH _ _ _ _ _ _ _ (Act.put _ (some 147) _) _
          simp only [Act.put, List.setIfInBounds_toArray, List.set_cons_zero, List.set_cons_succ]
          refine wpAnyH_take (i := 24) (v := undef) rfl (by kernel_rfl) (by kernel_rfl) (by kernel_rfl) (fun _ _ _ h => h) (Or.inr ⟨by kernel_rfl, rfl⟩) (by assumption) ?_
          change wpAnyH _ _ _ _ _ _ _ (Act.put _ (some 148) _) _
          simp only [Act.put, List.setIfInBounds_toArray, List.set_cons_zero, List.set_cons_succ]
          refine wpAnyH_take (i := 25) (v := .bool true) rfl (by kernel_rfl) (by kernel_rfl) (by kernel_rfl) (fun _ _ _ h => h) (Or.inl ⟨by kernel_rfl, ?_⟩) (by assumption) ?_
          · intro w hSw
            (try dsimp only at hSw)
            (try obtain ⟨q1, q2, q3, q4⟩ := hSw)
            go_simp
          change wpAnyH _ _ _ _ _ _ _ (Act.put _ (some 149) _) _
          simp only [Act.put, List.setIfInBounds_toArray, List.set_cons_zero, List.set_cons_succ]
          refine wpAnyH_take (i := 26) (v := .bool true) rfl (by kernel_rfl) (by kernel_rfl) (by kernel_rfl) (fun _ _ _ h => h) (Or.inl ⟨by kernel_rfl, ?_⟩) (by assumption) ?_
          · intro w hSw
            (try dsimp only at hSw)
            (try obtain ⟨q1, q2, q3, q4⟩ := hSw)
            go_simp
          change wpAnyH _ _ _ _ _ _ _ (Act.put _ (some 150) _) _
          simp only [Act.put, List.setIfInBounds_toArray, List.set_cons_zero, List.set_cons_succ]
          refine wpAnyH_take (i := 27) (v := .bool true) rfl (by kernel_rfl) (by kernel_rfl) (by kernel_rfl) (fun _ _ _ h => h) (Or.inl ⟨by kernel_rfl, ?_⟩) (by assumption) ?_
          · intro w hSw
            (try dsimp only at hSw)
            (try obtain ⟨q1, q2, q3, q4⟩ := hSw)
            go_simp
          change wpAnyH _ _ _ _ _ _ _ (Act.put _ (some 151) _) _
          simp only [Act.put, List.setIfInBounds_toArray, List.set_cons_zero, List.set_cons_succ]
          refine wpAnyH_ready (rs := [28]) (by kernel_rfl) (by simp) ?_
          refine AllReadyH.cons rfl (fun K hK => ?_) AllReadyH.nil
          go_simp
          go_at_call 26
          refine (alive_yes _).mono ?_
          rintro e wZ ⟨rfl, rfl⟩
          have eC28 := eC14
          go_wp2_with fail
          refine hK.out _ _ (HSL.out _ eC28.out) (fun hHeld => ?_)
          clear hK K
          refine wpAnyH_take (i := 29) (v := .bool true) rfl (by kernel_rfl) (by kernel_rfl) (by kernel_rfl) (fun _ _ _ h => h) (Or.inl ⟨by kernel_rfl, ?_⟩) (by assumption) ?_
          · intro w hSw
            (try dsimp only at hSw)
            (try obtain ⟨q1, q2, q3, q4⟩ := hSw)
            go_simp
          change wpAnyH _ _ _ _ _ _ _ (Act.put _ (some 153) _) _
          simp only [Act.put, List.setIfInBounds_toArray, List.set_cons_zero, List.set_cons_succ]
          refine wpAnyH_take (i := 30) (v := .bool true) rfl (by kernel_rfl) (by kernel_rfl) (by kernel_rfl) (fun _ _ _ h => h) (Or.inl ⟨by kernel_rfl, ?_⟩) (by assumption) ?_
          · intro w hSw
            (try dsimp only at hSw)
            (try obtain ⟨q1, q2, q3, q4⟩ := hSw)
            go_simp
          change wpAnyH _ _ _ _ _ _ _ (Act.put _ (some 4) _) _
          simp only [Act.put, List.setIfInBounds_toArray, List.set_cons_zero, List.set_cons_succ]
          refine wpAnyH_done (by kernel_rfl) ?_ _
          go_wp2_with fail
          go_ret
          exact ⟨rfl, Ext.below HB6.out (EB.out.trans (ERA.out.trans eC28.out)) HB6.out.size⟩
      · go_wp2_with fail
        go_loopw [16] (fun i wr => ∃ (k : Nat) (x : ByteArray) (vx : Value) (ys : List ByteArray), i = .int .i64 k ∧ k ≤ N ∧ Hid ((runTo sd zs (ds.take k)).1 = (x, ys)) ∧ Hid (BoxB 0 wr.heap.size wr O x vx ys) ∧ Hid (deskOk x ys = true) ∧ Hid (Ext W6 wr) ∧ O < wr.heap.size) (fun i _ => N - (intOf i).toNat)
        case atStart => exact ⟨0, sd, _, zs, rfl, Nat.zero_le _, rfl, HBO.out, HT.out, E7.out, hs7⟩
        case round =>
          obtain ⟨k, x, vx, ys, rfl, hk, HRT, HB, HOK, eR, hlr⟩ := hrel
          obtain ⟨ax, cx, hvx⟩ := past_value HB.out.past
          subst hvx
          obtain ⟨n0, n1⟩ := HDB.out wr eR.out
          by_cases hlt : k < N
          · go_upto_region 19 with (go_at_call 24; refine (HOKS.out _ eR.out).mono ?_; rintro e wA ⟨rfl, hbA⟩; have eA : Ext wr wA := hbA; clear hbA)
            have HBA := Lib.hid (boxB_size (HB.out.ext eA))
            have EA := Lib.hid (eR.out.trans eA)
            have hsA := eA.size
            obtain ⟨d, hd⟩ : ∃ d, ds[k]? = some d := ⟨ds[k]'(by rw [HN.out]; exact hlt), List.getElem?_eq_getElem (by rw [HN.out]; exact hlt)⟩
            have HRA := Lib.hid (R6.out.ext EA.out)
            obtain ⟨b0, cb0, hbv, hcb0, hcc⟩ := deeds_parts HRA.out.deeds
            rw [HN.out] at hbv
            simp only [Value.slice.injEq] at hbv
            obtain ⟨rfl, _, rfl⟩ := hbv
            obtain ⟨b', rfl, hc0, hc1⟩ := hcc k d hd
            have hk3 : (0 : Int) ≤ (k : Int) := by omega
            have hk4 : (k : Int) < (N : Int) := by omega
            obtain ⟨T, hT⟩ : ∃ T, Tw.str (deedText d.1 d.2) = T := ⟨_, rfl⟩
            have hTs : T.size ≤ 1048576 := by
              rw [← hT, Tw.str_size]
              have := dt_few d
              unfold dt at this
              omega
            have HTX : Hid (∀ X, Ext wA X → Calls Tryz.prog 35 #[.agg #[.int .i64 d.1, .int .i64 d.2]] X fun e w' => e = .returned (.string T) ∧ Below X.heap.size X w') := fun X hX => hT ▸ implDeedText d.1 d.2 X (HWO.out.below' (HB6.out.trans (Below.mono (EA.out.trans hX) HB6.out.size)))
            have hrd : readOf T.data.toList = ((d.1, d.2), true) := by
              rw [← hT, Tw.str_data]
              exact (good_at HGOOD.out (List.mem_of_getElem? hd)).2
            obtain ⟨x1, h1⟩ : ∃ x1, (deskDone x ys d.1 d.2).1 = x1 := ⟨_, rfl⟩
            obtain ⟨y1, h2⟩ : ∃ x1, (deskDone x ys d.1 d.2).2.1 = x1 := ⟨_, rfl⟩
            obtain ⟨t1, h3⟩ : ∃ x1, (deskDone x ys d.1 d.2).2.2 = x1 := ⟨_, rfl⟩
            have hdn : deskDone x ys d.1 d.2 = (x1, y1, t1) := by rw [← h1, ← h2, ← h3]
            have HLN : Hid (∀ X, Ext wA X → Calls Tryz.prog 21 #[.agg #[.string x, .slice ax ys.length cx], .string T] X (LineOut X x1 y1 (okWord t1))) := fun X hX => implLine_deed x ax cx _ ys T d.1 d.2 X (hX.past HBA.out.past) HOK hTs (Lib.hid hrd) x1 y1 t1 (Lib.hid hdn) (HWW.out.below' (HB6.out.trans (Below.mono (EA.out.trans hX) HB6.out.size))) (HDD.out.below' (HB6.out.trans (Below.mono (EA.out.trans hX) HB6.out.size))) (HWO.out.below' (HB6.out.trans (Below.mono (EA.out.trans hX) HB6.out.size))) (HXX.out.below' (HB6.out.trans (Below.mono (EA.out.trans hX) HB6.out.size)))
            have HNX := Lib.hid (run_next hd HRT.out HOK.out hdn)
            have HOK1 : Hid (deskOk x1 y1 = true) := by
              have h9 := deskOk_done HOK.out d.1 d.2
              rw [hdn] at h9
              exact h9
            have HS : Hid (∀ X, Ext wA X → X.cell? ⟨O, 0, none⟩ = some (.string x) ∧ X.cell? ⟨O, 1, none⟩ = some (.slice ax ys.length cx) ∧ X.cell? (b'.add (k * 2)) = some (.int .i64 d.1) ∧ X.cell? ⟨(b'.add (k * 2)).block, (b'.add (k * 2)).off + 1, none⟩ = some (.int .i64 d.2)) := fun X hX => ⟨(HBA.out.ext hX).cells.1, (HBA.out.ext hX).cells.2, cell_keep hX hc0, cell_keep hX hc1⟩
            obtain ⟨o0, o1, _, _⟩ := HS.out wA (Ext.refl _)
            clear hT hd hcc h1 h2 h3 hdn hrd hcb0
            go_cut [17, 18] (fun P Q wx => ∃ N9 a9 c9, P = .pointer (some ⟨N9, 0, none⟩) ∧ Q = .string (okWord t1) ∧ Hid (BoxB wA.heap.size wx.heap.size wx N9 x1 (.slice a9 y1.length c9) y1) ∧ Ext wA wx)
            case first =>
              go_region_held3 (fun w' => w'.cell? ⟨O, 0, none⟩ = some (.string x) ∧ w'.cell? ⟨O, 1, none⟩ = some (.slice ax ys.length cx) ∧ w'.cell? (b'.add (k * 2)) = some (.int .i64 d.1) ∧ w'.cell? ⟨(b'.add (k * 2)).block, (b'.add (k * 2)).off + 1, none⟩ = some (.int .i64 d.2))
                (exact HS.out _ (by (first | assumption | exact Ext.refl _ | exact (Ext.refl _).drew | (refine Ext.alloc ?_ _; first | assumption | exact Ext.refl _ | exact (Ext.refl _).drew) | (refine Ext.drew ?_; first | assumption | exact Ext.refl _ | exact (Ext.refl _).drew) | (refine Ext.drew ?_; refine Ext.alloc ?_ _; first | assumption | exact Ext.refl _ | exact (Ext.refl _).drew) | (refine Ext.setCell (Ext.setCell ?_ ?_ _) ?_ _ <;> first | assumption | omega | (simp <;> omega)))))
                (first
                  | (go_at_call 35; refine (HTX.out _ (by (first | assumption | exact Ext.refl _ | exact (Ext.refl _).drew | (refine Ext.alloc ?_ _; first | assumption | exact Ext.refl _ | exact (Ext.refl _).drew) | (refine Ext.drew ?_; first | assumption | exact Ext.refl _ | exact (Ext.refl _).drew) | (refine Ext.drew ?_; refine Ext.alloc ?_ _; first | assumption | exact Ext.refl _ | exact (Ext.refl _).drew) | (refine Ext.setCell (Ext.setCell ?_ ?_ _) ?_ _ <;> first | assumption | omega | (simp <;> omega))))).mono ?_; rintro e wT ⟨rfl, hbT⟩; have eT : Ext wA wT := Ext.call (by (first | assumption | exact Ext.refl _ | exact (Ext.refl _).drew | (refine Ext.alloc ?_ _; first | assumption | exact Ext.refl _ | exact (Ext.refl _).drew) | (refine Ext.drew ?_; first | assumption | exact Ext.refl _ | exact (Ext.refl _).drew) | (refine Ext.drew ?_; refine Ext.alloc ?_ _; first | assumption | exact Ext.refl _ | exact (Ext.refl _).drew) | (refine Ext.setCell (Ext.setCell ?_ ?_ _) ?_ _ <;> first | assumption | omega | (simp <;> omega)))) hbT; have sT := Ext.size eT; (first | (have hN := box_keep hbT) | (have hN := box_keep_drew hbT) | skip); clear hbT)
                  | (go_at_call 21; refine (HLN.out _ (by (first | assumption | exact Ext.refl _ | exact (Ext.refl _).drew | (refine Ext.alloc ?_ _; first | assumption | exact Ext.refl _ | exact (Ext.refl _).drew) | (refine Ext.drew ?_; first | assumption | exact Ext.refl _ | exact (Ext.refl _).drew) | (refine Ext.drew ?_; refine Ext.alloc ?_ _; first | assumption | exact Ext.refl _ | exact (Ext.refl _).drew) | (refine Ext.setCell (Ext.setCell ?_ ?_ _) ?_ _ <;> first | assumption | omega | (simp <;> omega))))).mono ?_; rintro e wC ⟨vC, rfl, hpC, hfC, hbC⟩; obtain ⟨aC, cC, hvC⟩ := past_value hpC; subst hvC; have gC := fresh_ext (show Ext wA _ by (first | assumption | exact Ext.refl _ | exact (Ext.refl _).drew | (refine Ext.alloc ?_ _; first | assumption | exact Ext.refl _ | exact (Ext.refl _).drew) | (refine Ext.drew ?_; first | assumption | exact Ext.refl _ | exact (Ext.refl _).drew) | (refine Ext.drew ?_; refine Ext.alloc ?_ _; first | assumption | exact Ext.refl _ | exact (Ext.refl _).drew) | (refine Ext.setCell (Ext.setCell ?_ ?_ _) ?_ _ <;> first | assumption | omega | (simp <;> omega)))) hfC; have eC : Ext wA wC := Ext.call (by (first | assumption | exact Ext.refl _ | exact (Ext.refl _).drew | (refine Ext.alloc ?_ _; first | assumption | exact Ext.refl _ | exact (Ext.refl _).drew) | (refine Ext.drew ?_; first | assumption | exact Ext.refl _ | exact (Ext.refl _).drew) | (refine Ext.drew ?_; refine Ext.alloc ?_ _; first | assumption | exact Ext.refl _ | exact (Ext.refl _).drew) | (refine Ext.setCell (Ext.setCell ?_ ?_ _) ?_ _ <;> first | assumption | omega | (simp <;> omega)))) hbC; (first | (have hN := box_keep hbC; have nN := box_ne hfC) | (have hN := box_keep_drew hbC; have nN := box_ne_drew hfC) | (have nN := fresh_ne hfC hN; have hN := Ext.row hbC hN) | skip); have PC := Lib.hid hpC; have FC := Lib.hid gC; have sC := Ext.size eC; (first | (have zN := frozen_of_row _ _ 0 _ _ hN; have zN1 := frozen_of_row _ _ 1 _ _ hN; have yN := cell_of_row _ _ 0 _ _ _ hN; have yN1 := cell_of_row _ _ 1 _ _ _ hN; have HNN := Lib.hid hN; clear hN) | skip); clear hpC hfC hbC gC))
              all_goals
                go_wp2_with fail
                go_meet
                first
                  | exact ⟨_, _, _, rfl, rfl, box_new PC.out FC.out sC, by (first | assumption | exact Ext.refl _ | exact (Ext.refl _).drew | (refine Ext.alloc ?_ _; first | assumption | exact Ext.refl _ | exact (Ext.refl _).drew) | (refine Ext.drew ?_; first | assumption | exact Ext.refl _ | exact (Ext.refl _).drew) | (refine Ext.drew ?_; refine Ext.alloc ?_ _; first | assumption | exact Ext.refl _ | exact (Ext.refl _).drew) | (refine Ext.setCell (Ext.setCell ?_ ?_ _) ?_ _ <;> first | assumption | omega | (simp <;> omega)))⟩
                  | exact ⟨_, _, _, rfl, rfl, box_set HNN.out PC.out FC.out nN (by first | omega | (simp <;> omega)), by (first | assumption | exact Ext.refl _ | exact (Ext.refl _).drew | (refine Ext.alloc ?_ _; first | assumption | exact Ext.refl _ | exact (Ext.refl _).drew) | (refine Ext.drew ?_; first | assumption | exact Ext.refl _ | exact (Ext.refl _).drew) | (refine Ext.drew ?_; refine Ext.alloc ?_ _; first | assumption | exact Ext.refl _ | exact (Ext.refl _).drew) | (refine Ext.setCell (Ext.setCell ?_ ?_ _) ?_ _ <;> first | assumption | omega | (simp <;> omega)))⟩
            case rest =>
              obtain ⟨wX, rfl⟩ : ∃ wX : World, wX = wc := ⟨_, rfl⟩
              obtain ⟨N9, a9, c9, rfl, rfl, HA9, e9⟩ := hcut
              have HBX := Lib.hid (HBA.out.ext e9)
              obtain ⟨p0, p1⟩ := HA9.out.cells
              obtain ⟨p2, p3⟩ := HBX.out.cells
              have pf0 := frozen_of_row _ _ 0 _ _ HBX.out.row
              have pf1 := frozen_of_row _ _ 1 _ _ HBX.out.row
              have hsX := e9.size
              have hneO : (Value.slice a9 y1.length c9).ownBlock ≠ some O := fun h9 => by
                have h8 := HA9.out.fresh _ h9
                omega
              cases t1
              all_goals
                unfold okWord
                go_wp2_with fail
                go_roundw
                case rel => exact ⟨k + 1, x1, _, y1, by go_num, by omega, HNX.out, box_set HBX.out.row HA9.out.past (fun _ _ => Nat.zero_le _) hneO (Nat.zero_le _), HOK1.out, (EA.out.trans e9).setCell2 hO6 _ _, by simp [World.setCell]; omega⟩
                case measure => simp [intOf]; omega
          · obtain rfl : k = N := by omega
            have hall := HRT.out
            rw [List.take_of_length_le (by rw [HN.out]; exact Nat.le_refl _)] at hall
            have HALL := Lib.hid hall
            clear hall
            have EB := eR
            obtain ⟨wB, rfl⟩ : ∃ wB : World, wB = wr := ⟨_, rfl⟩
            have HOB := Lib.hid HB.out.row
            have HPB := Lib.hid HB.out.past
            rcases Nat.lt_or_ge 40 k with h40 | h40
            · have hN40 : (40 : Int) < (k : Int) := by omega
              go_upto_region 24 with (go_at_call 36; refine (HRUN.out _ EB.out).mono ?_; rintro e wR ⟨vR, rfl, hpR, hfR, hbR⟩; obtain ⟨aR, cR, hvR⟩ := past_slice hpR HEM.out; subst hvR; have ER : Hid (Ext wB wR) := hbR; have PR := Lib.hid hpR; clear hpR hfR hbR)
              have hE0 := two_cells (heap_alloc_new wR (.cells #[.string xE, .slice aR mE cR] 27))
              have ERA : Hid (Ext wB (wR.alloc (.cells #[.string xE, .slice aR mE cR] 27))) := ER.out.alloc _
              have PRA := Lib.hid (((Ext.refl wR).alloc (.cells #[.string xE, .slice aR mE cR] 27)).past PR.out)
              have ROW := Lib.hid (heap_alloc_new wR (.cells #[.string xE, .slice aR mE cR] 27))
              obtain ⟨wF, hwF⟩ : ∃ wF, wR.alloc (.cells #[.string xE, .slice aR mE cR] 27) = wF := ⟨_, rfl⟩
              obtain ⟨F, hF⟩ : ∃ F, wR.heap.size = F := ⟨_, rfl⟩
              rw [hwF] at ERA PRA ROW hE0 ⊢
              rw [hF] at ROW hE0 ⊢
              clear hwF hF
              have HSL : Hid (∀ X, Ext wF X → X.cell? ⟨D, 0, none⟩ = some (.string sd) ∧ X.cell? ⟨D, 1, none⟩ = some (.slice aU L cU) ∧ (X.cell? ⟨O, 0, none⟩ = some (.string x) ∧ X.cell? ⟨O, 1, none⟩ = some (.slice ax ys.length cx)) ∧ (X.cell? ⟨F, 0, none⟩ = some (.string xE) ∧ X.cell? ⟨F, 1, none⟩ = some (.slice aR mE cR))) := fun X hX => ⟨(HDB.out X (EB.out.trans (ERA.out.trans hX))).1, (HDB.out X (EB.out.trans (ERA.out.trans hX))).2, two_cells (hX.row (ERA.out.row HOB.out)), two_cells (hX.row ROW.out)⟩
              refine wp_region_held_drew (S := fun w' => w'.cell? ⟨D, 0, none⟩ = some (.string sd) ∧ w'.cell? ⟨D, 1, none⟩ = some (.slice aU L cU) ∧ (w'.cell? ⟨O, 0, none⟩ = some (.string x) ∧ w'.cell? ⟨O, 1, none⟩ = some (.slice ax ys.length cx)) ∧ (w'.cell? ⟨F, 0, none⟩ = some (.string xE) ∧ w'.cell? ⟨F, 1, none⟩ = some (.slice aR mE cR))) (by kernel_rfl) (HSL.out _ (Ext.refl _).drew) (fun hHeld => ?_)
              refine wpAnyH_take (i := 0) (v := .int .i64 (M : Int)) rfl (by kernel_rfl) (by kernel_rfl) (by kernel_rfl) (fun _ _ _ h => h) (Or.inl ⟨by kernel_rfl, ?_⟩) (by assumption) ?_
              · intro w hSw
                (try dsimp only at hSw)
                (try obtain ⟨q1, q2, q3, q4⟩ := hSw)
                go_simp
              change wpAnyH _ _ _ _ _ _ _ (Act.put _ (some 124) _) _
              simp only [Act.put, List.setIfInBounds_toArray, List.set_cons_zero, List.set_cons_succ]
              refine wpAnyH_take (i := 1) (v := .string s) rfl (by kernel_rfl) (by kernel_rfl) (by kernel_rfl) (fun _ _ _ h => h) (Or.inl ⟨by kernel_rfl, ?_⟩) (by assumption) ?_
              · intro w hSw
                (try dsimp only at hSw)
                (try obtain ⟨q1, q2, q3, q4⟩ := hSw)
                go_simp
              change wpAnyH _ _ _ _ _ _ _ (Act.put _ (some 125) _) _
              simp only [Act.put, List.setIfInBounds_toArray, List.set_cons_zero, List.set_cons_succ]
              refine wpAnyH_take (i := 2) (v := .int .i64 (s.size : Int)) rfl (by kernel_rfl) (by kernel_rfl) (by kernel_rfl) (fun _ _ _ h => h) (Or.inl ⟨by kernel_rfl, ?_⟩) (by assumption) ?_
              · intro w hSw
                (try dsimp only at hSw)
                (try obtain ⟨q1, q2, q3, q4⟩ := hSw)
                go_simp
              change wpAnyH _ _ _ _ _ _ _ (Act.put _ (some 126) _) _
              simp only [Act.put, List.setIfInBounds_toArray, List.set_cons_zero, List.set_cons_succ]
              refine wpAnyH_take (i := 3) (v := .bool true) rfl (by kernel_rfl) (by kernel_rfl) (by kernel_rfl) (fun _ _ _ h => h) (Or.inl ⟨by kernel_rfl, ?_⟩) (by assumption) ?_
              · intro w hSw
                (try dsimp only at hSw)
                (try obtain ⟨q1, q2, q3, q4⟩ := hSw)
                go_simp
              change wpAnyH _ _ _ _ _ _ _ (Act.put _ (some 127) _) _
              simp only [Act.put, List.setIfInBounds_toArray, List.set_cons_zero, List.set_cons_succ]
              refine wpAnyH_take (i := 4) (v := .bool true) rfl (by kernel_rfl) (by kernel_rfl) (by kernel_rfl) (fun _ _ _ h => h) (Or.inl ⟨by kernel_rfl, ?_⟩) (by assumption) ?_
              · intro w hSw
                (try dsimp only at hSw)
                (try obtain ⟨q1, q2, q3, q4⟩ := hSw)
                go_simp
              change wpAnyH _ _ _ _ _ _ _ (Act.put _ (some 128) _) _
              simp only [Act.put, List.setIfInBounds_toArray, List.set_cons_zero, List.set_cons_succ]
              refine wpAnyH_take (i := 5) (v := .slice aL k cL) rfl (by kernel_rfl) (by kernel_rfl) (by kernel_rfl) (fun _ _ _ h => h) (Or.inl ⟨by kernel_rfl, ?_⟩) (by assumption) ?_
              · intro w hSw
                (try dsimp only at hSw)
                (try obtain ⟨q1, q2, q3, q4⟩ := hSw)
                go_simp
              change wpAnyH _ _ _ _ _ _ _ (Act.put _ (some 129) _) _
              simp only [Act.put, List.setIfInBounds_toArray, List.set_cons_zero, List.set_cons_succ]
              refine wpAnyH_take (i := 7) (v := .string s) rfl (by kernel_rfl) (by kernel_rfl) (by kernel_rfl) (fun _ _ _ h => h) (Or.inl ⟨by kernel_rfl, ?_⟩) (by assumption) ?_
              · intro w hSw
                (try dsimp only at hSw)
                (try obtain ⟨q1, q2, q3, q4⟩ := hSw)
                go_simp
              change wpAnyH _ _ _ _ _ _ _ (Act.put _ (some 131) _) _
              simp only [Act.put, List.setIfInBounds_toArray, List.set_cons_zero, List.set_cons_succ]
              refine wpAnyH_take (i := 8) (v := .int .i64 (M : Int)) rfl (by kernel_rfl) (by kernel_rfl) (by kernel_rfl) (fun _ _ _ h => h) (Or.inl ⟨by kernel_rfl, ?_⟩) (by assumption) ?_
              · intro w hSw
                (try dsimp only at hSw)
                (try obtain ⟨q1, q2, q3, q4⟩ := hSw)
                go_simp
              change wpAnyH _ _ _ _ _ _ _ (Act.put _ (some 132) _) _
              simp only [Act.put, List.setIfInBounds_toArray, List.set_cons_zero, List.set_cons_succ]
              refine wpAnyH_take (i := 9) (v := .string (s.extract 0 M)) rfl (by kernel_rfl) (by kernel_rfl) (by kernel_rfl) (fun _ _ _ h => h) (Or.inl ⟨by kernel_rfl, ?_⟩) (by assumption) ?_
              · intro w hSw
                (try dsimp only at hSw)
                (try obtain ⟨q1, q2, q3, q4⟩ := hSw)
                go_simp
              change wpAnyH _ _ _ _ _ _ _ (Act.put _ (some 133) _) _
              simp only [Act.put, List.setIfInBounds_toArray, List.set_cons_zero, List.set_cons_succ]
              refine wpAnyH_ready (rs := [6]) (by kernel_rfl) (by simp) ?_
              refine AllReadyH.cons rfl (fun K hK => ?_) AllReadyH.nil
              go_simp
              go_at_call 37
              refine (HJT.out _ (EB.out.trans (ERA.out.trans (Ext.refl _).drew))).mono ?_
              rintro e wJ ⟨rfl, hbJ⟩
              have eC6 : Hid (Ext wF wJ) := Ext.call (Ext.refl _).drew hbJ
              clear hbJ
              go_wp2_with fail
              refine hK.out _ _ (HSL.out _ eC6.out) (fun hHeld => ?_)
              clear hK K
              refine wpAnyH_take (i := 10) (v := .bool true) rfl (by kernel_rfl) (by kernel_rfl) (by kernel_rfl) (fun _ _ _ h => h) (Or.inl ⟨by kernel_rfl, ?_⟩) (by assumption) ?_
              · intro w hSw
                (try dsimp only at hSw)
                (try obtain ⟨q1, q2, q3, q4⟩ := hSw)
                go_simp
              change wpAnyH _ _ _ _ _ _ _ (Act.put _ (some 134) _) _
              simp only [Act.put, List.setIfInBounds_toArray, List.set_cons_zero, List.set_cons_succ]
              refine wpAnyH_take (i := 11) (v := .bool true) rfl (by kernel_rfl) (by kernel_rfl) (by kernel_rfl) (fun _ _ _ h => h) (Or.inl ⟨by kernel_rfl, ?_⟩) (by assumption) ?_
              · intro w hSw
                (try dsimp only at hSw)
                (try obtain ⟨q1, q2, q3, q4⟩ := hSw)
                go_simp
              change wpAnyH _ _ _ _ _ _ _ (Act.put _ (some 135) _) _
              simp only [Act.put, List.setIfInBounds_toArray, List.set_cons_zero, List.set_cons_succ]
              refine wpAnyH_take (i := 12) (v := .bool true) rfl (by kernel_rfl) (by kernel_rfl) (by kernel_rfl) (fun _ _ _ h => h) (Or.inl ⟨by kernel_rfl, ?_⟩) (by assumption) ?_
              · intro w hSw
                (try dsimp only at hSw)
                (try obtain ⟨q1, q2, q3, q4⟩ := hSw)
                go_simp
              change wpAnyH _ _ _ _ _ _ _ (Act.put _ (some 136) _) _
              simp only [Act.put, List.setIfInBounds_toArray, List.set_cons_zero, List.set_cons_succ]
              refine wpAnyH_take (i := 13) (v := .agg #[.string sd, .slice aU L cU]) rfl (by kernel_rfl) (by kernel_rfl) (by kernel_rfl) (fun _ _ _ h => h) (Or.inl ⟨by kernel_rfl, ?_⟩) (by assumption) ?_
              · intro w hSw
                (try dsimp only at hSw)
                (try obtain ⟨q1, q2, q3, q4⟩ := hSw)
                go_simp
              change wpAnyH _ _ _ _ _ _ _ (Act.put _ (some 137) _) _
              simp only [Act.put, List.setIfInBounds_toArray, List.set_cons_zero, List.set_cons_succ]
              refine wpAnyH_ready (rs := [14]) (by kernel_rfl) (by simp) ?_
              refine AllReadyH.cons rfl (fun K hK => ?_) AllReadyH.nil
              go_simp
              go_at_call 24
              refine (HOKS.out _ (EB.out.trans (ERA.out.trans eC6.out))).mono ?_
              rintro e wK ⟨rfl, hbK⟩
              have eC14 : Hid (Ext wF wK) := Ext.call eC6.out hbK
              clear hbK
              go_wp2_with fail
              refine hK.out _ _ (HSL.out _ eC14.out) (fun hHeld => ?_)
              clear hK K
              refine wpAnyH_take (i := 15) (v := .bool false) rfl (by kernel_rfl) (by kernel_rfl) (by kernel_rfl) (fun _ _ _ h => h) (Or.inl ⟨by kernel_rfl, ?_⟩) (by assumption) ?_
              · intro w hSw
                (try dsimp only at hSw)
                (try obtain ⟨q1, q2, q3, q4⟩ := hSw)
                go_simp
              change wpAnyH _ _ _ _ _ _ _ (Act.put _ (some 139) _) _
              simp only [Act.put, List.setIfInBounds_toArray, List.set_cons_zero, List.set_cons_succ]
              refine wpAnyH_take (i := 16) (v := .bool false) rfl (by kernel_rfl) (by kernel_rfl) (by kernel_rfl) (fun _ _ _ h => h) (Or.inl ⟨by kernel_rfl, ?_⟩) (by assumption) ?_
              · intro w hSw
                (try dsimp only at hSw)
                (try obtain ⟨q1, q2, q3, q4⟩ := hSw)
                go_simp
              change wpAnyH _ _ _ _ _ _ _ (Act.put _ (some 140) _) _
              simp only [Act.put, List.setIfInBounds_toArray, List.set_cons_zero, List.set_cons_succ]
              refine wpAnyH_take (i := 17) (v := .slice aL k cL) rfl (by kernel_rfl) (by kernel_rfl) (by kernel_rfl) (fun _ _ _ h => h) (Or.inl ⟨by kernel_rfl, ?_⟩) (by assumption) ?_
              · intro w hSw
                (try dsimp only at hSw)
                (try obtain ⟨q1, q2, q3, q4⟩ := hSw)
                go_simp
              change wpAnyH _ _ _ _ _ _ _ (Act.put _ (some 141) _) _
              simp only [Act.put, List.setIfInBounds_toArray, List.set_cons_zero, List.set_cons_succ]
              refine wpAnyH_take (i := 18) (v := .int .i64 (k : Int)) rfl (by kernel_rfl) (by kernel_rfl) (by kernel_rfl) (fun _ _ _ h => h) (Or.inl ⟨by kernel_rfl, ?_⟩) (by assumption) ?_
              · intro w hSw
                (try dsimp only at hSw)
                (try obtain ⟨q1, q2, q3, q4⟩ := hSw)
                go_simp
              change wpAnyH _ _ _ _ _ _ _ (Act.put _ (some 142) _) _
              simp only [Act.put, List.setIfInBounds_toArray, List.set_cons_zero, List.set_cons_succ]
              refine wpAnyH_take (i := 19) (v := .bool true) rfl (by kernel_rfl) (by kernel_rfl) (by kernel_rfl) (fun _ _ _ h => h) (Or.inl ⟨by kernel_rfl, ?_⟩) (by assumption) ?_
              · intro w hSw
                (try dsimp only at hSw)
                (try obtain ⟨q1, q2, q3, q4⟩ := hSw)
                go_simp
              change wpAnyH _ _ _ _ _ _ _ (Act.put _ (some 143) _) _
              simp only [Act.put, List.setIfInBounds_toArray, List.set_cons_zero, List.set_cons_succ]
              refine wpAnyH_take (i := 20) (v := .bool true) rfl (by kernel_rfl) (by kernel_rfl) (by kernel_rfl) (fun _ _ _ h => h) (Or.inl ⟨by kernel_rfl, ?_⟩) (by assumption) ?_
              · intro w hSw
                (try dsimp only at hSw)
                (try obtain ⟨q1, q2, q3, q4⟩ := hSw)
                go_simp
              change wpAnyH _ _ _ _ _ _ _ (Act.put _ (some 144) _) _
              simp only [Act.put, List.setIfInBounds_toArray, List.set_cons_zero, List.set_cons_succ]
              refine wpAnyH_take (i := 21) (v := .bool true) rfl (by kernel_rfl) (by kernel_rfl) (by kernel_rfl) (fun _ _ _ h => h) (Or.inl ⟨by kernel_rfl, ?_⟩) (by assumption) ?_
              · intro w hSw
                (try dsimp only at hSw)
                (try obtain ⟨q1, q2, q3, q4⟩ := hSw)
                go_simp
              change wpAnyH _ _ _ _ _ _ _ (Act.put _ (some 145) _) _
              simp only [Act.put, List.setIfInBounds_toArray, List.set_cons_zero, List.set_cons_succ]
              refine wpAnyH_take (i := 22) (v := undef) rfl (by kernel_rfl) (by kernel_rfl) (by kernel_rfl) (fun _ _ _ h => h) (Or.inr ⟨by kernel_rfl, rfl⟩) (by assumption) ?_
              change wpAnyH _ _ _ _ _ _ _ (Act.put _ (some 146) _) _
              simp only [Act.put, List.setIfInBounds_toArray, List.set_cons_zero, List.set_cons_succ]
              refine wpAnyH_take (i := 23) (v := undef) rfl (by kernel_rfl) (by kernel_rfl) (by kernel_rfl) (fun _ _ _ h => h) (Or.inr ⟨by kernel_rfl, rfl⟩) (by assumption) ?_
              change wpAnyH _ _ _ _ _ _ _ (Act.put _ (some 147) _) _
              simp only [Act.put, List.setIfInBounds_toArray, List.set_cons_zero, List.set_cons_succ]
              refine wpAnyH_take (i := 24) (v := undef) rfl (by kernel_rfl) (by kernel_rfl) (by kernel_rfl) (fun _ _ _ h => h) (Or.inr ⟨by kernel_rfl, rfl⟩) (by assumption) ?_
              change wpAnyH _ _ _ _ _ _ _ (Act.put _ (some 148) _) _
              simp only [Act.put, List.setIfInBounds_toArray, List.set_cons_zero, List.set_cons_succ]
              refine wpAnyH_take (i := 25) (v := .bool true) rfl (by kernel_rfl) (by kernel_rfl) (by kernel_rfl) (fun _ _ _ h => h) (Or.inl ⟨by kernel_rfl, ?_⟩) (by assumption) ?_
              · intro w hSw
                (try dsimp only at hSw)
                (try obtain ⟨q1, q2, q3, q4⟩ := hSw)
                go_simp
              change wpAnyH _ _ _ _ _ _ _ (Act.put _ (some 149) _) _
              simp only [Act.put, List.setIfInBounds_toArray, List.set_cons_zero, List.set_cons_succ]
              refine wpAnyH_take (i := 26) (v := .bool true) rfl (by kernel_rfl) (by kernel_rfl) (by kernel_rfl) (fun _ _ _ h => h) (Or.inl ⟨by kernel_rfl, ?_⟩) (by assumption) ?_
              · intro w hSw
                (try dsimp only at hSw)
                (try obtain ⟨q1, q2, q3, q4⟩ := hSw)
                go_simp
              change wpAnyH _ _ _ _ _ _ _ (Act.put _ (some 150) _) _
              simp only [Act.put, List.setIfInBounds_toArray, List.set_cons_zero, List.set_cons_succ]
              refine wpAnyH_take (i := 27) (v := .bool true) rfl (by kernel_rfl) (by kernel_rfl) (by kernel_rfl) (fun _ _ _ h => h) (Or.inl ⟨by kernel_rfl, ?_⟩) (by assumption) ?_
              · intro w hSw
                (try dsimp only at hSw)
                (try obtain ⟨q1, q2, q3, q4⟩ := hSw)
                go_simp
              change wpAnyH _ _ _ _ _ _ _ (Act.put _ (some 151) _) _
              simp only [Act.put, List.setIfInBounds_toArray, List.set_cons_zero, List.set_cons_succ]
              refine wpAnyH_ready (rs := [28]) (by kernel_rfl) (by simp) ?_
              refine AllReadyH.cons rfl (fun K hK => ?_) AllReadyH.nil
              go_simp
              go_at_call 26
              refine (alive_yes _).mono ?_
              rintro e wZ ⟨rfl, rfl⟩
              have eC28 := eC14
              go_wp2_with fail
              refine hK.out _ _ (HSL.out _ eC28.out) (fun hHeld => ?_)
              clear hK K
              refine wpAnyH_take (i := 29) (v := .bool true) rfl (by kernel_rfl) (by kernel_rfl) (by kernel_rfl) (fun _ _ _ h => h) (Or.inl ⟨by kernel_rfl, ?_⟩) (by assumption) ?_
              · intro w hSw
                (try dsimp only at hSw)
                (try obtain ⟨q1, q2, q3, q4⟩ := hSw)
                go_simp
              change wpAnyH _ _ _ _ _ _ _ (Act.put _ (some 153) _) _
              simp only [Act.put, List.setIfInBounds_toArray, List.set_cons_zero, List.set_cons_succ]
              refine wpAnyH_take (i := 30) (v := .bool true) rfl (by kernel_rfl) (by kernel_rfl) (by kernel_rfl) (fun _ _ _ h => h) (Or.inl ⟨by kernel_rfl, ?_⟩) (by assumption) ?_
              · intro w hSw
                (try dsimp only at hSw)
                (try obtain ⟨q1, q2, q3, q4⟩ := hSw)
                go_simp
              change wpAnyH _ _ _ _ _ _ _ (Act.put _ (some 4) _) _
              simp only [Act.put, List.setIfInBounds_toArray, List.set_cons_zero, List.set_cons_succ]
              refine wpAnyH_done (by kernel_rfl) ?_ _
              go_wp2_with fail
              go_ret
              exact ⟨rfl, Ext.below HB6.out (EB.out.trans (ERA.out.trans eC28.out)) HB6.out.size⟩
            · have hN40 : ¬ (40 : Int) < (k : Int) := by omega
              have hrx : (xE, yE) = (x, ys) := by
                have h9 := HRE.out
                unfold deskRun at h9
                rw [if_pos ⟨HT.out, by rw [HN.out]; exact h40⟩] at h9
                rw [← HALL.out, h9]
              simp only [Prod.mk.injEq] at hrx
              obtain ⟨hx1, hx2⟩ := hrx
              have HSAME : Hid ((decide (x = xE) && decide (ys = yE)) = true) := by
                show _ = true
                rw [hx1, hx2, decide_eq_true rfl, decide_eq_true rfl]
                rfl
              clear hx1 hx2
              go_upto_region 24 with (go_at_call 36; refine (HRUN.out _ EB.out).mono ?_; rintro e wR ⟨vR, rfl, hpR, hfR, hbR⟩; obtain ⟨aR, cR, hvR⟩ := past_slice hpR HEM.out; subst hvR; have ER : Hid (Ext wB wR) := hbR; have PR := Lib.hid hpR; clear hpR hfR hbR)
              have hE0 := two_cells (heap_alloc_new wR (.cells #[.string xE, .slice aR mE cR] 27))
              have ERA : Hid (Ext wB (wR.alloc (.cells #[.string xE, .slice aR mE cR] 27))) := ER.out.alloc _
              have PRA := Lib.hid (((Ext.refl wR).alloc (.cells #[.string xE, .slice aR mE cR] 27)).past PR.out)
              have ROW := Lib.hid (heap_alloc_new wR (.cells #[.string xE, .slice aR mE cR] 27))
              obtain ⟨wF, hwF⟩ : ∃ wF, wR.alloc (.cells #[.string xE, .slice aR mE cR] 27) = wF := ⟨_, rfl⟩
              obtain ⟨F, hF⟩ : ∃ F, wR.heap.size = F := ⟨_, rfl⟩
              rw [hwF] at ERA PRA ROW hE0 ⊢
              rw [hF] at ROW hE0 ⊢
              clear hwF hF
              have HSL : Hid (∀ X, Ext wF X → X.cell? ⟨D, 0, none⟩ = some (.string sd) ∧ X.cell? ⟨D, 1, none⟩ = some (.slice aU L cU) ∧ (X.cell? ⟨O, 0, none⟩ = some (.string x) ∧ X.cell? ⟨O, 1, none⟩ = some (.slice ax ys.length cx)) ∧ (X.cell? ⟨F, 0, none⟩ = some (.string xE) ∧ X.cell? ⟨F, 1, none⟩ = some (.slice aR mE cR))) := fun X hX => ⟨(HDB.out X (EB.out.trans (ERA.out.trans hX))).1, (HDB.out X (EB.out.trans (ERA.out.trans hX))).2, two_cells (hX.row (ERA.out.row HOB.out)), two_cells (hX.row ROW.out)⟩
              refine wp_region_held_drew (S := fun w' => w'.cell? ⟨D, 0, none⟩ = some (.string sd) ∧ w'.cell? ⟨D, 1, none⟩ = some (.slice aU L cU) ∧ (w'.cell? ⟨O, 0, none⟩ = some (.string x) ∧ w'.cell? ⟨O, 1, none⟩ = some (.slice ax ys.length cx)) ∧ (w'.cell? ⟨F, 0, none⟩ = some (.string xE) ∧ w'.cell? ⟨F, 1, none⟩ = some (.slice aR mE cR))) (by kernel_rfl) (HSL.out _ (Ext.refl _).drew) (fun hHeld => ?_)
              refine wpAnyH_take (i := 0) (v := .int .i64 (M : Int)) rfl (by kernel_rfl) (by kernel_rfl) (by kernel_rfl) (fun _ _ _ h => h) (Or.inl ⟨by kernel_rfl, ?_⟩) (by assumption) ?_
              · intro w hSw
                (try dsimp only at hSw)
                (try obtain ⟨q1, q2, q3, q4⟩ := hSw)
                go_simp
              change wpAnyH _ _ _ _ _ _ _ (Act.put _ (some 124) _) _
              simp only [Act.put, List.setIfInBounds_toArray, List.set_cons_zero, List.set_cons_succ]
              refine wpAnyH_take (i := 1) (v := .string s) rfl (by kernel_rfl) (by kernel_rfl) (by kernel_rfl) (fun _ _ _ h => h) (Or.inl ⟨by kernel_rfl, ?_⟩) (by assumption) ?_
              · intro w hSw
                (try dsimp only at hSw)
                (try obtain ⟨q1, q2, q3, q4⟩ := hSw)
                go_simp
              change wpAnyH _ _ _ _ _ _ _ (Act.put _ (some 125) _) _
              simp only [Act.put, List.setIfInBounds_toArray, List.set_cons_zero, List.set_cons_succ]
              refine wpAnyH_take (i := 2) (v := .int .i64 (s.size : Int)) rfl (by kernel_rfl) (by kernel_rfl) (by kernel_rfl) (fun _ _ _ h => h) (Or.inl ⟨by kernel_rfl, ?_⟩) (by assumption) ?_
              · intro w hSw
                (try dsimp only at hSw)
                (try obtain ⟨q1, q2, q3, q4⟩ := hSw)
                go_simp
              change wpAnyH _ _ _ _ _ _ _ (Act.put _ (some 126) _) _
              simp only [Act.put, List.setIfInBounds_toArray, List.set_cons_zero, List.set_cons_succ]
              refine wpAnyH_take (i := 3) (v := .bool true) rfl (by kernel_rfl) (by kernel_rfl) (by kernel_rfl) (fun _ _ _ h => h) (Or.inl ⟨by kernel_rfl, ?_⟩) (by assumption) ?_
              · intro w hSw
                (try dsimp only at hSw)
                (try obtain ⟨q1, q2, q3, q4⟩ := hSw)
                go_simp
              change wpAnyH _ _ _ _ _ _ _ (Act.put _ (some 127) _) _
              simp only [Act.put, List.setIfInBounds_toArray, List.set_cons_zero, List.set_cons_succ]
              refine wpAnyH_take (i := 4) (v := .bool true) rfl (by kernel_rfl) (by kernel_rfl) (by kernel_rfl) (fun _ _ _ h => h) (Or.inl ⟨by kernel_rfl, ?_⟩) (by assumption) ?_
              · intro w hSw
                (try dsimp only at hSw)
                (try obtain ⟨q1, q2, q3, q4⟩ := hSw)
                go_simp
              change wpAnyH _ _ _ _ _ _ _ (Act.put _ (some 128) _) _
              simp only [Act.put, List.setIfInBounds_toArray, List.set_cons_zero, List.set_cons_succ]
              refine wpAnyH_take (i := 5) (v := .slice aL k cL) rfl (by kernel_rfl) (by kernel_rfl) (by kernel_rfl) (fun _ _ _ h => h) (Or.inl ⟨by kernel_rfl, ?_⟩) (by assumption) ?_
              · intro w hSw
                (try dsimp only at hSw)
                (try obtain ⟨q1, q2, q3, q4⟩ := hSw)
                go_simp
              change wpAnyH _ _ _ _ _ _ _ (Act.put _ (some 129) _) _
              simp only [Act.put, List.setIfInBounds_toArray, List.set_cons_zero, List.set_cons_succ]
              refine wpAnyH_take (i := 7) (v := .string s) rfl (by kernel_rfl) (by kernel_rfl) (by kernel_rfl) (fun _ _ _ h => h) (Or.inl ⟨by kernel_rfl, ?_⟩) (by assumption) ?_
              · intro w hSw
                (try dsimp only at hSw)
                (try obtain ⟨q1, q2, q3, q4⟩ := hSw)
                go_simp
              change wpAnyH _ _ _ _ _ _ _ (Act.put _ (some 131) _) _
              simp only [Act.put, List.setIfInBounds_toArray, List.set_cons_zero, List.set_cons_succ]
              refine wpAnyH_take (i := 8) (v := .int .i64 (M : Int)) rfl (by kernel_rfl) (by kernel_rfl) (by kernel_rfl) (fun _ _ _ h => h) (Or.inl ⟨by kernel_rfl, ?_⟩) (by assumption) ?_
              · intro w hSw
                (try dsimp only at hSw)
                (try obtain ⟨q1, q2, q3, q4⟩ := hSw)
                go_simp
              change wpAnyH _ _ _ _ _ _ _ (Act.put _ (some 132) _) _
              simp only [Act.put, List.setIfInBounds_toArray, List.set_cons_zero, List.set_cons_succ]
              refine wpAnyH_take (i := 9) (v := .string (s.extract 0 M)) rfl (by kernel_rfl) (by kernel_rfl) (by kernel_rfl) (fun _ _ _ h => h) (Or.inl ⟨by kernel_rfl, ?_⟩) (by assumption) ?_
              · intro w hSw
                (try dsimp only at hSw)
                (try obtain ⟨q1, q2, q3, q4⟩ := hSw)
                go_simp
              change wpAnyH _ _ _ _ _ _ _ (Act.put _ (some 133) _) _
              simp only [Act.put, List.setIfInBounds_toArray, List.set_cons_zero, List.set_cons_succ]
              refine wpAnyH_ready (rs := [6]) (by kernel_rfl) (by simp) ?_
              refine AllReadyH.cons rfl (fun K hK => ?_) AllReadyH.nil
              go_simp
              go_at_call 37
              refine (HJT.out _ (EB.out.trans (ERA.out.trans (Ext.refl _).drew))).mono ?_
              rintro e wJ ⟨rfl, hbJ⟩
              have eC6 : Hid (Ext wF wJ) := Ext.call (Ext.refl _).drew hbJ
              clear hbJ
              go_wp2_with fail
              refine hK.out _ _ (HSL.out _ eC6.out) (fun hHeld => ?_)
              clear hK K
              refine wpAnyH_take (i := 10) (v := .bool true) rfl (by kernel_rfl) (by kernel_rfl) (by kernel_rfl) (fun _ _ _ h => h) (Or.inl ⟨by kernel_rfl, ?_⟩) (by assumption) ?_
              · intro w hSw
                (try dsimp only at hSw)
                (try obtain ⟨q1, q2, q3, q4⟩ := hSw)
                go_simp
              change wpAnyH _ _ _ _ _ _ _ (Act.put _ (some 134) _) _
              simp only [Act.put, List.setIfInBounds_toArray, List.set_cons_zero, List.set_cons_succ]
              refine wpAnyH_take (i := 11) (v := .bool true) rfl (by kernel_rfl) (by kernel_rfl) (by kernel_rfl) (fun _ _ _ h => h) (Or.inl ⟨by kernel_rfl, ?_⟩) (by assumption) ?_
              · intro w hSw
                (try dsimp only at hSw)
                (try obtain ⟨q1, q2, q3, q4⟩ := hSw)
                go_simp
              change wpAnyH _ _ _ _ _ _ _ (Act.put _ (some 135) _) _
              simp only [Act.put, List.setIfInBounds_toArray, List.set_cons_zero, List.set_cons_succ]
              refine wpAnyH_take (i := 12) (v := .bool true) rfl (by kernel_rfl) (by kernel_rfl) (by kernel_rfl) (fun _ _ _ h => h) (Or.inl ⟨by kernel_rfl, ?_⟩) (by assumption) ?_
              · intro w hSw
                (try dsimp only at hSw)
                (try obtain ⟨q1, q2, q3, q4⟩ := hSw)
                go_simp
              change wpAnyH _ _ _ _ _ _ _ (Act.put _ (some 136) _) _
              simp only [Act.put, List.setIfInBounds_toArray, List.set_cons_zero, List.set_cons_succ]
              refine wpAnyH_take (i := 13) (v := .agg #[.string sd, .slice aU L cU]) rfl (by kernel_rfl) (by kernel_rfl) (by kernel_rfl) (fun _ _ _ h => h) (Or.inl ⟨by kernel_rfl, ?_⟩) (by assumption) ?_
              · intro w hSw
                (try dsimp only at hSw)
                (try obtain ⟨q1, q2, q3, q4⟩ := hSw)
                go_simp
              change wpAnyH _ _ _ _ _ _ _ (Act.put _ (some 137) _) _
              simp only [Act.put, List.setIfInBounds_toArray, List.set_cons_zero, List.set_cons_succ]
              refine wpAnyH_ready (rs := [14]) (by kernel_rfl) (by simp) ?_
              refine AllReadyH.cons rfl (fun K hK => ?_) AllReadyH.nil
              go_simp
              go_at_call 24
              refine (HOKS.out _ (EB.out.trans (ERA.out.trans eC6.out))).mono ?_
              rintro e wK ⟨rfl, hbK⟩
              have eC14 : Hid (Ext wF wK) := Ext.call eC6.out hbK
              clear hbK
              go_wp2_with fail
              refine hK.out _ _ (HSL.out _ eC14.out) (fun hHeld => ?_)
              clear hK K
              refine wpAnyH_take (i := 15) (v := .bool false) rfl (by kernel_rfl) (by kernel_rfl) (by kernel_rfl) (fun _ _ _ h => h) (Or.inl ⟨by kernel_rfl, ?_⟩) (by assumption) ?_
              · intro w hSw
                (try dsimp only at hSw)
                (try obtain ⟨q1, q2, q3, q4⟩ := hSw)
                go_simp
              change wpAnyH _ _ _ _ _ _ _ (Act.put _ (some 139) _) _
              simp only [Act.put, List.setIfInBounds_toArray, List.set_cons_zero, List.set_cons_succ]
              refine wpAnyH_take (i := 16) (v := .bool false) rfl (by kernel_rfl) (by kernel_rfl) (by kernel_rfl) (fun _ _ _ h => h) (Or.inl ⟨by kernel_rfl, ?_⟩) (by assumption) ?_
              · intro w hSw
                (try dsimp only at hSw)
                (try obtain ⟨q1, q2, q3, q4⟩ := hSw)
                go_simp
              change wpAnyH _ _ _ _ _ _ _ (Act.put _ (some 140) _) _
              simp only [Act.put, List.setIfInBounds_toArray, List.set_cons_zero, List.set_cons_succ]
              refine wpAnyH_take (i := 17) (v := .slice aL k cL) rfl (by kernel_rfl) (by kernel_rfl) (by kernel_rfl) (fun _ _ _ h => h) (Or.inl ⟨by kernel_rfl, ?_⟩) (by assumption) ?_
              · intro w hSw
                (try dsimp only at hSw)
                (try obtain ⟨q1, q2, q3, q4⟩ := hSw)
                go_simp
              change wpAnyH _ _ _ _ _ _ _ (Act.put _ (some 141) _) _
              simp only [Act.put, List.setIfInBounds_toArray, List.set_cons_zero, List.set_cons_succ]
              refine wpAnyH_take (i := 18) (v := .int .i64 (k : Int)) rfl (by kernel_rfl) (by kernel_rfl) (by kernel_rfl) (fun _ _ _ h => h) (Or.inl ⟨by kernel_rfl, ?_⟩) (by assumption) ?_
              · intro w hSw
                (try dsimp only at hSw)
                (try obtain ⟨q1, q2, q3, q4⟩ := hSw)
                go_simp
              change wpAnyH _ _ _ _ _ _ _ (Act.put _ (some 142) _) _
              simp only [Act.put, List.setIfInBounds_toArray, List.set_cons_zero, List.set_cons_succ]
              refine wpAnyH_take (i := 19) (v := .bool false) rfl (by kernel_rfl) (by kernel_rfl) (by kernel_rfl) (fun _ _ _ h => h) (Or.inl ⟨by kernel_rfl, ?_⟩) (by assumption) ?_
              · intro w hSw
                (try dsimp only at hSw)
                (try obtain ⟨q1, q2, q3, q4⟩ := hSw)
                go_simp
              change wpAnyH _ _ _ _ _ _ _ (Act.put _ (some 143) _) _
              simp only [Act.put, List.setIfInBounds_toArray, List.set_cons_zero, List.set_cons_succ]
              refine wpAnyH_take (i := 20) (v := .bool false) rfl (by kernel_rfl) (by kernel_rfl) (by kernel_rfl) (fun _ _ _ h => h) (Or.inl ⟨by kernel_rfl, ?_⟩) (by assumption) ?_
              · intro w hSw
                (try dsimp only at hSw)
                (try obtain ⟨q1, q2, q3, q4⟩ := hSw)
                go_simp
              change wpAnyH _ _ _ _ _ _ _ (Act.put _ (some 144) _) _
              simp only [Act.put, List.setIfInBounds_toArray, List.set_cons_zero, List.set_cons_succ]
              refine wpAnyH_take (i := 21) (v := .bool false) rfl (by kernel_rfl) (by kernel_rfl) (by kernel_rfl) (fun _ _ _ h => h) (Or.inl ⟨by kernel_rfl, ?_⟩) (by assumption) ?_
              · intro w hSw
                (try dsimp only at hSw)
                (try obtain ⟨q1, q2, q3, q4⟩ := hSw)
                go_simp
              change wpAnyH _ _ _ _ _ _ _ (Act.put _ (some 145) _) _
              simp only [Act.put, List.setIfInBounds_toArray, List.set_cons_zero, List.set_cons_succ]
              refine wpAnyH_take (i := 22) (v := .agg #[.string x, .slice ax ys.length cx]) rfl (by kernel_rfl) (by kernel_rfl) (by kernel_rfl) (fun _ _ _ h => h) (Or.inl ⟨by kernel_rfl, ?_⟩) (by assumption) ?_
              · intro w hSw
                (try dsimp only at hSw)
                (try obtain ⟨q1, q2, q3, q4⟩ := hSw)
                go_simp
              change wpAnyH _ _ _ _ _ _ _ (Act.put _ (some 146) _) _
              simp only [Act.put, List.setIfInBounds_toArray, List.set_cons_zero, List.set_cons_succ]
              refine wpAnyH_take (i := 23) (v := .agg #[.string xE, .slice aR mE cR]) rfl (by kernel_rfl) (by kernel_rfl) (by kernel_rfl) (fun _ _ _ h => h) (Or.inl ⟨by kernel_rfl, ?_⟩) (by assumption) ?_
              · intro w hSw
                (try dsimp only at hSw)
                (try obtain ⟨q1, q2, q3, q4⟩ := hSw)
                go_simp
              change wpAnyH _ _ _ _ _ _ _ (Act.put _ (some 147) _) _
              simp only [Act.put, List.setIfInBounds_toArray, List.set_cons_zero, List.set_cons_succ]
              refine wpAnyH_ready (rs := [24]) (by kernel_rfl) (by simp) ?_
              refine AllReadyH.cons rfl (fun K hK => ?_) AllReadyH.nil
              go_simp
              go_at_call 23
              refine (same_is x xE _ _ ys yE _ ((ERA.out.trans eC14.out).past HPB.out).strs (eC14.out.past PRA.out).strs (by rw [HEM.out]; omega) true HSAME.out).mono ?_
              rintro e wS ⟨rfl, hbS⟩
              have eC24 : Hid (Ext wF wS) := Ext.call eC14.out hbS
              clear hbS
              go_wp2_with fail
              refine hK.out _ _ (HSL.out _ eC24.out) (fun hHeld => ?_)
              clear hK K
              refine wpAnyH_take (i := 25) (v := .bool true) rfl (by kernel_rfl) (by kernel_rfl) (by kernel_rfl) (fun _ _ _ h => h) (Or.inl ⟨by kernel_rfl, ?_⟩) (by assumption) ?_
              · intro w hSw
                (try dsimp only at hSw)
                (try obtain ⟨q1, q2, q3, q4⟩ := hSw)
                go_simp
              change wpAnyH _ _ _ _ _ _ _ (Act.put _ (some 149) _) _
              simp only [Act.put, List.setIfInBounds_toArray, List.set_cons_zero, List.set_cons_succ]
              refine wpAnyH_take (i := 26) (v := .bool true) rfl (by kernel_rfl) (by kernel_rfl) (by kernel_rfl) (fun _ _ _ h => h) (Or.inl ⟨by kernel_rfl, ?_⟩) (by assumption) ?_
              · intro w hSw
                (try dsimp only at hSw)
                (try obtain ⟨q1, q2, q3, q4⟩ := hSw)
                go_simp
              change wpAnyH _ _ _ _ _ _ _ (Act.put _ (some 150) _) _
              simp only [Act.put, List.setIfInBounds_toArray, List.set_cons_zero, List.set_cons_succ]
              refine wpAnyH_take (i := 27) (v := .bool true) rfl (by kernel_rfl) (by kernel_rfl) (by kernel_rfl) (fun _ _ _ h => h) (Or.inl ⟨by kernel_rfl, ?_⟩) (by assumption) ?_
              · intro w hSw
                (try dsimp only at hSw)
                (try obtain ⟨q1, q2, q3, q4⟩ := hSw)
                go_simp
              change wpAnyH _ _ _ _ _ _ _ (Act.put _ (some 151) _) _
              simp only [Act.put, List.setIfInBounds_toArray, List.set_cons_zero, List.set_cons_succ]
              refine wpAnyH_ready (rs := [28]) (by kernel_rfl) (by simp) ?_
              refine AllReadyH.cons rfl (fun K hK => ?_) AllReadyH.nil
              go_simp
              go_at_call 26
              refine (alive_yes _).mono ?_
              rintro e wZ ⟨rfl, rfl⟩
              have eC28 := eC24
              go_wp2_with fail
              refine hK.out _ _ (HSL.out _ eC28.out) (fun hHeld => ?_)
              clear hK K
              refine wpAnyH_take (i := 29) (v := .bool true) rfl (by kernel_rfl) (by kernel_rfl) (by kernel_rfl) (fun _ _ _ h => h) (Or.inl ⟨by kernel_rfl, ?_⟩) (by assumption) ?_
              · intro w hSw
                (try dsimp only at hSw)
                (try obtain ⟨q1, q2, q3, q4⟩ := hSw)
                go_simp
              change wpAnyH _ _ _ _ _ _ _ (Act.put _ (some 153) _) _
              simp only [Act.put, List.setIfInBounds_toArray, List.set_cons_zero, List.set_cons_succ]
              refine wpAnyH_take (i := 30) (v := .bool true) rfl (by kernel_rfl) (by kernel_rfl) (by kernel_rfl) (fun _ _ _ h => h) (Or.inl ⟨by kernel_rfl, ?_⟩) (by assumption) ?_
              · intro w hSw
                (try dsimp only at hSw)
                (try obtain ⟨q1, q2, q3, q4⟩ := hSw)
                go_simp
              change wpAnyH _ _ _ _ _ _ _ (Act.put _ (some 4) _) _
              simp only [Act.put, List.setIfInBounds_toArray, List.set_cons_zero, List.set_cons_succ]
              refine wpAnyH_done (by kernel_rfl) ?_ _
              go_wp2_with fail
              go_ret
              exact ⟨rfl, Ext.below HB6.out (EB.out.trans (ERA.out.trans eC28.out)) HB6.out.size⟩

set_option maxRecDepth 100000 in
theorem own : ownKnob Tryz.prog.godebug = none := by kernel_rfl
set_option maxRecDepth 100000 in
theorem laidOut : laidOutB Tryz.prog = true := by kernel_rfl
set_option maxRecDepth 100000 in
theorem rowed : rowsOk Tryz.prog Tryz.f6.params.toList = true := by kernel_rfl
set_option maxRecDepth 100000 in
theorem varred : varsOk Tryz.prog Rows.fnReadJournalSpec.vars = true := by kernel_rfl
set_option maxRecDepth 100000 in
theorem resType : Tryz.f6.resultTypes = #[4] := by kernel_rfl

set_option maxRecDepth 100000 in
theorem contract (H : Type) (enc : TypeId × Value → H) (W : World) (base : Nat) (args : Array Value) (ds gs : List (DataW H)) (before : List MemPlace)
    (hval : ∀ (j : Nat) t v, Tryz.f6.params[j]? = some t → args[j]? = some v → Value.okWide Tryz.prog W .any base t v)
    (hW : DataW.Whole enc Tryz.prog Tryz.f6.params.toList Rows.fnReadJournalSpec.vars false W args.toList ds gs before) (hL : laidMetH Tryz.prog Rows.fnReadJournalRow.laid W) (hSh : W.ShapedOpen Tryz.prog) :
    Calls Tryz.prog 6 args W fun e W' => ∃ v, e = .returned v ∧ Rows.fnReadJournalSpec.post enc Tryz.prog Tryz.f6 false true false false W args v W' := by
  have hW' := hW
  obtain ⟨p, q, hA0, hV, rfl, hfz, hnd⟩ := hW
  have hA : DataW.TrodAll enc Tryz.prog W 0 (fun _ => true) true Tryz.f6.params.toList args.toList ds p := hA0
  rw [Tryz.params6] at hA hval
  obtain ⟨v0, vs0, d0, ds0, p0, q0, hargs, rfl, rfl, h0, r0⟩ := trodAll_cons hA
  obtain ⟨v1, vs1, d1, ds1, p1, q1, rfl, rfl, rfl, h1, r1⟩ := trodAll_cons r0
  obtain ⟨rfl, rfl, rfl⟩ := trodAll_nil r1
  obtain rfl : args = #[v0, v1] := by cases args; simp_all
  obtain ⟨g0, g1, g2, rfl⟩ := trodVars_len3 hV
  obtain ⟨n0, hcode0⟩ := open_code (hval 0 36 v0 rfl rfl) h0
  obtain ⟨n1, hcode1⟩ := open_code (hval 1 36 v1 rfl rfl) h1
  have t_words : WordsAt W := wordsAt (by kernel_rfl) hL (by simp [Rows.fnReadJournalRow])
  have t_ways : WaysAt W := waysAt (by kernel_rfl) hL (by simp [Rows.fnReadJournalRow])
  have t_dirs : DirsAt W := dirsAt (by kernel_rfl) hL (by simp [Rows.fnReadJournalRow])
  have t_max : MaxAt W := maxAt hSh
  refine (walk v0 n0 v1 n1 W t_words t_ways t_dirs t_max hcode0 hcode1).mono fun e W' ⟨he, hb⟩ => ?_
  subst he
  exact ⟨_, rfl, law_post laidOut rowed varred resType Tryz.underlying4 hW' ⟨rfl, rfl, rfl⟩ hb⟩

/-- A world for the witness: the settled one, the listed variables holding what their initialisers lay. -/
noncomputable def laidWorld (os : Os) : World := { World.holding Tryz.prog os ⟨#[], #[], []⟩ with heap := (((((((((World.holding Tryz.prog os ⟨#[], #[], []⟩).heap.modify 5 fun
      | .cells _ t frozen => .cells #[.int .u8 0, .int .u8 1, .int .u8 28, .int .u8 2, .int .u8 29, .int .u8 14, .int .u8 24, .int .u8 3, .int .u8 30, .int .u8 22, .int .u8 20, .int .u8 15, .int .u8 25, .int .u8 17, .int .u8 4, .int .u8 8, .int .u8 31, .int .u8 27, .int .u8 13, .int .u8 23, .int .u8 21, .int .u8 19, .int .u8 16, .int .u8 7, .int .u8 26, .int .u8 12, .int .u8 18, .int .u8 6, .int .u8 11, .int .u8 5, .int .u8 10, .int .u8 9] t frozen
      | o => o).modify 6 fun
      | .cells _ t frozen => .cells #[.int .u8 0, .int .u8 1, .int .u8 56, .int .u8 2, .int .u8 57, .int .u8 49, .int .u8 28, .int .u8 3, .int .u8 61, .int .u8 58, .int .u8 42, .int .u8 50, .int .u8 38, .int .u8 29, .int .u8 17, .int .u8 4, .int .u8 62, .int .u8 47, .int .u8 59, .int .u8 36, .int .u8 45, .int .u8 43, .int .u8 51, .int .u8 22, .int .u8 53, .int .u8 39, .int .u8 33, .int .u8 30, .int .u8 24, .int .u8 18, .int .u8 12, .int .u8 5, .int .u8 63, .int .u8 55, .int .u8 48, .int .u8 27, .int .u8 60, .int .u8 41, .int .u8 37, .int .u8 16, .int .u8 46, .int .u8 35, .int .u8 44, .int .u8 21, .int .u8 52, .int .u8 32, .int .u8 23, .int .u8 11, .int .u8 54, .int .u8 26, .int .u8 40, .int .u8 15, .int .u8 34, .int .u8 20, .int .u8 31, .int .u8 10, .int .u8 25, .int .u8 14, .int .u8 19, .int .u8 9, .int .u8 13, .int .u8 8, .int .u8 7, .int .u8 6] t frozen
      | o => o).modify 4 fun
      | .cells _ t frozen => .cells #[.int .u64 1, .int .u64 10, .int .u64 100, .int .u64 1000, .int .u64 10000, .int .u64 100000, .int .u64 1000000, .int .u64 10000000, .int .u64 100000000, .int .u64 1000000000, .int .u64 10000000000, .int .u64 100000000000, .int .u64 1000000000000, .int .u64 10000000000000, .int .u64 100000000000000, .int .u64 1000000000000000, .int .u64 10000000000000000, .int .u64 100000000000000000, .int .u64 1000000000000000000, .int .u64 10000000000000000000] t frozen
      | o => o).modify 8 fun
      | .cells _ t frozen => .cells #[.int .u8 128, .int .u8 191, .int .u8 160, .int .u8 191, .int .u8 128, .int .u8 159, .int .u8 144, .int .u8 191, .int .u8 128, .int .u8 143, .int .u8 0, .int .u8 0, .int .u8 0, .int .u8 0, .int .u8 0, .int .u8 0, .int .u8 0, .int .u8 0, .int .u8 0, .int .u8 0, .int .u8 0, .int .u8 0, .int .u8 0, .int .u8 0, .int .u8 0, .int .u8 0, .int .u8 0, .int .u8 0, .int .u8 0, .int .u8 0, .int .u8 0, .int .u8 0] t frozen
      | o => o).modify 1 fun
      | .cells _ t frozen => .cells #[.string ⟨#[101, 110, 119, 115]⟩, .string ⟨#[110, 119, 115, 101]⟩, .string ⟨#[119, 115, 101, 110]⟩, .string ⟨#[115, 101, 110, 119]⟩, .string ⟨#[101, 115, 119, 110]⟩, .string ⟨#[110, 101, 115, 119]⟩, .string ⟨#[119, 110, 101, 115]⟩, .string ⟨#[115, 119, 110, 101]⟩] t frozen
      | o => o).modify 0 fun
      | .cells _ t frozen => .cells #[.string ⟨#[115, 116, 101, 112]⟩, .string ⟨#[100, 114, 111, 112]⟩, .string ⟨#[119, 97, 121]⟩, .string ⟨#[111, 110]⟩, .string ⟨#[102, 105, 114, 115, 116]⟩, .string ⟨#[98, 97, 99, 107]⟩] t frozen
      | o => o).modify 3 fun
      | .cells _ t frozen => .cells #[.int .i64 1, .int .i64 0, .int .i64 0, .int .i64 1, .int .i64 (-1), .int .i64 0, .int .i64 0, .int .i64 (-1)] t frozen
      | o => o).modify 7 fun
      | .cells _ t frozen => .cells (Go.Pinned.utf8FirstZ.map fun (n : Nat) => Value.int .u8 n).toArray t frozen
      | o => o) }
set_option maxRecDepth 100000 in
theorem laid_met (os : Os) : laidMet Tryz.prog Rows.fnReadJournalRow.laid ((laidWorld os).forCall (fun _ _ => 0) ⟨#[], #[.slice none 0 0, .slice none 0 0], []⟩).memory := laidMet_of_run' 8 (by kernel_rfl) (by kernel_rfl)
set_option maxRecDepth 100000 in
theorem reads (os : Os) {H : Type} (enc : TypeId × Value → H) : ∃ places, DataW.whole enc Tryz.prog ((laidWorld os).forCall (fun _ _ => 0) ⟨#[], #[.slice none 0 0, .slice none 0 0], []⟩).memory Tryz.f6.params.toList Rows.fnReadJournalSpec.vars false (#[.slice none 0 0, .slice none 0 0] : Array Value).toList 8 = some ([.nil, .nil], [Rows.laid_loop_example_turtlewalks_impl_deedWords, Rows.laid_loop_example_turtlewalks_impl_wayLetters, Rows.laid_loop_example_turtlewalks_impl_directions], places) := ⟨MemPlace.row ⟨0, 0, none⟩ 6 ++ MemPlace.row ⟨1, 0, none⟩ 8 ++ MemPlace.row ⟨3, 0, none⟩ 8, by kernel_rfl⟩

set_option maxRecDepth 100000 in
theorem lifted (os : Os) (started : os.Started) (H : Type) (enc : TypeId × Value → H) (F : Stop.Interp) :
    ReturnsInHanded {} Tryz.checked os 6 .any ((OpenSpec.ofChange Rows.fnReadJournalSpec).preRow enc Tryz.prog Tryz.f6 Rows.fnReadJournalRow.domain false Rows.fnReadJournalRow.laid) (((OpenSpec.ofChange Rows.fnReadJournalSpec).at F).post enc Tryz.prog Tryz.f6 false true false false) := by
  obtain ⟨places, hx⟩ := reads os enc
  refine returnsInHanded_of_row (C := Tryz.checked) (s := OpenSpec.ofChange Rows.fnReadJournalSpec) own started (by kernel_rfl) Tryz.func6
    (witness_row_at (enc := enc) (C := Tryz.checked) false (laidWorld os) #[.slice none 0 0, .slice none 0 0] rfl (by kernel_rfl) (by kernel_rfl) (by kernel_rfl)
      (OpenSpec.preRow_of_cond 8 hx (by kernel_rfl) (fun k hk => by cases hk) (by kernel_rfl) (laid_met os))) ?_
  intro W base args ds gs before hval hW _ _ _ hL hSh _
  exact contract H enc W base args ds gs before hval hW hL hSh

set_option maxRecDepth 100000 in
theorem said : Rows.FnReadJournalSaid :=
  OpenClaim.holds_of_cond 6 Tryz.f6 rfl rfl rfl rfl rfl rfl rfl ⟨rfl, rfl, rfl, rfl, rfl⟩ rfl rfl rfl rfl rfl (by kernel_rfl) Tryz.func6 (by kernel_rfl)
    (of_decide_eq_true (by kernel_rfl)) (by unfold Func.isWrapper; first | (rw [if_pos (by decide +kernel)]; kernel_rfl) | (rw [if_neg (by decide +kernel)]; exact ⟨rfl, rfl⟩))
    (fun os started H enc _ F => by rw [OpenClaim.pre_eq_preRow]; exact lifted os started H enc F)

set_option maxRecDepth 100000 in
theorem plain (f : FuncId) (fn : Func) (hf : Tryz.pinned.checked.prog.funcNamed "loop.example/turtlewalks/laws.FnReadJournal" = some f) (hfn : Tryz.pinned.checked.prog.funcs[f]? = some fn) :
    false = Tryz.pinned.checked.prog.looks [] ∧ ∀ (j : Nat) t, fn.params[j]? = some t → Tryz.pinned.checked.prog.wantsStandIn t = false := by
  obtain rfl : f = 6 := Option.some.inj ((show Tryz.prog.funcNamed "loop.example/turtlewalks/laws.FnReadJournal" = some 6 by kernel_rfl).symm.trans hf) |>.symm
  obtain rfl : fn = Tryz.f6 := (Option.some.inj (Tryz.func6.symm.trans hfn)).symm
  refine ⟨by kernel_rfl, fun j t ht => ?_⟩
  rw [Tryz.params6] at ht
  have hm : t ∈ [36, 36] := by simpa using Array.mem_of_getElem? ht
  have hall : ([36, 36].all fun u => !Tryz.prog.wantsStandIn u) = true := by kernel_rfl
  exact (show Tryz.prog.wantsStandIn t = false by simpa using List.all_eq_true.1 hall t hm)

set_option maxRecDepth 100000 in
theorem card : Rows.FnReadJournalCardSaid :=
  Claim7.holds_tied_plain_at .later [] _ _ _ _ said (fun _ h => by cases h) (by kernel_rfl) (fun _ h => by cases h) fnReadJournal_row_tie rfl ⟨rfl, rfl⟩ (by kernel_rfl) rfl plain (by kernel_rfl)

end Go.Proofs.YtccdfndnjjjgfaaGreatDoor.fnReadJournal
