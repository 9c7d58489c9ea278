/-
  FnExactDeskLine: for every desk and line the program's DeskLine returns what the reference's returns, in memory of its own, and leaves the desk as it was. No condition beyond what the given statement itself bears.
-/
import Derived.Test.YtccdfndnjjjgfaaGreatDoorLFnExactDeskLineB
import Derived.Maps.OwnOps
import Derived.WideKeyEntry
import Derived.Maps.RangeWalk
import Derived.Deep.RegionHeld3
import Derived.Test.YtccdfndnjjjgfaaGreatDoorClosed
import Derived.Test.YtccdfndnjjjgfaaGreatDoorShapeLaw
import Derived.Maps.OwnSet
import Derived.Test.YtccdfndnjjjgfaaGreatDoorEnd
import Derived.StringKeys
import Derived.Shelf.Abstract
import Derived.Test.YtccdfndnjjjgfaaGreatDoorTurning
import Derived.Test.YtccdfndnjjjgfaaGreatDoorPlacesSpec
import Derived.Test.YtccdfndnjjjgfaaGreatDoorRunPure
import Derived.Test.YtccdfndnjjjgfaaGreatDoorPure
import Derived.Test.YtccdfndnjjjgfaaGreatDoorTabs
import Derived.Test.YtccdfndnjjjgfaaGreatDoorRows
import Derived.WalkKit
import Derived.ProofKit
import Derived.OpenShut
import Derived.Carry
import Derived.WalkSmall
import Derived.MakeChecks
import Derived.Deep.DeepHandedRow
import Derived.Lib.LaidTab
import Derived.Test.YtccdfndnjjjgfaaGreatDoorDeedImpl
import Derived.Test.YtccdfndnjjjgfaaGreatDoorDeskAt
import Derived.SliceStrings
import Derived.Lib.SmallJoins
import Derived.Test.YtccdfndnjjjgfaaGreatDoorMarks
import Derived.Deep.DeepCutAuto
import Derived.Test.YtccdfndnjjjgfaaGreatDoorCards
import Derived.Test.YtccdfndnjjjgfaaGreatDoorTie

namespace Go.Proofs.YtccdfndnjjjgfaaGreatDoor
open Go.RowKit Go.Maps Go.WideMaps Go.ChangeShapes Go.WideShapes Go.MapKept Go.ChangeMaps

/-- What a map of numbers by places holds: F at each place, 0 where it has no entry; and its keys are places. -/
def NumMap (D : DataW Unit) (F : Int → Int → Int) : Prop := (∀ p, near p → D.atKey (placeKey p) (.lit (.int .i64 0)) = .lit (.int .i64 (F p.1 p.2))) ∧ ∀ kl, Maps.has D kl = true → ∃ p, near p ∧ kl = placeKey p
theorem NumMap.empty : NumMap (.map []) (fun _ _ => 0) := ⟨fun _ _ => rfl, fun kl h => by cases h⟩
theorem NumMap.put {D : DataW Unit} {F : Int → Int → Int} (h : NumMap D F) (hD : IsMap D) {q : Int × Int} (hq : near q) (c : Int) : NumMap (D.put (placeKey q) (.lit (.int .i64 c))) (fun x y => if x = q.1 ∧ y = q.2 then c else F x y) := by
  refine ⟨fun p hp => ?_, fun kl hk => ?_⟩
  · by_cases hpq : p = q
    · subst hpq
      rw [atKey_put_same hD (isKey_place p)]
      show _ = DataW.lit (Lit.int .i64 (if p.1 = p.1 ∧ p.2 = p.2 then c else F p.1 p.2))
      rw [if_pos ⟨rfl, rfl⟩]
    · rw [atKey_put_other (fun e => hpq (placeKey_inj hp hq e)), h.1 p hp]
      show _ = DataW.lit (Lit.int .i64 (if p.1 = q.1 ∧ p.2 = q.2 then c else F p.1 p.2))
      rw [if_neg (fun e => hpq (Prod.ext e.1 e.2))]
  · by_cases hkq : kl = placeKey q
    · exact ⟨q, hq, hkq⟩
    · rw [has_put_other hkq] at hk
      exact h.2 kl hk

theorem setBlock_same {w : World} {b : Nat} {o : Obj} (h : w.heap[b]? = some o) : setBlock w b o = w := by
  have e : w.heap.setIfInBounds b o = w.heap := by
    apply Array.ext_getElem?
    intro i
    rw [Array.getElem?_setIfInBounds]
    split
    · rename_i hi
      subst hi
      rw [h]
      have := (Array.getElem?_eq_some_iff.1 h).1
      rw [if_pos this]
    · rfl
  unfold setBlock
  rw [e]
theorem setBlock_twice {w : World} {b : Nat} {o p : Obj} : setBlock (setBlock w b o) b p = setBlock w b p := by
  unfold setBlock
  simp
theorem run_one {α : Type} {m : Sem α} {P : Program} {w w1 w2 : World} {x y : α} (h : m.run P w = .ok x w1) (k : m.run P w = .ok y w2) : w1 = w2 := by
  rw [h] at k
  injection k
section
variable {P : Program} {w : World} {t k e : TypeId} {b n : Nat} {D : DataW Unit}
/-- 'm[k] += v': the entry is made, if there is none, and reads as before; and a number is stored into it. -/
theorem entry_own (K : KeyLaw P k) (K2 : Keyed P k) (ht : P.underlying t = some (.map k e)) (he : P.underlying e = some (.int .i64)) (hz : ∀ u : World, (zeroValue e).run P u = .ok (.int .i64 0) u) (h : w.ownsMap P k (plainElem P e) b n D) (hn : n < maxLen)
    {key : Value} {kl : Lit} (hkey : keyOf P k key = some kl) {c : Int} (hat : D.atKey kl (.lit (.int .i64 0)) = .lit (.int .i64 c)) :
    ∃ (st : Value) (v0 : Value) (w1 : World), (Instr.lookup t (.map (some b)) key false).run P w = .ok (.int .i64 c) w ∧ (Instr.mapEntry t (.map (some b)) key).run P w = .ok (.tuple #[v0, st]) w1 ∧ (Instr.lookup t (.map (some b)) key false).run P w1 = .ok (.int .i64 c) w1 ∧ w.grownBy w1 (some b) ∧
      ∀ v, (Lit.int .i64 v).wf = true → ∃ w2, (Instr.entryStore t (.map (some b)) st (.int .i64 v)).run P w1 = .ok () w2 ∧ w2.ownsMap P k (plainElem P e) b (n + 1) (D.put kl (.lit (.int .i64 v))) ∧ w.grownBy w2 (some b) := by
  obtain ⟨c', hl, hat', _⟩ := h.lookup_int K2 ht he (hz w) hkey
  have hcc : c' = c := by
    rw [hat] at hat'
    simpa using hat'.symm
  subst hcc
  have hown := h
  obtain ⟨es, clock, hb, F, hs, hD⟩ := h
  have hsto : ∀ (w1 : World) (st : Nat) (es1 : Array MapEntry) (clock1 : Nat), w1 = setBlock w b (.map es1 clock1) → w1.heap[b]? = some (.map es1 clock1) →
      (∀ (w2 : World) (val : Value), w2.heap[b]? = some (.map es1 clock1) → ∃ es' clock', (Instr.entryStore t (.map (some b)) (goInt st) val).run P w2 = .ok () (setBlock w2 b (.map es' clock')) ∧ (Instr.mapUpdate t (.map (some b)) key val).run P w = .ok () (setBlock w b (.map es' clock'))) →
      ∀ v, (Lit.int .i64 v).wf = true → ∃ w2, (Instr.entryStore t (.map (some b)) (goInt st) (.int .i64 v)).run P w1 = .ok () w2 ∧ w2.ownsMap P k (plainElem P e) b (n + 1) (D.put kl (.lit (.int .i64 v))) ∧ w.grownBy w2 (some b) := by
    intro w1 st es1 clock1 hw1 hb1 hst v hv
    obtain ⟨es', clock', r1, r2⟩ := hst w1 (.int .i64 v) hb1
    obtain ⟨w2, s1, s2, s3⟩ := hown.update K2 ht hn hkey (plainElem_int he hv)
    have ew := run_one s1 r2
    refine ⟨_, r1, ?_⟩
    rw [hw1, setBlock_twice, ← ew]
    exact ⟨s2, s3⟩
  obtain ⟨s1, s2, _⟩ := F.stamped
  obtain ⟨v0, st, es1, clock1, hrun, halt, hst⟩ := Go.WideElems.entry_then_store (P := P) (w := w) K ht hz hb F hkey
  have hb1 : (setBlock w b (.map es1 clock1)).heap[b]? = some (.map es1 clock1) := heap_setBlock_same hb _
  have hlook : (Instr.lookup t (.map (some b)) key false).run P (setBlock w b (.map es1 clock1)) = .ok (.int .i64 c') (setBlock w b (.map es1 clock1)) := by
    rcases K.find w hkey es.toList F.keys with ⟨h1, h2⟩ | ⟨j, e0, h1, h2, h3⟩
    · have r1 : (Instr.mapEntry t (.map (some b)) key).run P w = .ok (.tuple #[.int .i64 0, goInt clock]) (setBlock w b (.map (es.push ⟨key, .int .i64 0, clock⟩) (clock + 1))) := by
        simp [Instr.mapEntry, run_underlying ht, MapKept.run_getObj_map hb, K.check w false hkey, h1, hz, MapKept.run_setObj_map _ hb, Result.andThen, setBlock]
      have r2 : (Instr.mapUpdate t (.map (some b)) key (.int .i64 0)).run P w = .ok () (setBlock w b (.map (es.push ⟨key, .int .i64 0, clock⟩) (clock + 1))) := by
        simp [Instr.mapUpdate, run_underlying ht, MapKept.run_getObj_map hb, K.check w false hkey, h1, MapKept.run_setObj_map _ hb, Result.andThen, setBlock]
      have r3 : (Instr.lookup t (.map (some b)) key false).run P w = .ok (.int .i64 0) w := by
        simp [Instr.lookup, run_underlying ht, MapKept.run_getObj_map hb, K.check w _ hkey, h1, hz, Result.andThen]
      have ec : c' = 0 := by
        rw [hl] at r3
        injection r3 with e1 e2
        injection e1
      obtain ⟨w2, q1, q2, q3⟩ := hown.update K2 ht hn hkey (plainElem_int he (a := 0) (by decide))
      have e1 := run_one hrun r1
      have e2 := run_one q1 r2
      rw [e1, ← e2]
      obtain ⟨c2, l1, l2, _⟩ := q2.lookup_int K2 ht he (hz w2) hkey
      rw [atKey_put_same hown.isMap (K2.key hkey)] at l2
      have : c2 = 0 := by simpa using l2.symm
      rw [l1, this, ec]
    · have hj : es[j]? = some e0 := by simpa using h2
      have hsame : es.modify j (fun e => { e with key := key }) = es := by
        apply Array.ext'
        rw [Array.toList_modify, modify_eq_set _ _ _ _ h2]
        have : ({ e0 with key := key } : MapEntry) = e0 := by rw [← h3]
        rw [this]
        exact Go.WideElems.set_self _ _ _ h2
      have r1 : (Instr.mapEntry t (.map (some b)) key).run P w = .ok (.tuple #[e0.val, goInt e0.born]) (setBlock w b (.map es clock)) := by
        simp [Instr.mapEntry, run_underlying ht, MapKept.run_getObj_map hb, K.check w false hkey, h1, hj, h3, K.stays w hkey, hsame, MapKept.run_setObj_map _ hb, Result.andThen, setBlock]
      have e1 := run_one hrun r1
      rw [e1, setBlock_same hb]
      exact hl
  refine ⟨goInt st, v0, _, hl, hrun, hlook, ⟨rfl, rfl, rfl, by simp [setBlock], fun i _ hi => heap_setBlock_other hb _ (fun e => hi (by rw [e]))⟩, hsto _ st es1 clock1 rfl hb1 hst⟩
end

end Go.Proofs.YtccdfndnjjjgfaaGreatDoor

namespace Go.Proofs.YtccdfndnjjjgfaaGreatDoor
open Go.RowKit Go.Maps Go.WideMaps

theorem twoRow : (129 : TypeId) < Tryz.prog.types.size := of_decide_eq_true (by kernel_rfl)
theorem twoWide : (match Tryz.prog.underlying 129 with | some (.array _ _) | some (.struct _) => true | _ => false) = true := by rw [Tryz.underlying129]
set_option maxRecDepth 100000 in
theorem twoKey : KeyLaw Tryz.prog 129 := deep_law_laid laidKeys (m := 2) (by omega) twoRow (by kernel_rfl) twoWide
theorem twoLaw : Keyed Tryz.prog 129 := Keyed.of_law twoKey
theorem twoKeyType : Tryz.prog.keyType 129 = true := by kernel_rfl
theorem twoCells : Tryz.prog.cellsOf 129 = 2 := by kernel_rfl
theorem keyOf_two (p : Int × Int) (h : near p) : keyOf Tryz.prog 129 (placeVal p) = some (placeKey p) := by
  obtain ⟨h1, h2, h3, h4⟩ := h
  have w1 : (Lit.int .i64 p.1).wf = true := WalkArith.wf_i64 (by omega)
  have w2 : (Lit.int .i64 p.2).wf = true := WalkArith.wf_i64 (by omega)
  obtain ⟨m, hm⟩ := typesMore
  unfold keyOf placeVal
  simp only [Tryz.underlying129]
  rw [if_pos (by simp [twoKeyType, Value.formed, Tryz.underlying129, twoCells]), hm]
  simp [Program.keyLits, Tryz.underlying129, twoCells, intCells, Tryz.underlying3, List.range_succ, w1, w2, placeKey, Value.cells]
theorem zero_int (w : World) : (zeroValue 3).run Tryz.prog w = .ok (.int .i64 0) w := by kernel_rfl

/-- The windings that are laid after some steps, the last one up to a place. -/
def laidF (us : List (Int × Int × Int)) (lx : Int) (u : Int × Int × Int) (X : Int) (x y : Int) : Int := (if lx ≤ x then Tw.wind us x y else 0) + (if y = u.2.1 ∧ lx ≤ x ∧ x < X then u.2.2 else 0)
/-- The memory of windingsOf in its loops. -/
structure WSt (w w3 : World) (N g : Nat) (lx ly : Int) (n : Nat) (D : DataW Unit) (W : World) : Prop where
  owns : W.ownsMap Tryz.prog 129 (plainElem Tryz.prog 3) w.heap.size n D
  rn : W.heap[N]? = some (rowOf lx ly)
  sg : W.heap[g]? = w3.heap[g]?
  below : Below w.heap.size w W
  gm : w.heap.size < g
  nm : w.heap.size < N
  lt : w3.heap.size ≤ W.heap.size
  glt : g < w3.heap.size
def upRow (u : Int × Int × Int) : Obj := .cells #[.int .i64 u.1, .int .i64 u.2.1, .int .i64 u.2.2] 154 (0, 0)
theorem WSt.alloc {w w3 W : World} {N g n : Nat} {lx ly : Int} {D : DataW Unit} (h : WSt w w3 N g lx ly n D W) (o : Obj) : WSt w w3 N g lx ly n D (W.alloc o) :=
  ⟨h.owns.alloc o, heap_alloc_old' h.rn, (heap_alloc_at (Nat.lt_of_lt_of_le h.glt h.lt)).trans h.sg, h.below.alloc h.below.size o, h.gm, h.nm, by have := h.lt; simp; omega, h.glt⟩
theorem WSt.grown {w w3 W W2 : World} {N g n n2 : Nat} {lx ly : Int} {D D2 : DataW Unit} (h : WSt w w3 N g lx ly n D W) (hg : W.grownBy W2 (some w.heap.size)) (ho : W2.ownsMap Tryz.prog 129 (plainElem Tryz.prog 3) w.heap.size n2 D2) : WSt w w3 N g lx ly n2 D2 W2 := by
  have hN : N < W.heap.size := lt_of_heap h.rn
  refine ⟨ho, ?_, ?_, h.below.grown hg h.below.size (fun j hj => by cases hj; exact Nat.le_refl _), h.gm, h.nm, Nat.le_trans h.lt hg.size, h.glt⟩
  · exact (hg.block N hN (fun e => by cases e; exact absurd h.nm (Nat.lt_irrefl _))).trans h.rn
  · exact (hg.block g (Nat.lt_of_lt_of_le h.glt h.lt) (fun e => by cases e; exact absurd h.gm (Nat.lt_irrefl _))).trans h.sg
theorem WSt.drew {w w3 W : World} {N g n : Nat} {lx ly : Int} {D : DataW Unit} (h : WSt w w3 N g lx ly n D W) : WSt w w3 N g lx ly n D W.drew := ⟨h.owns.drew, h.rn, h.sg, h.below.drew, h.gm, h.nm, h.lt, h.glt⟩
def WindOut (s : ByteArray) (w : World) (e : Ending) (w' : World) : Prop := ∃ (lx : Int) (n : Nat) (D : DataW Unit), e = .returned (.map (some w.heap.size)) ∧ w'.ownsMap Tryz.prog 129 (plainElem Tryz.prog 3) w.heap.size n D ∧ NumMap D (fun x y => if lx ≤ x then Tw.wind (Tw.ups s.data.toList) x y else 0) ∧ (∀ u ∈ Tw.ups s.data.toList, lx ≤ u.1) ∧ Below w.heap.size w w'
set_option maxRecDepth 100000 in
set_option maxHeartbeats 3200000 in
theorem windings_any (s : ByteArray) (w : World) (hw : DirsAt w) (hcl : Tw.closed s.data.toList = true) :
    Calls Tryz.prog 150 #[.string s] w (WindOut s w) := by
  have HOK := Lib.hid (Tw.closed_ok hcl)
  have HCL := Lib.hid hcl
  have h40 : s.size ≤ 40 := by have := Tw.walkOk_len HOK.out; rwa [size_data] at this
  have hmm := @run_makeMap Tryz.prog
  have HMK : Hid (∀ W, W = w.alloc (.map #[] 0) → DirsAt W) := fun W h => h ▸ hw.below' ((Below.refl _ _).alloc (Nat.le_refl _) _)
  have HNR : Hid (∀ u ∈ Tw.ups s.data.toList, -20 ≤ u.1 ∧ u.1 ≤ 20 ∧ -20 ≤ u.2.1 ∧ u.2.1 ≤ 19) := fun u hu => Tw.ups_near hcl hu
  have HSG : Hid (∀ u ∈ Tw.ups s.data.toList, u.2.2 = 1 ∨ u.2.2 = -1) := Tw.ups_signs
  have HUL : Hid ((Tw.ups s.data.toList).length ≤ 40) := by have := Tw.ups_len s.data.toList (0, 0); rw [size_data] at this; exact Nat.le_trans this h40
  have HAT : Hid (∀ u ∈ Tw.ups s.data.toList, ∃ k, k ≤ s.size ∧ u.1 = (Tw.placeAt s.data.toList k).1) := fun u hu => by
    obtain ⟨k, hk, h1, _⟩ := Tw.ups_at hu
    rw [size_data] at hk
    exact ⟨k, by omega, h1⟩
  obtain ⟨us, hus⟩ : ∃ us, Tw.ups s.data.toList = us := ⟨_, rfl⟩
  have HUS := Lib.hid hus
  rw [hus] at HNR HSG HUL HAT
  clear hw hcl hus
  go_enter Tryz.func150, Tryz.ntmps150
  go_upto_region 3 with (first
    | (go_at_call 168; refine (bounds_any s _ (HMK.out _ rfl) HCL.out).mono ?_; rintro e w1 ⟨lx, ly, hx, hy, rfl, hin, hbd, hb1⟩))
  have HIN := Lib.hid hin
  have HBD := Lib.hid hbd
  have HB1 := Lib.hid hb1
  clear hin hbd hb1
  refine wp_at_world (F := fun W2 => W2.ownsMap Tryz.prog 129 (plainElem (H := Unit) Tryz.prog 3) w.heap.size 0 (.map []) ∧ W2.heap[w1.heap.size]? = some (rowOf lx ly) ∧ Below w.heap.size w W2 ∧ w1.heap.size < W2.heap.size ∧ w.heap.size < w1.heap.size ∧ DirsAt W2) ?_ ?_
  · have hm := World.ownsMap_made (H := Unit) w Tryz.prog 129 (plainElem Tryz.prog 3)
    have hb1 := HB1.out
    have hm1 := hm.kept (grown_of_below hb1 none) (by simp)
    have hs := hb1.size
    simp at hs
    have hbw : Below w.heap.size w w1 := ((Below.refl w.heap.size w).alloc (Nat.le_refl _) _).trans (hb1.mono (by simp))
    have hd1 := (HMK.out _ rfl).below' hb1
    exact ⟨(hm1.alloc _).alloc _, heap_alloc_old' (heap_alloc_new _ _), (hbw.alloc hbw.size _).alloc (by simp; omega) _, by simp; omega, by omega, (hd1.alloc _).alloc _⟩
  · rintro W2 ⟨hm2, hr2, hb2, hl2, hn2, hd2⟩
    have HM2 := Lib.hid hm2
    have HR2 := Lib.hid hr2
    have HB2 := Lib.hid hb2
    have HD2 := Lib.hid hd2
    clear hm2 hr2 hb2 hd2
    go_wp2_with (go_at_call 149; refine (uprights_all s _ HD2.out HOK.out).mono ?_; rintro e w3 ⟨v, rfl, hown3, hb3⟩; rw [HUS.out] at hown3; have HB3 := Lib.hid hb3; clear hb3; rcases own_shape hown3 with ⟨rfl, rfl⟩ | ⟨g, cap, rfl⟩)
    · refine wp_loop_rounds 1 ?_
      rw [rounds_succ]
      go_wp2
      go_ret
      refine ⟨lx, 0, .map [], rfl, HM2.out.kept (grown_of_below HB3.out none) (by simp), ?_, ?_, HB2.out.trans (HB3.out.mono HB2.out.size)⟩
      · rw [HUS.out]
        have e : (fun x y : Int => if lx ≤ x then Tw.wind [] x y else 0) = fun _ _ => 0 := by
          funext x y
          rw [Tw.wind_nil]
          split <;> rfl
        rw [e]
        exact NumMap.empty
      · rw [HUS.out]
        intro u hu
        cases hu
    · obtain ⟨n, hn⟩ : ∃ n, us.length = n := ⟨_, rfl⟩
      have hn40 : n ≤ 40 := hn ▸ HUL.out
      rw [hn] at hown3 ⊢
      have HN := Lib.hid hn
      have HO3 := Lib.hid hown3
      have hg3 := hown3.lt g rfl
      have hs2 := HB2.out.size
      have hs3 := HB3.out.size
      have hg1 : w.heap.size < g := by omega
      have hg2 : g < w3.heap.size := hg3.2
      have hst : WSt w w3 w1.heap.size g lx ly 0 (.map []) w3 := ⟨HM2.out.kept (grown_of_below HB3.out none) (by simp), (HB3.out.block _ hl2).trans HR2.out, rfl, HB2.out.trans (HB3.out.mono HB2.out.size), hg1, hn2, Nat.le_refl _, hg2⟩
      have HST := Lib.hid hst
      have hin := HIN.out
      unfold within20 at hin
      have hlx0 := hin.1
      have hlx1 := hin.2.1
      clear hn hown3 hst hg3 hs2 hs3 hg1 hg2 hin hl2 hn2
      go_loopw [7, 8, 18] (fun _ _ i wr => ∃ (j m : Nat) (D : DataW Unit), i = .int .i64 j ∧ j ≤ n ∧ m ≤ 64 * j ∧ Hid (WSt w w3 w1.heap.size g lx ly m D wr) ∧ Hid (NumMap D (fun x y => if lx ≤ x then Tw.wind (us.take j) x y else 0))) (fun _ _ i _ => n - (intOf i).toNat)
      case atStart =>
        refine ⟨0, 0, .map [], rfl, Nat.zero_le _, Nat.le_refl _, HST, ?_⟩
        have e : (fun x y : Int => if lx ≤ x then Tw.wind (us.take 0) x y else 0) = fun _ _ => 0 := by
          funext x y
          rw [List.take_zero, Tw.wind_nil]
          split <;> rfl
        show NumMap _ _
        rw [e]
        exact NumMap.empty
      case round =>
        obtain ⟨j, m, D, rfl, hj, hm, HS, HF⟩ := hrel
        by_cases hlt : j < n
        · obtain ⟨⟨ux, uy, uz⟩, hu⟩ : ∃ u, us[j]? = some u := ⟨us[j]'(by rw [HN.out]; exact hlt), List.getElem?_eq_getElem _⟩
          have hmem := List.mem_of_getElem? hu
          obtain ⟨q0, q1, q2⟩ := triCells_get us j _ hu
          have c0 := (cell_same (i := j * 3) HS.out.sg).trans (own_cell HO3.out q0)
          have c1 := (cell_same (i := j * 3 + 1) HS.out.sg).trans (own_cell HO3.out q1)
          have c2 := (cell_same (i := j * 3 + 2) HS.out.sg).trans (own_cell HO3.out q2)
          have hnr := HNR.out _ hmem
          have hsg := HSG.out _ hmem
          obtain ⟨k, hk, hkx⟩ := HAT.out _ hmem
          have hlu := (HBD.out k (by omega)).1
          rw [← hkx] at hlu
          simp only at hnr hsg hlu c0 c1 c2
          have HU := Lib.hid hu
          have hj0 : (0 : Int) ≤ (j : Int) := by omega
          have hj1 : (j : Int) < (n : Int) := by omega
          clear hu hmem q0 q1 q2 hkx hk
          go_upto_region 6 with (fail)
          refine wp_at_world (F := fun W5 => WSt w w3 w1.heap.size g lx ly m D W5 ∧ W5.heap[wr.heap.size]? = some (upRow (ux, uy, uz))) ⟨HS.out.alloc _, heap_alloc_new _ _⟩ ?_
          rintro W5 ⟨hs5, hr5⟩
          have HS5 := Lib.hid hs5
          have HR5 := Lib.hid hr5
          have a0 := cell_of_row _ _ 0 _ _ _ hs5.rn
          clear hs5 hr5 c0 c1 c2
          go_wp2_with fail
          go_loopw [8] (fun xv wq => ∃ (X : Int) (i : Nat) (D2 : DataW Unit), xv = .int .i64 X ∧ lx ≤ X ∧ X ≤ ux ∧ (i : Int) ≤ 64 * (j : Int) + (X - lx) ∧ Hid (WSt w w3 w1.heap.size g lx ly i D2 wq) ∧ Hid (wq.heap[wr.heap.size]? = some (upRow (ux, uy, uz))) ∧ Hid (NumMap D2 (laidF (us.take j) lx (ux, uy, uz) X))) (fun xv _ => (ux - intOf xv).toNat)
          case atStart =>
            refine ⟨lx, m, D, rfl, Int.le_refl _, hlu, by omega, HS5, HR5, ?_⟩
            have e : laidF (us.take j) lx (ux, uy, uz) lx = fun x y => if lx ≤ x then Tw.wind (us.take j) x y else 0 := by
              funext x y
              unfold laidF
              rw [if_neg (fun h : y = uy ∧ lx ≤ x ∧ x < lx => by omega), Int.add_zero]
            show NumMap _ _
            rw [e]
            exact HF.out
          case round =>
            obtain ⟨X, i, D2, rfl, hX0, hX1, hi, HSQ, HRQ, HFQ⟩ := hrel
            have u0 := cell_of_row _ _ 0 _ _ _ HRQ.out
            have u1 := cell_of_row _ _ 1 _ _ _ HRQ.out
            have u2 := cell_of_row _ _ 2 _ _ _ HRQ.out
            by_cases hXu : X < ux
            · have hbound : -41 ≤ laidF (us.take j) lx (ux, uy, uz) X X uy ∧ laidF (us.take j) lx (ux, uy, uz) X X uy ≤ 41 := by
                have hw := Tw.wind_farther (us.take j) X uy (fun u hu => HSG.out u (List.mem_of_mem_take hu))
                have hl : (us.take j).length ≤ 40 := by rw [List.length_take]; omega
                unfold laidF
                repeat' split
                all_goals omega
              have hat := HFQ.out.1 (X, uy) (by unfold near; simp only; omega)
              simp only at hat
              obtain ⟨c, hc⟩ : ∃ c, laidF (us.take j) lx (ux, uy, uz) X X uy = c := ⟨_, rfl⟩
              rw [hc] at hat hbound
              have HCC := Lib.hid hc
              obtain ⟨st, v0, W1, e1, e2, e3, g1, est⟩ := entry_own twoKey twoLaw Tryz.underlying155 Tryz.underlying3 zero_int (HSQ.out.owns.drew) (by unfold maxLen; omega) (keyOf_two (X, uy) (by unfold near; simp only; omega)) hat
              obtain ⟨Wf, e4, ho, g2⟩ := est (c + uz) (WalkArith.wf_i64 (by omega))
              have hz : IntKind.i64.wrap (c + uz) = c + uz := IntWalk.i64_in _ (by omega)
              have HO := Lib.hid ho
              have HG2 := Lib.hid g2
              unfold placeVal at e1 e2 e3
              simp only at e1 e2 e3
              clear hc hat est ho g1 g2
              go_wp2_with fail
              go_region
              go_wp2
              go_roundw
              case rel =>
                refine ⟨X + 1, i + 1, _, rfl, by omega, by omega, by omega, HSQ.out.drew.grown HG2.out HO.out, ?_, ?_⟩
                · have hA := lt_of_heap HRQ.out
                  refine (HG2.out.block _ hA (fun e => ?_)).trans HRQ.out
                  have e2 := Option.some.inj e
                  have := HS.out.owns.lt
                  omega
                · have hp := HFQ.out.put HSQ.out.owns.isMap (q := (X, uy)) (by unfold near; simp only; omega) (c + uz)
                  have e : (fun x y => if x = (X, uy).1 ∧ y = (X, uy).2 then c + uz else laidF (us.take j) lx (ux, uy, uz) X x y) = laidF (us.take j) lx (ux, uy, uz) (X + 1) := by
                    funext x y
                    rw [← HCC.out]
                    show (if x = X ∧ y = uy then _ else _) = _
                    by_cases hxy : x = X ∧ y = uy
                    · rw [if_pos hxy, hxy.1, hxy.2]
                      unfold laidF
                      rw [if_neg (fun h : uy = uy ∧ lx ≤ X ∧ X < X => by omega), if_pos (show uy = uy ∧ lx ≤ X ∧ X < X + 1 from ⟨rfl, hX0, by omega⟩)]
                      simp
                    · rw [if_neg hxy]
                      have key : (if y = uy ∧ lx ≤ x ∧ x < X then uz else 0) = (if y = uy ∧ lx ≤ x ∧ x < X + 1 then uz else 0) := by
                        by_cases h1 : y = uy ∧ lx ≤ x ∧ x < X
                        · rw [if_pos h1, if_pos ⟨h1.1, h1.2.1, by omega⟩]
                        · rw [if_neg h1, if_neg (fun h2 : y = uy ∧ lx ≤ x ∧ x < X + 1 => h1 ⟨h2.1, h2.2.1, by
                            have : x ≠ X := fun e => hxy ⟨e, h2.1⟩
                            omega⟩)]
                      show (if lx ≤ x then Tw.wind (us.take j) x y else 0) + (if y = uy ∧ lx ≤ x ∧ x < X then uz else 0) = (if lx ≤ x then Tw.wind (us.take j) x y else 0) + (if y = uy ∧ lx ≤ x ∧ x < X + 1 then uz else 0)
                      rw [key]
                  rw [e] at hp
                  exact hp
              case measure => simp [intOf]; omega
            · obtain rfl : X = ux := by omega
              go_wp2_with fail
              go_roundw
              case rel =>
                refine ⟨j + 1, i, D2, by go_num, by omega, by omega, HSQ, ?_⟩
                have e : laidF (us.take j) lx (X, uy, uz) X = fun x y => if lx ≤ x then Tw.wind (us.take (j + 1)) x y else 0 := by
                  funext x y
                  unfold laidF
                  rw [List.take_add_one, HU.out, show (some (X, uy, uz)).toList = [(X, uy, uz)] from rfl, Tw.wind_append, Tw.wind_one]
                  unfold Tw.oneWind
                  simp only
                  repeat' split
                  all_goals omega
                show NumMap _ _
                rw [← e]
                exact HFQ.out
              case measure => simp [intOf]; omega
        · obtain rfl : j = n := by omega
          go_wp2
          go_ret
          have e : us.take j = us := List.take_of_length_le (by rw [HN.out]; exact Nat.le_refl _)
          have hf := HF.out
          rw [e] at hf
          refine ⟨lx, m, D, rfl, HS.out.owns, by rw [HUS.out]; exact hf, ?_, HS.out.below⟩
          rw [HUS.out]
          intro u hu
          obtain ⟨k, hk, hkx⟩ := HAT.out _ hu
          rw [hkx]
          exact (HBD.out k (by omega)).1

end Go.Proofs.YtccdfndnjjjgfaaGreatDoor

namespace Go.Proofs.YtccdfndnjjjgfaaGreatDoor
open Go.RowKit Go.Maps Go.WideMaps

set_option maxHeartbeats 800000 in
theorem withoutSign_any (n : Int) (h : -1000 ≤ n ∧ n ≤ 1000) (w : World) : Calls Tryz.prog 151 #[.int .i64 n] w fun e w' => e = .returned (.int .i64 (max n (-n))) ∧ w = w' := by
  go_enter Tryz.func151, Tryz.ntmps151
  go_wp2
  go_ret
  exact ⟨rfl, rfl⟩
set_option maxRecDepth 100000 in
set_option maxHeartbeats 3200000 in
theorem implMost (s : ByteArray) (w : World) (hs : s.size ≤ 1048576) (hw : DirsAt w) :
    Calls Tryz.prog 128 #[.string s] w fun e w' => e = .returned (.int .i64 (Tw.mostRes s.data.toList)) ∧ Below w.heap.size w w' := by
  have hc := implClosedOk s w hs hw
  cases hcl : Tw.closed s.data.toList
  · rw [hcl] at hc
    have HC := Lib.hid hc
    have HCL := Lib.hid hcl
    clear hc hcl
    go_enter Tryz.func128, Tryz.ntmps128
    go_wp2_with (first
      | (go_at_call 123; refine HC.out.mono ?_; rintro e w1 ⟨rfl, hb1⟩))
    go_ret
    exact ⟨by unfold Tw.mostRes; rw [HCL.out]; rfl, hb1⟩
  · rw [hcl] at hc
    have HC := Lib.hid hc
    have HCL := Lib.hid hcl
    have HWT := Lib.hid (fun x y => Tw.wind_farther (Tw.ups s.data.toList) x y Tw.ups_signs)
    have HUL : Hid ((Tw.ups s.data.toList).length ≤ 40) := by
      have h1 := Tw.ups_len s.data.toList (0, 0)
      have h2 := Tw.walkOk_len (Tw.closed_ok hcl)
      exact Nat.le_trans h1 h2
    have HWW : Hid (∀ lx x y, (∀ u ∈ Tw.ups s.data.toList, lx ≤ u.1) → x < lx → Tw.wind (Tw.ups s.data.toList) x y = 0) := fun lx x y h hx => Tw.wind_west hcl (fun u hu => by have := h u hu; omega)
    have HWO : Hid (∀ x y, x < -20 ∨ 20 ≤ x ∨ y < -20 ∨ 20 ≤ y → Tw.wind (Tw.ups s.data.toList) x y = 0) := fun x y h => Tw.wind_out hcl h
    clear hc hcl
    go_enter Tryz.func128, Tryz.ntmps128
    go_wp2_with (first
      | (go_at_call 123; refine HC.out.mono ?_; rintro e w1 ⟨rfl, hb1⟩)
      | (go_at_call 150; refine (windings_any s _ (hw.below' hb1) HCL.out).mono ?_; rintro e w2 ⟨lx, n, D, rfl, hown, hnum, hlx, hb2⟩)
      | (at_range; refine wpList_range_own _ rfl _ 155 rfl 129 3 twoLaw Tryz.underlying155 (plainElem (H := Unit) Tryz.prog 3) _ n D rfl hown ?_; intro w3 hrg0 hg0 hs0))
    go_frame
    obtain ⟨us, hus⟩ : ∃ us, Tw.ups s.data.toList = us := ⟨_, rfl⟩
    have HNUM : Hid (NumMap D (fun x y => if lx ≤ x then Tw.wind us x y else 0)) := by rw [← hus]; exact hnum
    have HLX : Hid (∀ u ∈ us, lx ≤ u.1) := by rw [← hus]; exact hlx
    have HUS := Lib.hid hus
    rw [hus] at HWT HUL HWW HWO
    have hb12 := hb1.trans (hb2.mono hb1.size)
    have HB3 : Hid (Below w.heap.size w w3) := hb12.grown hg0 hb12.size (fun j hj => by cases hj)
    have hr1 : w.heap.size ≤ w2.heap.size := hb12.size
    have hlt1 : w1.heap.size < w2.heap.size := hown.lt
    clear hus hnum hlx hb2 hown hg0 hs0 hb12
    go_loopw [3, 5] (fun m _ wr => ∃ (left : Lit → Bool) (cnt : Nat) (M : Int), m = .int .i64 M ∧ 0 ≤ M ∧ M ≤ 1000 ∧ wr.ranges Tryz.prog 129 (plainElem Tryz.prog 3) w1.heap.size w2.heap.size n D left cnt ∧ Hid (∀ p, near p → Maps.has D (placeKey p) = true → left (placeKey p) = false → (if lx ≤ p.1 then Tw.wind us p.1 p.2 else 0) ≤ M ∧ -(if lx ≤ p.1 then Tw.wind us p.1 p.2 else 0) ≤ M) ∧ Hid (M = 0 ∨ ∃ x y, Tw.wind us x y = M ∨ -Tw.wind us x y = M) ∧ Below w.heap.size w wr) (fun _ _ wr => wr.rangeLeft w1.heap.size w2.heap.size)
    case atStart => exact ⟨Maps.has D, Maps.size D, 0, rfl, by omega, by omega, hrg0, (fun p _ h1 h2 => by rw [h1] at h2; cases h2), .inl rfl, HB3.out⟩
    case round =>
      obtain ⟨left, cnt, M, rfl, hM0, hM1, hrg, HL, HM, hbr⟩ := hrel
      go_wp2_with (first
        | (at_next; refine wpList_next_ranges _ rfl _ rfl 129 twoLaw (plainElem (H := Unit) Tryz.prog 3) (fun v : Value => v) (fun c : Int => .int .i64 c) (fun key kl _ => ⟨key, rfl⟩) (fun v y h => by obtain ⟨a, rfl, _, _⟩ := plainElem_int_inv Tryz.underlying3 h; exact ⟨a, rfl⟩) w1.heap.size w2.heap.size n D left cnt rfl hrg ?_ ?_))
      · intro hc0 hl0
        go_wp2
        go_ret
        refine ⟨?_, hbr⟩
        have hmost : Tw.Most us M := by
          refine ⟨hM0, fun x y => ?_, HM.out⟩
          by_cases hxy : x < -20 ∨ 20 ≤ x ∨ y < -20 ∨ 20 ≤ y
          · rw [HWO.out x y hxy]
            omega
          · have hnear : near (x, y) := by unfold near; simp only; omega
            have hat := HNUM.out.1 (x, y) hnear
            simp only at hat
            by_cases hxl : lx ≤ x
            · by_cases hh : Maps.has D (placeKey (x, y)) = true
              · have := HL.out (x, y) hnear hh (hl0 _)
                simp only [if_pos hxl] at this
                exact this
              · rw [atKey_of_not_has (by simpa using hh), if_pos hxl] at hat
                have h0 : Tw.wind us x y = 0 := by simpa using hat.symm
                rw [h0]
                omega
            · rw [HWW.out lx x y HLX.out (by omega)]
              omega
        rw [Tw.mostRes_is HCL.out (by rw [HUS.out]; exact hmost)]
        rfl
      · intro x c kl y yp w4 cnt4 hkey hlk hv hat hrg4 hlt4 hg4 hs4 hen
        obtain ⟨a, hva, hz, hwf⟩ := plainElem_int_inv Tryz.underlying3 hv
        cases hva
        cases hz
        have hhas : Maps.has D kl = true := has_true_of_atKey hat
        obtain ⟨p, hp, rfl⟩ := HNUM.out.2 kl hhas
        have hval := HNUM.out.1 p hp
        rw [hat] at hval
        have hc : c = (if lx ≤ p.1 then Tw.wind us p.1 p.2 else 0) := by simpa using hval
        have hwt := HWT.out p.1 p.2
        have hul := HUL.out
        have hcb : -1000 ≤ c ∧ c ≤ 1000 := by
          rw [hc]
          split <;> omega
        have HC2 := Lib.hid hc
        have HRG := Lib.hid hrg4
        have HG4 := Lib.hid hg4
        clear hval hc hwt hat hv hkey hhas hrg4 hg4
        go_wp2_with (first
          | (go_at_call 151; refine (withoutSign_any _ hcb _).mono ?_; rintro e w5 ⟨rfl, rfl⟩))
        go_roundw
        case rel =>
          refine ⟨_, cnt4, max M (max c (-c)), rfl, by omega, by omega, HRG.out, ?_, ?_, hbr.grown HG4.out hbr.size (fun j hj => by cases hj; exact hr1)⟩
          · intro q hq h1 h2
            by_cases hqp : placeKey q = placeKey p
            · obtain rfl := placeKey_inj hq hp hqp
              rw [← HC2.out]
              omega
            · have h3 : left (placeKey q) = false := by
                have h4 : (placeKey q).sameKey (placeKey p) = false := sameKey_ne hqp
                rw [h4] at h2
                simpa using h2
              have := HL.out q hq h1 h3
              omega
          · show _ ∨ _
            rcases HM.out with hm | hm
            · by_cases hz : max c (-c) = 0
              · left
                omega
              · right
                have hcw : lx ≤ p.1 := by
                  by_cases h : lx ≤ p.1
                  · exact h
                  · have := HC2.out
                    rw [if_neg h] at this
                    omega
                have := HC2.out
                rw [if_pos hcw] at this
                exact ⟨p.1, p.2, by omega⟩
            · by_cases hz : max c (-c) ≤ M
              · right
                rw [Int.max_eq_left hz]
                exact hm
              · right
                have hcw : lx ≤ p.1 := by
                  by_cases h : lx ≤ p.1
                  · exact h
                  · have := HC2.out
                    rw [if_neg h] at this
                    omega
                have := HC2.out
                rw [if_pos hcw] at this
                exact ⟨p.1, p.2, by omega⟩
        case measure =>
          rw [HRG.out.left_eq, hrg.left_eq]
          omega

end Go.Proofs.YtccdfndnjjjgfaaGreatDoor

namespace Go.Proofs.YtccdfndnjjjgfaaGreatDoor
open Go.RowKit Go.Maps Go.WideMaps

namespace Tw
/-- How many steps are at a place on a height. -/
def oneAt (x y : Int) (u : Int × Int × Int) : Nat := if u.2.1 = y ∧ u.1 = x then 1 else 0
def atOf (us : List (Int × Int × Int)) (x y : Int) : Nat := (us.map (oneAt x y)).sum
theorem atOf_append (us vs : List (Int × Int × Int)) (x y : Int) : atOf (us ++ vs) x y = atOf us x y + atOf vs x y := by
  unfold atOf
  rw [List.map_append, List.sum_append]
theorem atOf_one (u : Int × Int × Int) (x y : Int) : atOf [u] x y = oneAt x y u := by simp [atOf]
theorem atOf_le : ∀ (us : List (Int × Int × Int)) (x y : Int), atOf us x y ≤ us.length
  | [], _, _ => Nat.le_refl _
  | u :: us, x, y => by
    have ih := atOf_le us x y
    have e : atOf (u :: us) x y = oneAt x y u + atOf us x y := by simp [atOf]
    rw [e, List.length_cons]
    unfold oneAt
    split <;> omega
theorem farther_step : ∀ (us : List (Int × Int × Int)) (x y : Int), farther us (x - 1) y = farther us x y + atOf us x y
  | [], _, _ => rfl
  | u :: us, x, y => by
    have ih := farther_step us x y
    have e1 : farther (u :: us) (x - 1) y = oneOdd (x - 1) y u + farther us (x - 1) y := by simp [farther]
    have e2 : farther (u :: us) x y = oneOdd x y u + farther us x y := by simp [farther]
    have e3 : atOf (u :: us) x y = oneAt x y u + atOf us x y := by simp [atOf]
    rw [e1, e2, e3, ih]
    unfold oneOdd oneAt
    repeat' split
    all_goals omega
end Tw

/-- The uprights as a slice. -/
def UpsAt (w : World) (v : Value) (us : List (Int × Int × Int)) : Prop := (v = .slice none 0 0 ∧ us = []) ∨ ∃ g cap, v = .slice (some ⟨g, 0, none⟩) us.length cap ∧ g < w.heap.size ∧ ∀ j u, us[j]? = some u → w.cell? ⟨g, j * 3, none⟩ = some (.int .i64 u.1) ∧ w.cell? ⟨g, j * 3 + 1, none⟩ = some (.int .i64 u.2.1) ∧ w.cell? ⟨g, j * 3 + 2, none⟩ = some (.int .i64 u.2.2)

/-- What a map of numbers by numbers holds. -/
def IntMap (D : DataW Unit) (F : Int → Int) : Prop := ∀ x, -1000 ≤ x ∧ x ≤ 1000 → D.atKey (.int .i64 x) (.lit (.int .i64 0)) = .lit (.int .i64 (F x))
theorem IntMap.put {D : DataW Unit} {F : Int → Int} (h : IntMap D F) (hD : IsMap D) (q c : Int) (hk : WideAt.IsKeyLit (.int .i64 q)) : IntMap (D.put (.int .i64 q) (.lit (.int .i64 c))) (fun x => if x = q then c else F x) := by
  intro x hx
  by_cases hxq : x = q
  · subst hxq
    rw [atKey_put_same hD hk]
    show _ = DataW.lit (Lit.int .i64 (if x = x then c else F x))
    rw [if_pos rfl]
  · rw [atKey_put_other (fun e => hxq (by cases e; rfl)), h x hx]
    show _ = DataW.lit (Lit.int .i64 (if x = q then c else F x))
    rw [if_neg hxq]
theorem intLaw : Keyed Tryz.prog 3 := int_keyed Tryz.underlying3
theorem World.heap_setCell_row {w : World} {B : Nat} {b : Bool} (h : w.heap[B]? = some (.cells #[.bool b] 4 (0, 0))) (c : Bool) : (w.setCell ⟨B, 0, none⟩ (.bool c)).heap[B]? = some (.cells #[.bool c] 4 (0, 0)) := by
  simp [World.setCell, Array.getElem?_modify, h]
def mapCell (M : Nat) : Obj := .cells #[.map (some M)] 182 (0, 0)
def boolCell (b : Bool) : Obj := .cells #[.bool b] 4 (0, 0)
/-- The memory of a scan. -/
structure Scan (base M A B : Nat) (n : Nat) (D : DataW Unit) (b : Bool) (W : World) : Prop where
  owns : W.ownsMap Tryz.prog 3 (plainElem Tryz.prog 3) M n D
  ra : W.heap[A]? = some (mapCell M)
  rb : W.heap[B]? = some (boolCell b)
  hm : base ≤ M
  ha : base ≤ A
  hb : base ≤ B
  ma : M ≠ A
  mb : M ≠ B
  ab : A ≠ B
theorem Scan.set {base M A B n : Nat} {D : DataW Unit} {b : Bool} {W : World} (h : Scan base M A B n D b W) (c : Bool) : Scan base M A B n D c (W.setCell ⟨B, 0, none⟩ (.bool c)) := by
  refine ⟨h.owns.setCell h.mb _, ?_, ?_, h.hm, h.ha, h.hb, h.ma, h.mb, h.ab⟩
  · rw [heap_setCell_other _ _ _ _ (fun e => h.ab (by simpa using e))]
    exact h.ra
  · have := World.heap_setCell_row h.rb c
    exact this
theorem Scan.grown {base M A B n : Nat} {D : DataW Unit} {b : Bool} {W : World} (_ : Scan base M A B n D b W) (c : Bool) : W.grownBy (W.setCell ⟨B, 0, none⟩ (.bool c)) (some B) :=
  ⟨rfl, rfl, rfl, by simp, fun i _ hi => heap_setCell_other _ _ _ _ (fun e => hi (by rw [e]))⟩
theorem Scan.kept {base M A B n : Nat} {D : DataW Unit} {b : Bool} {W W2 : World} {row : Option Nat} (h : Scan base M A B n D b W) (hg : W.grownBy W2 row) (hM : some M ≠ row) (hA : some A ≠ row) (hB : some B ≠ row) : Scan base M A B n D b W2 :=
  ⟨h.owns.kept hg hM, (hg.block _ (lt_of_heap h.ra) (fun e => hA e)).trans h.ra, (hg.block _ (lt_of_heap h.rb) (fun e => hB e)).trans h.rb, h.hm, h.ha, h.hb, h.ma, h.mb, h.ab⟩
set_option maxRecDepth 100000 in
set_option maxHeartbeats 3200000 in
theorem rowScan_any (v : Value) (us : List (Int × Int × Int)) (y : Int) (w : World) (h : UpsAt w v us) (hl : us.length ≤ 40) (hx : ∀ u ∈ us, -20 ≤ u.1 ∧ u.1 ≤ 20) :
    Calls Tryz.prog 169 #[v, .int .i64 y] w fun e w' => ∃ A B n D, e = .returned (.func (.func 180) #[] #[.pointer (some ⟨A, 0, none⟩), .pointer (some ⟨B, 0, none⟩)]) ∧ Scan w.heap.size w.heap.size A B n D false w' ∧ IntMap D (fun x => (Tw.atOf us x y : Int)) ∧ Below w.heap.size w w' := by
  have hmm := @run_makeMap Tryz.prog
  rcases h with ⟨rfl, rfl⟩ | ⟨g, cap, rfl, hg, hc⟩
  · go_enter Tryz.func169, Tryz.ntmps169
    go_wp2
    refine wp_loop_rounds 1 ?_
    rw [rounds_succ]
    go_wp2
    go_ret
    have hm := World.ownsMap_made (H := Unit) w Tryz.prog 3 (plainElem Tryz.prog 3)
    refine ⟨w.heap.size + 1, w.heap.size + 1 + 1, 0, .map [], rfl, ⟨(hm.alloc _).alloc _, ?_, ?_, Nat.le_refl _, by omega, by omega, by omega, by omega, by omega⟩, fun x _ => rfl, ?_⟩
    · exact heap_alloc_old' (by simpa [mapCell] using heap_alloc_new (w.alloc (.map #[] 0)) _)
    · simpa [boolCell] using heap_alloc_new ((w.alloc (.map #[] 0)).alloc (.cells #[.map (some w.heap.size)] 182)) (.cells #[.bool false] 4)
    · exact (((Below.refl _ _).alloc (Nat.le_refl _) _).alloc (by simp) _).alloc (by simp; omega) _
  · obtain ⟨n, hn⟩ : ∃ n, us.length = n := ⟨_, rfl⟩
    rw [hn] at hl ⊢
    have HN := Lib.hid hn
    have HC := Lib.hid hc
    have HX := Lib.hid hx
    clear hn hc hx
    go_enter Tryz.func169, Tryz.ntmps169
    go_wp2_with fail
    go_loopw [7, 12] (fun _ i wr => ∃ (j m : Nat) (D : DataW Unit), i = .int .i64 j ∧ j ≤ n ∧ m ≤ j ∧ wr.ownsMap Tryz.prog 3 (plainElem Tryz.prog 3) w.heap.size m D ∧ Hid (wr.heap[w.heap.size + 1]? = some (mapCell w.heap.size)) ∧ Hid (IntMap D (fun x => (Tw.atOf (us.take j) x y : Int))) ∧ Below w.heap.size w wr ∧ w.heap.size + 1 < wr.heap.size) (fun _ i _ => n - (intOf i).toNat)
    case atStart =>
      have hm := World.ownsMap_made (H := Unit) w Tryz.prog 3 (plainElem Tryz.prog 3)
      refine ⟨0, 0, .map [], rfl, Nat.zero_le _, Nat.le_refl _, hm.alloc _, ?_, fun x _ => rfl, ((Below.refl _ _).alloc (Nat.le_refl _) _).alloc (by simp) _, by simp⟩
      show _ = _
      simpa [mapCell] using heap_alloc_new (w.alloc (.map #[] 0)) (.cells #[.map (some w.heap.size)] 182)
    case round =>
      obtain ⟨j, m, D, rfl, hj, hm, hown, HRA, HF, hbr, hsz⟩ := hrel
      by_cases hlt : j < n
      · obtain ⟨⟨ux, uy, uz⟩, hu⟩ : ∃ u, us[j]? = some u := ⟨us[j]'(by rw [HN.out]; exact hlt), List.getElem?_eq_getElem _⟩
        obtain ⟨q0, q1, q2⟩ := HC.out j _ hu
        have c0 := (hbr.cell (p := ⟨g, j * 3, none⟩) hg).trans q0
        have c1 := (hbr.cell (p := ⟨g, j * 3 + 1, none⟩) hg).trans q1
        have c2 := (hbr.cell (p := ⟨g, j * 3 + 2, none⟩) hg).trans q2
        have hux := HX.out _ (List.mem_of_getElem? hu)
        simp only at hux c0 c1 c2
        have HU := Lib.hid hu
        have hj0 : (0 : Int) ≤ (j : Int) := by omega
        have hj1 : (j : Int) < (n : Int) := by omega
        clear hu q0 q1 q2
        by_cases hy : uy = y
        · have hb : (uy == y) = true := beq_iff_eq.2 hy
          have HY := Lib.hid hy
          have hle := Tw.atOf_le (us.take j) ux y
          rw [List.length_take] at hle
          have hat := HF.out ux (by omega)
          obtain ⟨c, hc⟩ : ∃ c, Tw.atOf (us.take j) ux y = c := ⟨_, rfl⟩
          simp only at hat
          rw [hc] at hle hat
          have HCC := Lib.hid hc
          have hwf : (Lit.int .i64 ux).wf = true := WalkArith.wf_i64 (by omega)
          have HKEY := Lib.hid (keyOf_int_mk (P := Tryz.prog) Tryz.underlying3 hwf)
          have HAT := Lib.hid hat
          have hc40 : c ≤ 40 := by omega
          clear hy hc hat hle hwf
          go_upto_region 6 with (fail)
          refine wp_at_world (F := fun W6 => W6.ownsMap Tryz.prog 3 (plainElem Tryz.prog 3) w.heap.size m D ∧ W6.heap[w.heap.size + 1]? = some (mapCell w.heap.size) ∧ W6.heap[wr.heap.size]? = some (upRow (ux, uy, uz)) ∧ Below w.heap.size w W6 ∧ w.heap.size + 1 < W6.heap.size) ⟨hown.alloc _, heap_alloc_old' HRA.out, heap_alloc_new _ _, hbr.alloc hbr.size _, by simp; omega⟩ ?_
          rintro W6 ⟨hown6, hra6, hru6, hb6, hs6⟩
          have a0 := cell_of_row _ _ 0 _ _ _ hra6
          have u0 := cell_of_row _ _ 0 _ _ _ hru6
          have HRA6 := Lib.hid hra6
          clear hown hbr hsz hru6 hra6 c0 c1 c2
          go_wp2_with (first
            | (at_lookup; refine wpList_lookup_own_int _ rfl _ _ 182 rfl 3 3 .i64 intLaw Tryz.underlying182 Tryz.underlying3 (zero_int _) w.heap.size m D rfl hown6 _ _ rfl HKEY.out ?_; intro c2 hat2 hwc2; obtain rfl : c2 = (c : Int) := by have h9 := HAT.out; rw [hat2] at h9; simpa using h9)
            | (at_mapUpdate; refine wpList_mapUpdate_own _ rfl _ _ _ 182 rfl 3 3 intLaw Tryz.underlying182 (plainElem (H := Unit) Tryz.prog 3) w.heap.size m D rfl hown6 (by unfold maxLen; omega) _ _ _ rfl rfl HKEY.out _ [] (plainElem_int Tryz.underlying3 (a := (c : Int) + 1) (WalkArith.wf_i64 (by omega))) ?_; intro w7 hown7 hgrow7))
          go_roundw
          case rel =>
            have hs7 := hgrow7.size
            refine ⟨j + 1, m + 1, _, by go_num, by omega, by omega, hown7, (hgrow7.block _ hs6 (fun e => by have := Option.some.inj e; omega)).trans HRA6.out, ?_, hb6.grown hgrow7 hb6.size (fun k hk => by cases hk; exact Nat.le_refl _), by omega⟩
            have hp := HF.out.put hown6.isMap ux ((c : Int) + 1) (intLaw.key HKEY.out)
            have e : (fun x => if x = ux then (c : Int) + 1 else (Tw.atOf (us.take j) x y : Int)) = fun x => (Tw.atOf (us.take (j + 1)) x y : Int) := by
              funext x
              rw [List.take_add_one, HU.out, show (some (ux, uy, uz)).toList = [(ux, uy, uz)] from rfl, Tw.atOf_append, Tw.atOf_one]
              unfold Tw.oneAt
              by_cases hxu : x = ux
              · subst hxu
                rw [if_pos rfl, if_pos ⟨HY.out, rfl⟩, HCC.out]
                omega
              · rw [if_neg hxu, if_neg (fun h => hxu h.2.symm)]
                rfl
            show IntMap _ _
            rw [← e]
            exact hp
          case measure => simp [intOf]; omega
        · have hb : (uy == y) = false := beq_false_of_ne hy
          have HY := Lib.hid hy
          clear hy
          go_wp2_with fail
          go_roundw
          case rel =>
            refine ⟨j + 1, m, D, by go_num, by omega, by omega, hown.alloc _, heap_alloc_old' HRA.out, ?_, hbr.alloc hbr.size _, by simp; omega⟩
            have e : (fun x => (Tw.atOf (us.take j) x y : Int)) = fun x => (Tw.atOf (us.take (j + 1)) x y : Int) := by
              funext x
              rw [List.take_add_one, HU.out, show (some (ux, uy, uz)).toList = [(ux, uy, uz)] from rfl, Tw.atOf_append, Tw.atOf_one]
              unfold Tw.oneAt
              rw [if_neg (fun h => HY.out h.1)]
              rfl
            show IntMap _ _
            rw [← e]
            exact HF.out
          case measure => simp [intOf]; omega
      · obtain rfl : j = n := by omega
        go_wp2
        go_ret
        have e : us.take j = us := List.take_of_length_le (by rw [HN.out]; exact Nat.le_refl _)
        have hf := HF.out
        rw [e] at hf
        exact ⟨w.heap.size + 1, wr.heap.size, m, D, rfl, ⟨hown.alloc _, heap_alloc_old' HRA.out, heap_alloc_new _ _, Nat.le_refl _, by omega, by omega, by omega, by omega, by omega⟩, hf, hbr.alloc hbr.size _⟩
set_option maxRecDepth 100000 in
set_option maxHeartbeats 3200000 in
theorem scan_any {base M A B n : Nat} {D : DataW Unit} {b : Bool} (x : Int) (c : Nat) (w : World) (h : Scan base M A B n D b w) (hx : -1000 ≤ x ∧ x ≤ 1000) (hc : c ≤ 1000) (hat : D.atKey (.int .i64 x) (.lit (.int .i64 0)) = .lit (.int .i64 (c : Int))) :
    Calls Tryz.prog 180 #[.int .i64 x, .pointer (some ⟨A, 0, none⟩), .pointer (some ⟨B, 0, none⟩)] w fun e w' => e = .returned (.bool (b ^^ (c % 2 == 1))) ∧ Scan base M A B n D (b ^^ (c % 2 == 1)) w' ∧ w.grownBy w' (some B) := by
  have a0 := cell_of_row _ _ 0 _ _ _ h.ra
  have b0 := cell_of_row _ _ 0 _ _ _ h.rb
  have f0 := frozen_of_row _ _ 0 _ _ h.rb
  have hwf : (Lit.int .i64 x).wf = true := WalkArith.wf_i64 (by omega)
  have HKEY := Lib.hid (keyOf_int_mk (P := Tryz.prog) Tryz.underlying3 hwf)
  have HAT := Lib.hid hat
  have HS := Lib.hid h
  obtain ⟨r, hr⟩ : ∃ r, c % 2 = r := ⟨_, rfl⟩
  have er : (c : Int).tmod 2 = (r : Int) := by rw [Int.tmod_eq_emod_of_nonneg (by omega)]; omega
  have er2 : (c : Int) % 2 = (r : Int) := by omega
  have hr2 : r = 0 ∨ r = 1 := by omega
  rw [hr]
  clear hat h hwf hr
  rcases hr2 with rfl | rfl
  · cases b
    all_goals
      go_enter Tryz.func180, Tryz.ntmps180
      go_wp2_with (first
        | (at_lookup; refine wpList_lookup_own_int _ rfl _ _ 182 rfl 3 3 .i64 intLaw Tryz.underlying182 Tryz.underlying3 (zero_int _) M n D rfl HS.out.owns _ _ rfl HKEY.out ?_; intro c2 hat2 hwc2; obtain rfl : c2 = (c : Int) := by have h9 := HAT.out; rw [hat2] at h9; simpa using h9))
      go_ret
      exact ⟨rfl, HS.out, World.grownBy.refl _ _⟩
  · cases b
    all_goals
      go_enter Tryz.func180, Tryz.ntmps180
      go_wp2_with (first
        | (at_lookup; refine wpList_lookup_own_int _ rfl _ _ 182 rfl 3 3 .i64 intLaw Tryz.underlying182 Tryz.underlying3 (zero_int _) M n D rfl HS.out.owns _ _ rfl HKEY.out ?_; intro c2 hat2 hwc2; obtain rfl : c2 = (c : Int) := by have h9 := HAT.out; rw [hat2] at h9; simpa using h9))
      go_ret
      exact ⟨rfl, HS.out.set _, HS.out.grown _⟩

end Go.Proofs.YtccdfndnjjjgfaaGreatDoor

namespace Go.Proofs.YtccdfndnjjjgfaaGreatDoor
open Go.RowKit

theorem before_end {l : List UInt8} {i : Nat} {p : Int × Int} (h : (Tw.placesTo l (l.length - 1))[i]? = some p) (h1 : 0 < l.length) : (Tw.places l)[i]? = some p := by
  have hi : i < (Tw.placesTo l (l.length - 1)).length := (List.getElem?_eq_some_iff.1 h).1
  rw [Tw.placesTo_length] at hi
  rw [Tw.placesTo_get? _ _ _ (by omega)] at h
  unfold Tw.places
  rw [Tw.placesTo_get? _ _ _ (by omega), h]
theorem simple_eq {l : List UInt8} (h : Tw.closed l = true) : Tw.simple l = Tw.noTwice (Tw.placesTo l (l.length - 1)) := by
  unfold Tw.simple
  rw [h, Bool.true_and]

theorem own_cap {w : World} {base g n cap m : Nat} {t : TypeId} {l : List Value} (h : w.ownsRow base t m (.slice (some ⟨g, 0, none⟩) n cap) n l) : n ≤ cap ∧ cap ≤ maxLen := by
  rcases h.2 with ⟨h, _⟩ | ⟨g1, c1, cur, he, _, _, hc, hm, _⟩
  · cases h
  · cases he
    exact ⟨hc, hm⟩

set_option maxHeartbeats 1600000 in
theorem implSimpleOk (s : ByteArray) (w : World) (hs : s.size ≤ 1048576) (hw : DirsAt w) :
    Calls Tryz.prog 124 #[.string s] w fun e w' => e = .returned (.bool (Tw.simple s.data.toList)) ∧ Below w.heap.size w w' := by
  cases hcl : Tw.closed s.data.toList
  · have hc := implClosedOk s w hs hw
    rw [hcl] at hc
    have HC := Lib.hid hc
    have HCL := Lib.hid hcl
    clear hc hcl
    go_enter Tryz.func124, Tryz.ntmps124
    go_wp2_with (first
      | (go_at_call 123; refine HC.out.mono ?_; rintro e w1 ⟨rfl, hb1⟩))
    go_ret
    exact ⟨ret_bool (Tw.simple_open HCL.out).symm, hb1⟩
  · have hc := implClosedOk s w hs hw
    rw [hcl] at hc
    have HC := Lib.hid hc
    have h1 := Tw.closed_len hcl
    have hok := Tw.closed_ok hcl
    have HOK := Lib.hid hok
    have h40 : s.size ≤ 40 := by have := Tw.walkOk_len hok; rwa [size_data] at this
    have hnear := places_near s.data.toList (by rw [size_data]; omega)
    have HPL := Lib.hid (Tw.places_length s.data.toList)
    have hsz := size_data s
    obtain ⟨b, hb⟩ : ∃ b, Tw.noTwice (Tw.placesTo s.data.toList (s.data.toList.length - 1)) = b := ⟨_, rfl⟩
    have HB := Lib.hid hb
    have HEQ := Lib.hid ((simple_eq hcl).trans hb)
    obtain ⟨ps, hps⟩ : ∃ ps, Tw.placesTo s.data.toList (s.data.toList.length - 1) = ps := ⟨_, rfl⟩
    have hpn : ps.length = s.size := by rw [← hps, Tw.placesTo_length]; omega
    have hpb : ∀ (i : Nat) (p : Int × Int), ps[i]? = some p → (Tw.places s.data.toList)[i]? = some p := by
      intro i p hp
      rw [← hps] at hp
      exact before_end hp h1
    have hpnear : ∀ p ∈ ps, near p := by
      intro p hp
      obtain ⟨i, hi, rfl⟩ := List.getElem_of_mem hp
      exact hnear _ (List.mem_of_getElem? (hpb i _ (List.getElem?_eq_getElem hi)))
    rw [hps] at hb
    have HNT := Lib.hid hb
    have HPB := Lib.hid hpb
    have hone : 1 ≤ s.size := by omega
    have HPN := Lib.hid hpn
    clear hb hps hcl hok hc h1 hpb hsz hpn
    go_enter Tryz.func124, Tryz.ntmps124
    go_wp2_with (first
      | (go_at_call 123; refine HC.out.mono ?_; rintro e w1 ⟨rfl, hb1⟩)
      | (go_at_call 147; refine (implPlacesOf _ _ (hw.below' hb1) HOK.out).mono ?_; rintro e w2 ⟨v, rfl, ⟨g, cap, rfl, hown⟩, hb2⟩; rw [HPL.out, size_data] at hown ⊢; have hcap := own_cap hown)
      | (go_at_call 148; refine (allDifferent_any _ g _ _ ps HPN.out (by omega) (by omega) hpnear (hown.lt g rfl).2 (fun i p hp => place_cells hown (HPB.out i p hp))).mono ?_; rintro e w3 ⟨rfl, hb3⟩))
    go_ret
    exact ⟨ret_bool (by rw [HEQ.out, HNT.out]), (hb1.trans (hb2.mono hb1.size)).trans (hb3.mono (hb1.trans (hb2.mono hb1.size)).size)⟩

end Go.Proofs.YtccdfndnjjjgfaaGreatDoor

namespace Go.Proofs.YtccdfndnjjjgfaaGreatDoor
open Go.RowKit Go.Maps Go.WideMaps

theorem odd_step (us : List (Int × Int × Int)) (X Y : Int) : ((Tw.odd1 us (X - 1) Y == 1) ^^ (Tw.atOf us X Y % 2 == 1)) = (Tw.odd1 us X Y == 1) := by
  have h := Tw.farther_step us X Y
  unfold Tw.odd1
  rw [h]
  rcases Nat.mod_two_eq_zero_or_one (Tw.farther us X Y) with h1 | h1 <;> rcases Nat.mod_two_eq_zero_or_one (Tw.atOf us X Y) with h2 | h2
  · rw [Nat.add_mod, h1, h2]; rfl
  · rw [Nat.add_mod, h1, h2]; rfl
  · rw [Nat.add_mod, h1, h2]; rfl
  · rw [Nat.add_mod, h1, h2]; rfl
theorem sumTo_at {a X : Int} {f : Int → Nat} (h : a ≤ X) : Tw.sumTo a (X + 1 - a).toNat f = Tw.sumTo a (X - a).toNat f + f X := by
  have e : (X + 1 - a).toNat = (X - a).toNat + 1 := by omega
  rw [e]
  show Tw.sumTo a (X - a).toNat f + f (a + ((X - a).toNat : Int)) = _
  rw [show a + ((X - a).toNat : Int) = X from by omega]

/-- The squares found up to a place: their number, and where they are. -/
def Found (D : DataW Unit) (m : Nat) (X Y : Int) : Prop := Maps.size D = m ∧ ∀ p, near p → Maps.has D (placeKey p) = true → p.2 < Y ∨ (p.2 = Y ∧ p.1 < X)
theorem Found.put {D : DataW Unit} {m : Nat} {X Y : Int} (h : Found D m X Y) (hT : Tidy D) (hn : near (X, Y)) : Found (D.put (placeKey (X, Y)) (.agg [])) (m + 1) (X + 1) Y := by
  obtain ⟨h1, h2⟩ := h
  have hno : Maps.has D (placeKey (X, Y)) = false := by
    rw [Bool.eq_false_iff]
    intro hh
    have := h2 (X, Y) hn hh
    simp only at this
    omega
  refine ⟨?_, fun p hp hh => ?_⟩
  · rw [size_put hT, hno, h1]
    rfl
  · by_cases hpq : placeKey p = placeKey (X, Y)
    · obtain rfl := placeKey_inj hp hn hpq
      exact .inr ⟨rfl, by show X < X + 1; omega⟩
    · rw [has_put_other hpq] at hh
      have := h2 p hp hh
      omega
theorem Found.skip {D : DataW Unit} {m : Nat} {X Y X2 : Int} (h : Found D m X Y) (hx : X ≤ X2) : Found D m X2 Y := ⟨h.1, fun p hp hh => by have := h.2 p hp hh; omega⟩
theorem Found.row {D : DataW Unit} {m : Nat} {X Y X2 : Int} (h : Found D m X Y) : Found D m X2 (Y + 1) := ⟨h.1, fun p hp hh => by have := h.2 p hp hh; omega⟩
/-- The memory of squaresWithin in its loops. -/
structure SSt (w w2 : World) (N : Nat) (v : Value) (us : List (Int × Int × Int)) (lx ly hx hy : Int) (n : Nat) (D : DataW Unit) (W : World) : Prop where
  owns : W.ownsMap Tryz.prog 130 (unitElem (H := Unit)) w.heap.size n D
  rl : W.heap[N]? = some (rowOf lx ly)
  rh : W.heap[N + 1]? = some (rowOf hx hy)
  ups : UpsAt W v us
  below : Below w.heap.size w W
  nm : w.heap.size < N
  lt : w2.heap.size ≤ W.heap.size
  nlt : N + 1 < w2.heap.size
theorem UpsAt.grown {W W2 : World} {v : Value} {us : List (Int × Int × Int)} {row : Option Nat} (h : UpsAt W v us) (hg : W.grownBy W2 row) (hr : ∀ g, v.ownBlock = some g → row ≠ some g) : UpsAt W2 v us := by
  rcases h with h | ⟨g, cap, rfl, hlt, hc⟩
  · exact .inl h
  · have e : W2.heap[g]? = W.heap[g]? := hg.block g hlt (fun e => hr g rfl e.symm)
    refine .inr ⟨g, cap, rfl, Nat.lt_of_lt_of_le hlt hg.size, fun j u hu => ?_⟩
    obtain ⟨a, b, c⟩ := hc j u hu
    exact ⟨(cell_same e).trans a, (cell_same e).trans b, (cell_same e).trans c⟩
theorem SSt.grown {w w2 W W2 : World} {N n : Nat} {v : Value} {us : List (Int × Int × Int)} {lx ly hx hy : Int} {D : DataW Unit} {row : Option Nat} (h : SSt w w2 N v us lx ly hx hy n D W) (hg : W.grownBy W2 row) (hr : ∀ b, row = some b → w2.heap.size ≤ b) (hv : ∀ g, v.ownBlock = some g → g < w2.heap.size) : SSt w w2 N v us lx ly hx hy n D W2 := by
  have hlt := h.lt
  have hn := h.nlt
  have hm := h.nm
  have ne : ∀ b, b < w2.heap.size → row ≠ some b := fun b hb e => by have := hr b e; omega
  exact ⟨h.owns.kept hg (fun e => ne w.heap.size (by omega) e.symm), (hg.block _ (by omega) (fun e => ne N (by omega) e.symm)).trans h.rl, (hg.block _ (by omega) (fun e => ne (N + 1) (by omega) e.symm)).trans h.rh, h.ups.grown hg (fun g hg1 => ne g (hv g hg1)), h.below.grown hg h.below.size (fun j hj => by have := hr j hj; omega), hm, Nat.le_trans hlt hg.size, hn⟩
theorem SSt.put {w w2 W W2 : World} {N n n2 : Nat} {v : Value} {us : List (Int × Int × Int)} {lx ly hx hy : Int} {D D2 : DataW Unit} (h : SSt w w2 N v us lx ly hx hy n D W) (hg : W.grownBy W2 (some w.heap.size)) (ho : W2.ownsMap Tryz.prog 130 (unitElem (H := Unit)) w.heap.size n2 D2) (hv : ∀ g, v.ownBlock = some g → w.heap.size < g) : SSt w w2 N v us lx ly hx hy n2 D2 W2 := by
  have hlt := h.lt
  have hn := h.nlt
  have hm := h.nm
  exact ⟨ho, (hg.block _ (by omega) (fun e => by have := Option.some.inj e; omega)).trans h.rl, (hg.block _ (by omega) (fun e => by have := Option.some.inj e; omega)).trans h.rh, h.ups.grown hg (fun g hg1 e => by have := Option.some.inj e; have := hv g hg1; omega), h.below.grown hg h.below.size (fun j hj => by cases hj; exact Nat.le_refl _), hm, Nat.le_trans hlt hg.size, hn⟩
theorem ups_any {W : World} {base : Nat} {v : Value} {us : List (Int × Int × Int)} (h : W.ownsRow base 154 3 v us.length (triCells us)) : UpsAt W v us := by
  rcases own_shape h with ⟨rfl, hn⟩ | ⟨g, cap, rfl⟩
  · exact .inl ⟨rfl, hn⟩
  · refine .inr ⟨g, cap, rfl, (h.lt g rfl).2, fun j u hu => ?_⟩
    obtain ⟨q0, q1, q2⟩ := triCells_get us j _ hu
    exact ⟨own_cell h q0, own_cell h q1, own_cell h q2⟩
set_option maxRecDepth 100000 in
set_option maxHeartbeats 3200000 in
theorem squares_any (s : ByteArray) (w : World) (hw : DirsAt w) (hcl : Tw.closed s.data.toList = true) :
    Calls Tryz.prog 152 #[.string s] w fun e w' => ∃ (n : Nat) (D : DataW Unit), e = .returned (.map (some w.heap.size)) ∧ w'.ownsMap Tryz.prog 130 (unitElem (H := Unit)) w.heap.size n D ∧ Maps.size D = Tw.inside s.data.toList ∧ Below w.heap.size w w' := by
  have HOK := Lib.hid (Tw.closed_ok hcl)
  have HCL := Lib.hid hcl
  have h40 : s.size ≤ 40 := by have := Tw.walkOk_len HOK.out; rwa [size_data] at this
  have hmm := @run_makeMap Tryz.prog
  have HMK : Hid (∀ W, W = w.alloc (.map #[] 0) → DirsAt W) := fun W h => h ▸ hw.below' ((Below.refl _ _).alloc (Nat.le_refl _) _)
  have HNR : Hid (∀ u ∈ Tw.ups s.data.toList, -20 ≤ u.1 ∧ u.1 ≤ 20 ∧ -20 ≤ u.2.1 ∧ u.2.1 ≤ 19) := fun u hu => Tw.ups_near hcl hu
  have HUL : Hid ((Tw.ups s.data.toList).length ≤ 40) := by have := Tw.ups_len s.data.toList (0, 0); rw [size_data] at this; exact Nat.le_trans this h40
  have HAT : Hid (∀ u ∈ Tw.ups s.data.toList, ∃ k, k + 1 ≤ s.size ∧ u.1 = (Tw.placeAt s.data.toList k).1 ∧ u.2.1 = min (Tw.placeAt s.data.toList k).2 (Tw.placeAt s.data.toList (k + 1)).2 ∧ (Tw.placeAt s.data.toList k).2 ≠ (Tw.placeAt s.data.toList (k + 1)).2) := fun u hu => by
    obtain ⟨k, hk, h1, h2, h3, h4, h5⟩ := Tw.ups_at hu
    rw [size_data] at hk
    exact ⟨k, by omega, h1, h3, by omega⟩
  have HBX := Lib.hid (fun lx ly nx ny => Tw.inside_box hcl (lx := lx) (ly := ly) (nx := nx) (ny := ny))
  have HWW : Hid (∀ lx x y, (∀ u ∈ Tw.ups s.data.toList, lx ≤ u.1) → x < lx → Tw.odd1 (Tw.ups s.data.toList) x y = 0) := fun lx x y h hx => Tw.odd_wind _ (Tw.wind_west hcl (fun u hu => by have := h u hu; omega))
  obtain ⟨us, hus⟩ : ∃ us, Tw.ups s.data.toList = us := ⟨_, rfl⟩
  have HUS := Lib.hid hus
  rw [hus] at HNR HUL HAT HBX HWW
  clear hw hcl hus
  go_enter Tryz.func152, Tryz.ntmps152
  go_upto_region 4 with (first
    | (go_at_call 149; refine (uprights_all s _ (HMK.out _ rfl) HOK.out).mono ?_; rintro e w1 ⟨v, rfl, hown1, hb1⟩; rw [HUS.out] at hown1)
    | (go_at_call 168; refine (bounds_any s _ ((HMK.out _ rfl).below' hb1) HCL.out).mono ?_; rintro e w3 ⟨lx, ly, hx, hy, rfl, hin, hbd, hb3⟩))
  have hs1 := hb1.size
  have hs3 := hb3.size
  rw [World.size_alloc] at hs1
  have hvb : ∀ g, v.ownBlock = some g → w.heap.size + 1 < g ∧ g < w1.heap.size := fun g hg => by
    have := hown1.lt g hg
    rw [World.size_alloc] at this
    omega
  refine wp_at_world (F := fun W4 => SSt w W4 w3.heap.size v us lx ly hx hy 0 (.map []) W4) ?_ ?_
  · have hm := World.ownsMap_made (H := Unit) w Tryz.prog 130 (unitElem (H := Unit))
    have hm1 := (hm.kept (grown_of_below hb1 none) (by simp)).kept (grown_of_below hb3 none) (by simp)
    have hbw1 : Below w.heap.size w w1 := ((Below.refl w.heap.size w).alloc (Nat.le_refl _) _).trans (hb1.mono (by simp))
    have hbw3 := hbw1.trans (hb3.mono hbw1.size)
    have hu3 : UpsAt w3 v us := ups_any (own_below hown1 hb3)
    refine ⟨(hm1.alloc _).alloc _, heap_alloc_old' (heap_alloc_new _ _), ?_, ?_, (hbw3.alloc hbw3.size _).alloc (by simp; omega) _, by omega, Nat.le_refl _, by simp⟩
    · simpa [rowOf] using heap_alloc_new (w3.alloc (.cells #[.int .i64 lx, .int .i64 ly] 130)) (.cells #[.int .i64 hx, .int .i64 hy] 130)
    · have g1 := hu3.grown (World.grownBy_alloc w3 (.cells #[.int .i64 lx, .int .i64 ly] 130) none) (by simp)
      exact g1.grown (World.grownBy_alloc _ _ none) (by simp)
  · intro w2 hst0
    have hw2 := hst0.nlt
    have HV : Hid (∀ g, v.ownBlock = some g → w.heap.size < g ∧ g < w2.heap.size) := fun g hg => by have := hvb g hg; omega
    have HS0 := Lib.hid hst0
    have r0 := cell_of_row _ _ 1 _ _ _ hst0.rl
    have HIN := Lib.hid hin
    have HBD := Lib.hid hbd
    have hin2 := hin
    unfold within20 at hin2
    have hw0 : w.heap.size < w2.heap.size := by omega
    clear hst0 hin hbd hb1 hb3 hown1 hs1 hs3 hvb
    go_wp2_with fail
    go_loopw [7, 8, 9] (fun yv _ _ wr => ∃ (Y : Int) (n m : Nat) (D : DataW Unit), yv = .int .i64 Y ∧ ly ≤ Y ∧ Y ≤ hy ∧ (n : Int) ≤ 64 * (Y - ly) ∧ Hid (SSt w w2 w3.heap.size v us lx ly hx hy n D wr) ∧ Hid (Found D m lx Y) ∧ Hid (m = Tw.sumTo ly (Y - ly).toNat (fun y => Tw.sumTo lx (hx - lx).toNat (fun x => Tw.odd1 us x y)))) (fun yv _ _ _ => (hy - intOf yv).toNat)
    case atStart => exact ⟨ly, 0, 0, .map [], rfl, Int.le_refl _, by omega, by omega, HS0, ⟨rfl, fun p _ h => by cases h⟩, by show _ = _; rw [Int.sub_self]; rfl⟩
    case round =>
      obtain ⟨Y, n, m, D, rfl, hY0, hY1, hn, HS, HF, HM⟩ := hrel
      have a0 := cell_of_row _ _ 1 _ _ _ HS.out.rh
      by_cases hlt : Y < hy
      · have hrs := rowScan_any v us Y wr HS.out.ups HUL.out (fun u hu => ⟨(HNR.out u hu).1, (HNR.out u hu).2.1⟩)
        have HRS := Lib.hid hrs
        have hrb := HS.out.lt
        clear hrs
        go_wp2_with (first
          | (go_at_call 169; refine HRS.out.mono ?_; rintro e w5 ⟨A, B, k, D5, rfl, hscan, him, hb5⟩; have hst5 := HS.out.grown (grown_of_below hb5 none) (fun b h => by cases h) (fun g hg => (HV.out g hg).2); have e0 := cell_of_row _ _ 0 _ _ _ hst5.rl))
        have HS5 := Lib.hid hst5
        have HSC := Lib.hid hscan
        have HIM := Lib.hid him
        clear hst5 hscan him hb5 e0
        go_loopw [9] (fun xv wq => ∃ (X : Int) (n2 m2 : Nat) (D2 : DataW Unit), xv = .int .i64 X ∧ lx ≤ X ∧ X ≤ hx ∧ (n2 : Int) ≤ 64 * (Y - ly) + (X - lx) ∧ Hid (SSt w w2 w3.heap.size v us lx ly hx hy n2 D2 wq) ∧ Hid (Scan wr.heap.size wr.heap.size A B k D5 (Tw.odd1 us (X - 1) Y == 1) wq) ∧ Hid (Found D2 m2 X Y) ∧ Hid (m2 = m + Tw.sumTo lx (X - lx).toNat (fun x => Tw.odd1 us x Y))) (fun xv _ => (hx - intOf xv).toNat)
        case atStart =>
          refine ⟨lx, n, m, D, rfl, Int.le_refl _, by omega, by omega, HS5, ?_, HF, by show _ = _; rw [Int.sub_self]; rfl⟩
          have h0 : Tw.odd1 us (lx - 1) Y = 0 := HWW.out lx (lx - 1) Y (fun u hu => by
            obtain ⟨k, hk, h1, _⟩ := HAT.out u hu
            rw [h1]
            exact (HBD.out k (by omega)).1) (by omega)
          show Scan _ _ _ _ _ _ _ _
          rw [h0]
          exact HSC.out
        case round =>
          obtain ⟨X, n2, m2, D2, rfl, hX0, hX1, hn2, HS2, HQ, HF2, HM2⟩ := hrel
          have c0 := cell_of_row _ _ 0 _ _ _ HS2.out.rh
          by_cases hltx : X < hx
          · have hle := Tw.atOf_le us X Y
            have hul := HUL.out
            have hsc := scan_any X (Tw.atOf us X Y) _ HQ.out (by omega) (by omega) (HIM.out X (by omega))
            rw [odd_step] at hsc
            have hX0' : -1000 ≤ X ∧ X ≤ 1000 := ⟨by omega, by omega⟩
            have hnr : near (X, Y) := by unfold near; simp only; omega
            have HKEY := Lib.hid (keyOf_place (X, Y) hnr)
            have HNEAR := Lib.hid hnr
            have hsu := sumTo_at (a := lx) (X := X) (f := fun x => Tw.odd1 us x Y) hX0
            have e1 : Tw.odd1 us (X + 1 - 1) Y = Tw.odd1 us X Y := by rw [Int.add_sub_cancel]
            obtain ⟨o, ho⟩ : ∃ o, Tw.odd1 us X Y = o := ⟨_, rfl⟩
            have ho2 : o = 0 ∨ o = 1 := by rw [← ho]; show Tw.farther _ _ _ % 2 = 0 ∨ Tw.farther _ _ _ % 2 = 1; omega
            rw [ho] at hsc hsu e1
            have HSU := Lib.hid hsu
            have HE1 := Lib.hid e1
            have HSA := Lib.hid hsc
            have hwB : w2.heap.size ≤ B := Nat.le_trans hrb HQ.out.hb
            clear hsc hnr hsu e1 ho hle hul
            rcases ho2 with rfl | rfl
            · go_wp2_with (first
                | (go_at_call 180; refine HSA.out.mono ?_; rintro e w6 ⟨rfl, hsc6, hg6⟩))
              go_roundw
              case rel =>
                refine ⟨X + 1, n2, m2, D2, rfl, by omega, by omega, by omega, HS2.out.grown hg6 (fun b h => by cases h; exact hwB) (fun g hg => (HV.out g hg).2), ?_, HF2.out.skip (by omega), ?_⟩
                · show Scan _ _ _ _ _ _ _ _
                  rw [HE1.out]
                  exact hsc6
                · show _ = _
                  rw [HM2.out, HSU.out, Nat.add_zero]
              case measure => simp [intOf]; omega
            · go_wp2_with (first
                | (go_at_call 180; refine HSA.out.mono ?_; rintro e w6 ⟨rfl, hsc6, hg6⟩; have hs6 := HS2.out.grown hg6 (fun b h => by cases h; exact hwB) (fun g hg => (HV.out g hg).2))
                | (at_mapUpdate; refine wpList_mapUpdate_own _ rfl _ _ _ 157 rfl 130 170 placeLaw Tryz.underlying157 (unitElem (H := Unit)) w.heap.size n2 D2 rfl hs6.owns (by unfold maxLen; omega) _ _ _ rfl rfl HKEY.out _ [] unitElem_mk ?_; intro w7 hown7 hgrow7))
              go_roundw
              case rel =>
                have hM := HQ.out.hm
                have hA := HQ.out.ha
                refine ⟨X + 1, n2 + 1, m2 + 1, _, rfl, by omega, by omega, by omega, hs6.put hgrow7 hown7 (fun g hg => (HV.out g hg).1), ?_, HF2.out.put (hs6.owns.tidy placeLaw) HNEAR.out, ?_⟩
                · show Scan _ _ _ _ _ _ _ _
                  rw [HE1.out]
                  exact hsc6.kept hgrow7 (fun e => by have := Option.some.inj e; omega) (fun e => by have := Option.some.inj e; omega) (fun e => by have := Option.some.inj e; omega)
                · show _ = _
                  rw [HM2.out, HSU.out, ← Nat.add_assoc]
              case measure => simp [intOf]; omega
          · obtain rfl : X = hx := by omega
            go_wp2_with fail
            go_roundw
            case rel =>
              refine ⟨Y + 1, n2, m2, D2, rfl, by omega, by omega, by omega, HS2, HF2.out.row, ?_⟩
              show _ = _
              rw [sumTo_at hY0, HM2.out, HM.out]
            case measure => simp [intOf]; omega
      · obtain rfl : Y = hy := by omega
        go_wp2
        go_ret
        refine ⟨rfl, n, D, HS.out.owns, ?_, HS.out.below⟩
        rw [HF.out.1, HM.out, HBX.out lx ly (hx - lx).toNat (Y - ly).toNat (by omega) (by omega) (fun u hu => ?_)]
        obtain ⟨k, hk, h1, h2, h3⟩ := HAT.out u hu
        have b1 := HBD.out k (by omega)
        have b2 := HBD.out (k + 1) (by omega)
        omega
set_option maxRecDepth 100000 in
set_option maxHeartbeats 1600000 in
theorem implSquares (s : ByteArray) (w : World) (hs : s.size ≤ 1048576) (hw : DirsAt w) :
    Calls Tryz.prog 129 #[.string s] w fun e w' => e = .returned (.int .i64 (Tw.squaresRes s.data.toList)) ∧ Below w.heap.size w w' := by
  have hc := implSimpleOk s w hs hw
  cases hsm : Tw.simple s.data.toList
  · rw [hsm] at hc
    have HC := Lib.hid hc
    have HSM := Lib.hid hsm
    clear hc hsm
    go_enter Tryz.func129, Tryz.ntmps129
    go_wp2_with (first
      | (go_at_call 124; refine HC.out.mono ?_; rintro e w1 ⟨rfl, hb1⟩))
    go_ret
    exact ⟨by unfold Tw.squaresRes; rw [HSM.out]; rfl, hb1⟩
  · rw [hsm] at hc
    have HC := Lib.hid hc
    have hcl : Tw.closed s.data.toList = true := by unfold Tw.simple at hsm; simp at hsm; exact hsm.1
    have HCL := Lib.hid hcl
    have HSR : Hid (Tw.squaresRes s.data.toList = (Tw.inside s.data.toList : Int)) := by show _ = _; unfold Tw.squaresRes; rw [if_pos hsm]
    clear hc hsm hcl
    go_enter Tryz.func129, Tryz.ntmps129
    go_wp2_with (first
      | (go_at_call 124; refine HC.out.mono ?_; rintro e w1 ⟨rfl, hb1⟩)
      | (go_at_call 152; refine (squares_any s _ (hw.below' hb1) HCL.out).mono ?_; rintro e w2 ⟨n, D, rfl, hown, hsz, hb2⟩; have HSZ := Lib.hid hsz; clear hsz)
      | (at_len; refine wpList_len_own _ rfl _ 157 rfl 130 170 Tryz.underlying157 _ w1.heap.size n _ rfl hown ?_))
    go_ret
    refine ⟨?_, hb1.trans (hb2.mono hb1.size)⟩
    rw [HSR.out, ← HSZ.out]
    rfl

end Go.Proofs.YtccdfndnjjjgfaaGreatDoor

namespace Go.Proofs.YtccdfndnjjjgfaaGreatDoor
open Go.RowKit

/-- An answer. -/
def AskOut (s : ByteArray) (k : Nat) (w : World) (e : Ending) (w' : World) : Prop := e = .returned (.string (askText k s)) ∧ Below w.heap.size w w'
theorem ask_done {s : ByteArray} {k : Nat} {w w' : World} {x : ByteArray} (h : askText k s = x) (hb : Below w.heap.size w w') : AskOut s k w (.returned (.string x)) w' := ⟨by rw [h], hb⟩
theorem geq_dec {n : Int} {b : Bool} (h : 0 ≤ n ↔ b = true) : decide (0 ≤ n) = b := by
  cases b
  · exact decide_eq_false fun h1 => by have := h.1 h1; cases this
  · exact decide_eq_true (h.2 rfl)

def askBox (w : World) (s : ByteArray) (a : Option Addr) (L c : Nat) : World := w.alloc (.cells #[.string s, .slice a L c] 27)
theorem askBox_in (w : World) (s : ByteArray) (a : Option Addr) (L c : Nat) : Below w.heap.size w (askBox w s a L c) ∧ (askBox w s a L c).cell? ⟨w.heap.size, 0, none⟩ = some (.string s) := by
  unfold askBox
  exact ⟨(Below.refl _ _).alloc (Nat.le_refl _) _, cell_of_row _ _ 0 _ _ _ (heap_alloc_new w _)⟩
set_option maxRecDepth 100000 in
set_option maxHeartbeats 800000 in
theorem sayWalk_any (s : ByteArray) (a : Option Addr) (L c : Nat) (w : World) (hok : Tw.walkOk s.data.toList = true) (hw : DirsAt w) (hp : PowAt w) :
    Calls Tryz.prog 88 #[.agg #[.string s, .slice a L c]] w (AskOut s 0 w) := by
  have h40 : s.size ≤ 40 := by have := Tw.walkOk_len hok; rwa [size_data] at this
  have hs : s.size ≤ 1048576 := by omega
  obtain ⟨b0, c0⟩ := askBox_in w s a L c
  obtain ⟨W, hW⟩ : ∃ W, askBox w s a L c = W := ⟨_, rfl⟩
  rw [hW] at b0 c0
  unfold askBox at hW
  have HW := Lib.hid hW
  have HD := Lib.hid (hw.below' b0)
  have HP := Lib.hid (hp.below' b0)
  have B0 := Lib.hid b0
  have HT : Hid (askText 0 s = ⟨#[58]⟩ ++ s) := rfl
  have f1 : ¬ 9223372036854775807 < 1 + s.size := by omega
  clear hW b0 hw hp hs hok
  go_enter Tryz.func88, Tryz.ntmps88
  go_wp2_with fail
  rw [HW.out]
  go_wp2
  go_ret
  exact ask_done HT.out B0.out
set_option maxRecDepth 100000 in
set_option maxHeartbeats 800000 in
theorem sayEnd_any (s : ByteArray) (a : Option Addr) (L c : Nat) (w : World) (hok : Tw.walkOk s.data.toList = true) (hw : DirsAt w) (hp : PowAt w) :
    Calls Tryz.prog 89 #[.agg #[.string s, .slice a L c]] w (AskOut s 1 w) := by
  have h40 : s.size ≤ 40 := by have := Tw.walkOk_len hok; rwa [size_data] at this
  have hs : s.size ≤ 1048576 := by omega
  obtain ⟨b0, c0⟩ := askBox_in w s a L c
  obtain ⟨W, hW⟩ : ∃ W, askBox w s a L c = W := ⟨_, rfl⟩
  rw [hW] at b0 c0
  unfold askBox at hW
  have HW := Lib.hid hW
  have HD := Lib.hid (hw.below' b0)
  have HP := Lib.hid (hp.below' b0)
  have B0 := Lib.hid b0
  have hb := end_bound hok
  have he := implEndOf s W HD.out hok
  obtain ⟨x, hx⟩ : ∃ x, (Tw.endOf s.data.toList).1 = x := ⟨_, rfl⟩
  obtain ⟨y, hy⟩ : ∃ y, (Tw.endOf s.data.toList).2 = y := ⟨_, rfl⟩
  have HT : Hid (askText 1 s = pairText x y) := by show _ = _; rw [← hx, ← hy]; rfl
  rw [hx, hy] at hb he
  have HE := Lib.hid he
  have HPT := Lib.hid (pairText_any x y (by omega) (by omega) (by omega) (by omega))
  clear he hx hy hb
  clear hW b0 hw hp hs hok
  go_enter Tryz.func89, Tryz.ntmps89
  go_wp2_with fail
  rw [HW.out]
  go_wp2_with (first
    | (have hq := k0; go_at_call 100; refine (HPT.out _ (HP.out.below' (hb1.alloc hb1.size _))).mono ?_; rintro e w2 ⟨rfl, hb2⟩)
    | (go_at_call 121; refine HE.out.mono ?_; rintro e w1 ⟨rfl, hb1⟩; have k0 := cell_of_row _ _ 0 _ _ _ (heap_alloc_new w1 (.cells #[.int .i64 x, .int .i64 y] 130)); have k1 := cell_of_row _ _ 1 _ _ _ (heap_alloc_new w1 (.cells #[.int .i64 x, .int .i64 y] 130))))
  go_ret
  have hb3 := hb1.alloc hb1.size (.cells #[.int .i64 x, .int .i64 y] 130)
  exact ask_done HT.out (B0.out.trans ((hb3.trans (hb2.mono hb3.size)).mono B0.out.size))
set_option maxRecDepth 100000 in
set_option maxHeartbeats 800000 in
theorem sayClosed_any (s : ByteArray) (a : Option Addr) (L c : Nat) (w : World) (hok : Tw.walkOk s.data.toList = true) (hw : DirsAt w) (hp : PowAt w) :
    Calls Tryz.prog 90 #[.agg #[.string s, .slice a L c]] w (AskOut s 2 w) := by
  have h40 : s.size ≤ 40 := by have := Tw.walkOk_len hok; rwa [size_data] at this
  have hs : s.size ≤ 1048576 := by omega
  obtain ⟨b0, c0⟩ := askBox_in w s a L c
  obtain ⟨W, hW⟩ : ∃ W, askBox w s a L c = W := ⟨_, rfl⟩
  rw [hW] at b0 c0
  unfold askBox at hW
  have HW := Lib.hid hW
  have HD := Lib.hid (hw.below' b0)
  have HP := Lib.hid (hp.below' b0)
  have B0 := Lib.hid b0
  have hc := implClosedOk s W hs HD.out
  obtain ⟨b, hb⟩ : ∃ b, Tw.closed s.data.toList = b := ⟨_, rfl⟩
  have HT : Hid (askText 2 s = yesText b) := by show _ = _; rw [← hb]; rfl
  rw [hb] at hc
  have HC := Lib.hid hc
  have HY := Lib.hid (yesOrNo_any b)
  clear hc hb
  clear hW b0 hw hp hs hok
  go_enter Tryz.func90, Tryz.ntmps90
  go_wp2_with fail
  rw [HW.out]
  go_wp2_with (first
    | (go_at_call 122; refine (HY.out _).mono ?_; rintro e w2 ⟨rfl, rfl⟩)
    | (go_at_call 123; refine HC.out.mono ?_; rintro e w1 ⟨rfl, hb1⟩))
  go_ret
  exact ask_done HT.out (B0.out.trans (hb1.mono B0.out.size))
set_option maxRecDepth 100000 in
set_option maxHeartbeats 800000 in
theorem saySimple_any (s : ByteArray) (a : Option Addr) (L c : Nat) (w : World) (hok : Tw.walkOk s.data.toList = true) (hw : DirsAt w) (hp : PowAt w) :
    Calls Tryz.prog 91 #[.agg #[.string s, .slice a L c]] w (AskOut s 3 w) := by
  have h40 : s.size ≤ 40 := by have := Tw.walkOk_len hok; rwa [size_data] at this
  have hs : s.size ≤ 1048576 := by omega
  obtain ⟨b0, c0⟩ := askBox_in w s a L c
  obtain ⟨W, hW⟩ : ∃ W, askBox w s a L c = W := ⟨_, rfl⟩
  rw [hW] at b0 c0
  unfold askBox at hW
  have HW := Lib.hid hW
  have HD := Lib.hid (hw.below' b0)
  have HP := Lib.hid (hp.below' b0)
  have B0 := Lib.hid b0
  have hc := implSimpleOk s W hs HD.out
  obtain ⟨b, hb⟩ : ∃ b, Tw.simple s.data.toList = b := ⟨_, rfl⟩
  have HT : Hid (askText 3 s = yesText b) := by show _ = _; rw [← hb]; rfl
  rw [hb] at hc
  have HC := Lib.hid hc
  have HY := Lib.hid (yesOrNo_any b)
  clear hc hb
  clear hW b0 hw hp hs hok
  go_enter Tryz.func91, Tryz.ntmps91
  go_wp2_with fail
  rw [HW.out]
  go_wp2_with (first
    | (go_at_call 122; refine (HY.out _).mono ?_; rintro e w2 ⟨rfl, rfl⟩)
    | (go_at_call 124; refine HC.out.mono ?_; rintro e w1 ⟨rfl, hb1⟩))
  go_ret
  exact ask_done HT.out (B0.out.trans (hb1.mono B0.out.size))
set_option maxRecDepth 100000 in
set_option maxHeartbeats 800000 in
theorem sayAvoids_any (s : ByteArray) (a : Option Addr) (L c : Nat) (w : World) (hok : Tw.walkOk s.data.toList = true) (hw : DirsAt w) (hp : PowAt w) :
    Calls Tryz.prog 92 #[.agg #[.string s, .slice a L c]] w (AskOut s 4 w) := by
  have h40 : s.size ≤ 40 := by have := Tw.walkOk_len hok; rwa [size_data] at this
  have hs : s.size ≤ 1048576 := by omega
  obtain ⟨b0, c0⟩ := askBox_in w s a L c
  obtain ⟨W, hW⟩ : ∃ W, askBox w s a L c = W := ⟨_, rfl⟩
  rw [hW] at b0 c0
  unfold askBox at hW
  have HW := Lib.hid hW
  have HD := Lib.hid (hw.below' b0)
  have HP := Lib.hid (hp.below' b0)
  have B0 := Lib.hid b0
  have hc := implAvoidsOk s W hs HD.out
  obtain ⟨b, hb⟩ : ∃ b, Tw.avoids s.data.toList = b := ⟨_, rfl⟩
  have HT : Hid (askText 4 s = yesText b) := by show _ = _; rw [← hb]; rfl
  rw [hb] at hc
  have HC := Lib.hid hc
  have HY := Lib.hid (yesOrNo_any b)
  clear hc hb
  clear hW b0 hw hp hs hok
  go_enter Tryz.func92, Tryz.ntmps92
  go_wp2_with fail
  rw [HW.out]
  go_wp2_with (first
    | (go_at_call 122; refine (HY.out _).mono ?_; rintro e w2 ⟨rfl, rfl⟩)
    | (go_at_call 125; refine HC.out.mono ?_; rintro e w1 ⟨rfl, hb1⟩))
  go_ret
  exact ask_done HT.out (B0.out.trans (hb1.mono B0.out.size))
set_option maxRecDepth 100000 in
set_option maxHeartbeats 800000 in
theorem sayTurning_any (s : ByteArray) (a : Option Addr) (L c : Nat) (w : World) (hok : Tw.walkOk s.data.toList = true) (hw : DirsAt w) (hp : PowAt w) :
    Calls Tryz.prog 93 #[.agg #[.string s, .slice a L c]] w (AskOut s 5 w) := by
  have h40 : s.size ≤ 40 := by have := Tw.walkOk_len hok; rwa [size_data] at this
  have hs : s.size ≤ 1048576 := by omega
  obtain ⟨b0, c0⟩ := askBox_in w s a L c
  obtain ⟨W, hW⟩ : ∃ W, askBox w s a L c = W := ⟨_, rfl⟩
  rw [hW] at b0 c0
  unfold askBox at hW
  have HW := Lib.hid hW
  have HD := Lib.hid (hw.below' b0)
  have HP := Lib.hid (hp.below' b0)
  have B0 := Lib.hid b0
  have hc := implTurningOf s W hs HD.out
  have hn := turn_bound s.data.toList (by rw [size_data]; exact hs)
  obtain ⟨n, hnn⟩ : ∃ n, (if Tw.closed s.data.toList then turningOf s.data.toList else 0) = n := ⟨_, rfl⟩
  obtain ⟨b, hb⟩ : ∃ b, Tw.closed s.data.toList = b := ⟨_, rfl⟩
  have HT : Hid (askText 5 s = toldText n b) := by show _ = _; rw [← hnn, ← hb]; rfl
  rw [hnn] at hc hn
  rw [hb] at hc
  have HC := Lib.hid hc
  have HY := Lib.hid (numberOrNone_any n b (by omega) (by omega))
  clear hc hb hnn hn
  clear hW b0 hw hp hs hok
  go_enter Tryz.func93, Tryz.ntmps93
  go_wp2_with fail
  rw [HW.out]
  go_wp2_with (first
    | (go_at_call 102; refine (HY.out _ (HP.out.below' hb1)).mono ?_; rintro e w2 ⟨rfl, hb2⟩)
    | (go_at_call 126; refine HC.out.mono ?_; rintro e w1 ⟨rfl, hb1⟩))
  go_ret
  exact ask_done HT.out (B0.out.trans ((hb1.trans (hb2.mono hb1.size)).mono B0.out.size))
set_option maxRecDepth 100000 in
set_option maxHeartbeats 800000 in
theorem sayArea_any (s : ByteArray) (a : Option Addr) (L c : Nat) (w : World) (hok : Tw.walkOk s.data.toList = true) (hw : DirsAt w) (hp : PowAt w) :
    Calls Tryz.prog 94 #[.agg #[.string s, .slice a L c]] w (AskOut s 6 w) := by
  have h40 : s.size ≤ 40 := by have := Tw.walkOk_len hok; rwa [size_data] at this
  have hs : s.size ≤ 1048576 := by omega
  obtain ⟨b0, c0⟩ := askBox_in w s a L c
  obtain ⟨W, hW⟩ : ∃ W, askBox w s a L c = W := ⟨_, rfl⟩
  rw [hW] at b0 c0
  unfold askBox at hW
  have HW := Lib.hid hW
  have HD := Lib.hid (hw.below' b0)
  have HP := Lib.hid (hp.below' b0)
  have B0 := Lib.hid b0
  have hc := implAreaOf s W hs HD.out
  have hn := line_res_bound s.data.toList
  obtain ⟨n, hnn⟩ : ∃ n, areaRes s.data.toList = n := ⟨_, rfl⟩
  obtain ⟨b, hb⟩ : ∃ b, Tw.closed s.data.toList = b := ⟨_, rfl⟩
  have HT : Hid (askText 6 s = toldText n b) := by show _ = _; rw [← hnn, ← hb]; rfl
  rw [hnn] at hc hn
  rw [hb] at hc
  have HC := Lib.hid hc
  have HY := Lib.hid (numberOrNone_any n b (by omega) (by omega))
  clear hc hb hnn hn
  clear hW b0 hw hp hs hok
  go_enter Tryz.func94, Tryz.ntmps94
  go_wp2_with fail
  rw [HW.out]
  go_wp2_with (first
    | (go_at_call 102; refine (HY.out _ (HP.out.below' hb1)).mono ?_; rintro e w2 ⟨rfl, hb2⟩)
    | (go_at_call 127; refine HC.out.mono ?_; rintro e w1 ⟨rfl, hb1⟩))
  go_ret
  exact ask_done HT.out (B0.out.trans ((hb1.trans (hb2.mono hb1.size)).mono B0.out.size))
set_option maxRecDepth 100000 in
set_option maxHeartbeats 800000 in
theorem sayWinding_any (s : ByteArray) (a : Option Addr) (L c : Nat) (w : World) (hok : Tw.walkOk s.data.toList = true) (hw : DirsAt w) (hp : PowAt w) :
    Calls Tryz.prog 95 #[.agg #[.string s, .slice a L c]] w (AskOut s 7 w) := by
  have h40 : s.size ≤ 40 := by have := Tw.walkOk_len hok; rwa [size_data] at this
  have hs : s.size ≤ 1048576 := by omega
  obtain ⟨b0, c0⟩ := askBox_in w s a L c
  obtain ⟨W, hW⟩ : ∃ W, askBox w s a L c = W := ⟨_, rfl⟩
  rw [hW] at b0 c0
  unfold askBox at hW
  have HW := Lib.hid hW
  have HD := Lib.hid (hw.below' b0)
  have HP := Lib.hid (hp.below' b0)
  have B0 := Lib.hid b0
  have hc := implMost s W hs HD.out
  have hn := Tw.mostRes_range (l := s.data.toList)
  obtain ⟨n, hnn⟩ : ∃ n, Tw.mostRes s.data.toList = n := ⟨_, rfl⟩
  obtain ⟨b, hb⟩ : ∃ b, Tw.closed s.data.toList = b := ⟨_, rfl⟩
  have HT : Hid (askText 7 s = toldText n b) := by show _ = _; rw [← hnn, ← hb]; rfl
  rw [hnn] at hc hn
  rw [hb] at hn
  have hg := geq_dec hn.2.2
  have HC := Lib.hid hc
  have HY := Lib.hid (numberOrNone_any n b (by omega) (by omega))
  clear hc hb hnn hn
  clear hW b0 hw hp hs hok
  go_enter Tryz.func95, Tryz.ntmps95
  go_wp2_with fail
  rw [HW.out]
  go_wp2_with (first
    | (go_at_call 102; refine (HY.out _ (HP.out.below' hb1)).mono ?_; rintro e w2 ⟨rfl, hb2⟩)
    | (go_at_call 128; refine HC.out.mono ?_; rintro e w1 ⟨rfl, hb1⟩))
  go_ret
  exact ask_done HT.out (B0.out.trans ((hb1.trans (hb2.mono hb1.size)).mono B0.out.size))
set_option maxRecDepth 100000 in
set_option maxHeartbeats 800000 in
theorem saySquares_any (s : ByteArray) (a : Option Addr) (L c : Nat) (w : World) (hok : Tw.walkOk s.data.toList = true) (hw : DirsAt w) (hp : PowAt w) :
    Calls Tryz.prog 96 #[.agg #[.string s, .slice a L c]] w (AskOut s 8 w) := by
  have h40 : s.size ≤ 40 := by have := Tw.walkOk_len hok; rwa [size_data] at this
  have hs : s.size ≤ 1048576 := by omega
  obtain ⟨b0, c0⟩ := askBox_in w s a L c
  obtain ⟨W, hW⟩ : ∃ W, askBox w s a L c = W := ⟨_, rfl⟩
  rw [hW] at b0 c0
  unfold askBox at hW
  have HW := Lib.hid hW
  have HD := Lib.hid (hw.below' b0)
  have HP := Lib.hid (hp.below' b0)
  have B0 := Lib.hid b0
  have hc := implSquares s W hs HD.out
  have hn := Tw.squaresRes_range (l := s.data.toList)
  obtain ⟨n, hnn⟩ : ∃ n, Tw.squaresRes s.data.toList = n := ⟨_, rfl⟩
  obtain ⟨b, hb⟩ : ∃ b, Tw.simple s.data.toList = b := ⟨_, rfl⟩
  have HT : Hid (askText 8 s = toldText n b) := by show _ = _; rw [← hnn, ← hb]; rfl
  rw [hnn] at hc hn
  rw [hb] at hn
  have hg := geq_dec hn.2.2
  have HC := Lib.hid hc
  have HY := Lib.hid (numberOrNone_any n b (by omega) (by omega))
  clear hc hb hnn hn
  clear hW b0 hw hp hs hok
  go_enter Tryz.func96, Tryz.ntmps96
  go_wp2_with fail
  rw [HW.out]
  go_wp2_with (first
    | (go_at_call 102; refine (HY.out _ (HP.out.below' hb1)).mono ?_; rintro e w2 ⟨rfl, hb2⟩)
    | (go_at_call 129; refine HC.out.mono ?_; rintro e w1 ⟨rfl, hb1⟩))
  go_ret
  exact ask_done HT.out (B0.out.trans ((hb1.trans (hb2.mono hb1.size)).mono B0.out.size))

end Go.Proofs.YtccdfndnjjjgfaaGreatDoor

namespace Go.Proofs.YtccdfndnjjjgfaaGreatDoor
open Go.RowKit Go.Maps Go.WideMaps Go.ChangeShapes Go.WideShapes Go.MapKept Go.ChangeMaps

theorem ask_none {X : ByteArray} (h : ∀ i, i < 9 → askWords.getD i ⟨#[]⟩ ≠ X) : askAt X = none := by
  unfold askAt
  rw [List.findIdx?_eq_none_iff]
  intro y hy
  obtain ⟨i, hi, rfl⟩ := List.mem_iff_getElem.1 hy
  have h1 := h i hi
  rw [List.getD_eq_getElem?_getD, List.getElem?_eq_getElem hi] at h1
  exact decide_eq_false h1
theorem askAt_word {i : Nat} (hi : i < 9) : askAt (askWords.getD i ⟨#[]⟩) = some i := by
  obtain rfl | rfl | rfl | rfl | rfl | rfl | rfl | rfl | rfl : i = 0 ∨ i = 1 ∨ i = 2 ∨ i = 3 ∨ i = 4 ∨ i = 5 ∨ i = 6 ∨ i = 7 ∨ i = 8 := by omega
  all_goals rfl

/-- The functions, in the order of the words. -/
def askFn (i : Nat) : FuncId := [88, 89, 90, 91, 92, 93, 94, 95, 96].getD i 0
def askEntry (i : Nat) : MapEntry := ⟨.string (askWords.getD i ⟨#[]⟩), .func (.func (askFn i)) #[] #[], i⟩
def askEntries (n : Nat) : Array MapEntry := ((List.range n).map askEntry).toArray
theorem askEntries_succ (n : Nat) : askEntries (n + 1) = (askEntries n).push (askEntry n) := by
  unfold askEntries
  rw [List.range_succ, List.map_append]
  simp
def askMap (w : World) (n : Nat) : World := setBlock (w.alloc (.map #[] 0)) w.heap.size (.map (askEntries n) n)
theorem askMap_at (w : World) (n : Nat) : (askMap w n).heap[w.heap.size]? = some (.map (askEntries n) n) := heap_setBlock_same (heap_alloc_new w _) _
theorem askMap_zero (w : World) : w.alloc (.map #[] 0) = askMap w 0 := (setBlock_same (heap_alloc_new w _)).symm
theorem askMap_below (w : World) (n : Nat) : Below w.heap.size w (askMap w n) :=
  ⟨rfl, rfl, rfl, by simp [askMap, setBlock], fun i hi => (heap_setBlock_other (heap_alloc_new w _) _ (fun e => by omega)).trans (heap_alloc_at hi)⟩
theorem ask_member {n : Nat} {e : MapEntry} (h : e ∈ (askEntries n).toList) : ∃ i, i < n ∧ e = askEntry i := by
  unfold askEntries at h
  rw [List.toList_toArray] at h
  obtain ⟨i, hi, rfl⟩ := List.mem_map.1 h
  exact ⟨i, List.mem_range.1 hi, rfl⟩
set_option maxRecDepth 100000 in
theorem askWord_size : ∀ i, i < 9 → (askWords.getD i ⟨#[]⟩).size ≤ 7 := by decide
set_option maxRecDepth 100000 in
theorem askWord_inj : ∀ i, i < 9 → ∀ j, j < 9 → i ≠ j → askWords.getD i ⟨#[]⟩ ≠ askWords.getD j ⟨#[]⟩ := by decide
theorem askKeys {n : Nat} (hn : n ≤ 9) : ∀ e ∈ (askEntries n).toList, ∃ l, keyOf Tryz.prog 9 e.key = some l := fun e he => by
  obtain ⟨i, hi, rfl⟩ := ask_member he
  exact ⟨_, keyOf_string_mk Tryz.underlying9 (by have := askWord_size i (by omega); unfold maxLen; omega)⟩
theorem makeMap_run (w : World) : (Instr.makeMap 72 none).run Tryz.prog w = .ok (.map (some w.heap.size)) (w.alloc (.map #[] 0)) := by
  simp [Instr.makeMap]
theorem map_put {w : World} {b clock : Nat} {es : Array MapEntry} (hb : w.heap[b]? = some (.map es clock)) {key : ByteArray} {v : Value} {l : Lit} (hkey : keyOf Tryz.prog 9 (.string key) = some l) (h1 : (Instr.findKey 9 (.string key) es.toList).run Tryz.prog w = .ok none w) :
    (Instr.mapUpdate 72 (.map (some b)) (.string key) v).run Tryz.prog w = .ok () (setBlock w b (.map (es.push ⟨.string key, v, clock⟩) (clock + 1))) := by
  have K : KeyLaw Tryz.prog 9 := string_law Tryz.underlying9
  simp [Instr.mapUpdate, run_underlying Tryz.underlying72, MapKept.run_getObj_map hb, K.check w false hkey, h1, MapKept.run_setObj_map _ hb, Result.andThen, setBlock]
theorem zero_ask (w : World) : (zeroValue 70).run Tryz.prog w = .ok .nilFunc w := by kernel_rfl
theorem map_miss {w : World} {b clock : Nat} {es : Array MapEntry} (hb : w.heap[b]? = some (.map es clock)) {key : ByteArray} {l : Lit} (hkey : keyOf Tryz.prog 9 (.string key) = some l) (h1 : (Instr.findKey 9 (.string key) es.toList).run Tryz.prog w = .ok none w) :
    (Instr.lookup 72 (.map (some b)) (.string key) true).run Tryz.prog w = .ok (.tuple #[.nilFunc, .bool false]) w := by
  have K : KeyLaw Tryz.prog 9 := string_law Tryz.underlying9
  simp [Instr.lookup, run_underlying Tryz.underlying72, MapKept.run_getObj_map hb, K.check w _ hkey, h1, Result.andThen]
theorem map_hit {w : World} {b clock j : Nat} {es : Array MapEntry} {v : Value} (hb : w.heap[b]? = some (.map es clock)) {key : ByteArray} {l : Lit} (hkey : keyOf Tryz.prog 9 (.string key) = some l) (h1 : (Instr.findKey 9 (.string key) es.toList).run Tryz.prog w = .ok (some (j, v)) w) :
    (Instr.lookup 72 (.map (some b)) (.string key) true).run Tryz.prog w = .ok (.tuple #[v, .bool true]) w := by
  have K : KeyLaw Tryz.prog 9 := string_law Tryz.underlying9
  simp [Instr.lookup, run_underlying Tryz.underlying72, MapKept.run_getObj_map hb, K.check w _ hkey, h1, Result.andThen]
theorem ask_put (w : World) (n : Nat) (hn : n < 9) : (Instr.mapUpdate 72 (.map (some w.heap.size)) (.string (askWords.getD n ⟨#[]⟩)) (.func (.func (askFn n)) #[] #[])).run Tryz.prog (askMap w n) = .ok () (askMap w (n + 1)) := by
  have K : KeyLaw Tryz.prog 9 := string_law Tryz.underlying9
  have hkey := keyOf_string_mk (P := Tryz.prog) Tryz.underlying9 (s := askWords.getD n ⟨#[]⟩) (by have := askWord_size n hn; unfold maxLen; omega)
  have hb := askMap_at w n
  rcases K.find (askMap w n) hkey (askEntries n).toList (askKeys (by omega)) with ⟨h1, _⟩ | ⟨j, e, _, h2, h3⟩
  · rw [map_put hb hkey h1]
    have e2 : setBlock (askMap w n) w.heap.size (.map ((askEntries n).push ⟨.string (askWords.getD n ⟨#[]⟩), .func (.func (askFn n)) #[] #[], n⟩) (n + 1)) = askMap w (n + 1) := by
      show _ = setBlock (w.alloc (.map #[] 0)) w.heap.size (.map (askEntries (n + 1)) (n + 1))
      rw [askEntries_succ]
      exact setBlock_twice
    rw [e2]
  · obtain ⟨i, hi, rfl⟩ := ask_member (List.mem_of_getElem? h2)
    have h4 : askWords.getD i ⟨#[]⟩ = askWords.getD n ⟨#[]⟩ := Value.string.inj h3
    exact absurd h4 (askWord_inj i (by omega) n hn (by omega))
/-- What the map holds at a line. -/
theorem ask_look {W : World} {b : Nat} (hb : W.heap[b]? = some (.map (askEntries 9) 9)) (X : ByteArray) (hX : X.size ≤ maxLen) :
    (∃ k, k < 9 ∧ askWords.getD k ⟨#[]⟩ = X ∧ askAt X = some k ∧ (Instr.lookup 72 (.map (some b)) (.string X) true).run Tryz.prog W = .ok (.tuple #[.func (.func (askFn k)) #[] #[], .bool true]) W) ∨
    (askAt X = none ∧ (Instr.lookup 72 (.map (some b)) (.string X) true).run Tryz.prog W = .ok (.tuple #[.nilFunc, .bool false]) W) := by
  have K : KeyLaw Tryz.prog 9 := string_law Tryz.underlying9
  have hkey := keyOf_string_mk (P := Tryz.prog) Tryz.underlying9 (s := X) hX
  rcases K.find W hkey (askEntries 9).toList (askKeys (by omega)) with ⟨h1, h2⟩ | ⟨j, e, h1, h2, h3⟩
  · refine .inr ⟨ask_none fun i hi he => ?_, ?_⟩
    · have hm : askEntry i ∈ (askEntries 9).toList := by
        unfold askEntries
        rw [List.toList_toArray]
        exact List.mem_map.2 ⟨i, List.mem_range.2 hi, rfl⟩
      refine h2 _ hm ?_
      show Value.string _ = _
      rw [he]
    · exact map_miss hb hkey h1
  · obtain ⟨i, hi, rfl⟩ := ask_member (List.mem_of_getElem? h2)
    have hX2 : askWords.getD i ⟨#[]⟩ = X := Value.string.inj h3
    exact .inl ⟨i, hi, hX2, hX2 ▸ askAt_word hi, map_hit hb hkey h1⟩
set_option maxRecDepth 100000 in
set_option maxHeartbeats 800000 in
theorem questions_any (w : World) : Calls Tryz.prog 46 #[] w fun e w' => e = .returned (.map (some w.heap.size)) ∧ w' = askMap w 9 := by
  have r0 : (Instr.mapUpdate 72 (.map (some w.heap.size)) (.string ⟨#[119, 97, 108, 107]⟩) (.func (.func 88) #[] #[])).run Tryz.prog (w.alloc (.map #[] 0)) = .ok () (askMap w 1) := askMap_zero w ▸ ask_put w 0 (by omega)
  have r1 : (Instr.mapUpdate 72 (.map (some w.heap.size)) (.string ⟨#[101, 110, 100]⟩) (.func (.func 89) #[] #[])).run Tryz.prog (askMap w 1) = .ok () (askMap w 2) := ask_put w 1 (by omega)
  have r2 : (Instr.mapUpdate 72 (.map (some w.heap.size)) (.string ⟨#[99, 108, 111, 115, 101, 100]⟩) (.func (.func 90) #[] #[])).run Tryz.prog (askMap w 2) = .ok () (askMap w 3) := ask_put w 2 (by omega)
  have r3 : (Instr.mapUpdate 72 (.map (some w.heap.size)) (.string ⟨#[115, 105, 109, 112, 108, 101]⟩) (.func (.func 91) #[] #[])).run Tryz.prog (askMap w 3) = .ok () (askMap w 4) := ask_put w 3 (by omega)
  have r4 : (Instr.mapUpdate 72 (.map (some w.heap.size)) (.string ⟨#[97, 118, 111, 105, 100, 115]⟩) (.func (.func 92) #[] #[])).run Tryz.prog (askMap w 4) = .ok () (askMap w 5) := ask_put w 4 (by omega)
  have r5 : (Instr.mapUpdate 72 (.map (some w.heap.size)) (.string ⟨#[116, 117, 114, 110, 105, 110, 103]⟩) (.func (.func 93) #[] #[])).run Tryz.prog (askMap w 5) = .ok () (askMap w 6) := ask_put w 5 (by omega)
  have r6 : (Instr.mapUpdate 72 (.map (some w.heap.size)) (.string ⟨#[97, 114, 101, 97]⟩) (.func (.func 94) #[] #[])).run Tryz.prog (askMap w 6) = .ok () (askMap w 7) := ask_put w 6 (by omega)
  have r7 : (Instr.mapUpdate 72 (.map (some w.heap.size)) (.string ⟨#[119, 105, 110, 100, 105, 110, 103]⟩) (.func (.func 95) #[] #[])).run Tryz.prog (askMap w 7) = .ok () (askMap w 8) := ask_put w 7 (by omega)
  have r8 : (Instr.mapUpdate 72 (.map (some w.heap.size)) (.string ⟨#[115, 113, 117, 97, 114, 101, 115]⟩) (.func (.func 96) #[] #[])).run Tryz.prog (askMap w 8) = .ok () (askMap w 9) := ask_put w 8 (by omega)
  have hmk : (Instr.makeMap 72 none).run Tryz.prog w = .ok (.map (some w.heap.size)) (w.alloc (.map #[] 0)) := makeMap_run w
  go_enter Tryz.func46, Tryz.ntmps46
  go_wp2
  go_ret
  exact ⟨rfl, rfl⟩
theorem says_any (s : ByteArray) (a : Option Addr) (L c : Nat) (hok : Tw.walkOk s.data.toList = true) (k : Nat) (hk : k < 9) (w : World) (hw : DirsAt w) (hp : PowAt w) :
    Calls Tryz.prog (askFn k) #[.agg #[.string s, .slice a L c]] w (AskOut s k w) := by
  obtain rfl | rfl | rfl | rfl | rfl | rfl | rfl | rfl | rfl : k = 0 ∨ k = 1 ∨ k = 2 ∨ k = 3 ∨ k = 4 ∨ k = 5 ∨ k = 6 ∨ k = 7 ∨ k = 8 := by omega
  · exact sayWalk_any s a L c w hok hw hp
  · exact sayEnd_any s a L c w hok hw hp
  · exact sayClosed_any s a L c w hok hw hp
  · exact saySimple_any s a L c w hok hw hp
  · exact sayAvoids_any s a L c w hok hw hp
  · exact sayTurning_any s a L c w hok hw hp
  · exact sayArea_any s a L c w hok hw hp
  · exact sayWinding_any s a L c w hok hw hp
  · exact saySquares_any s a L c w hok hw hp

end Go.Proofs.YtccdfndnjjjgfaaGreatDoor

namespace Go.Proofs.YtccdfndnjjjgfaaGreatDoor
open Go.RowKit Go.Maps Go.WideMaps Go.MapKept

theorem ask_enters (k : Nat) (hk : k < 9) : ∀ args w, (callFunc (askFn k) args).run Tryz.prog w = .ok (.enter (askFn k) args) w := by
  obtain rfl | rfl | rfl | rfl | rfl | rfl | rfl | rfl | rfl : k = 0 ∨ k = 1 ∨ k = 2 ∨ k = 3 ∨ k = 4 ∨ k = 5 ∨ k = 6 ∨ k = 7 ∨ k = 8 := by omega
  · exact enters_of Tryz.func88 (by kernel_rfl) rfl
  · exact enters_of Tryz.func89 (by kernel_rfl) rfl
  · exact enters_of Tryz.func90 (by kernel_rfl) rfl
  · exact enters_of Tryz.func91 (by kernel_rfl) rfl
  · exact enters_of Tryz.func92 (by kernel_rfl) rfl
  · exact enters_of Tryz.func93 (by kernel_rfl) rfl
  · exact enters_of Tryz.func94 (by kernel_rfl) rfl
  · exact enters_of Tryz.func95 (by kernel_rfl) rfl
  · exact enters_of Tryz.func96 (by kernel_rfl) rfl
theorem look_yes {W : World} {b : Nat} (hb : W.heap[b]? = some (.map (askEntries 9) 9)) {X : ByteArray} (hX : X.size ≤ maxLen) {k : Nat} {f : FuncId} (h : askAt X = some k) (hf : askFn k = f) : (Instr.lookup 72 (.map (some b)) (.string X) true).run Tryz.prog W = .ok (.tuple #[.func (.func f) #[] #[], .bool true]) W := by
  rcases ask_look hb X hX with ⟨j, _, _, h2, h3⟩ | ⟨h2, _⟩
  · rw [h] at h2
    obtain rfl := Option.some.inj h2
    rw [h3, hf]
  · rw [h] at h2
    cases h2
theorem look_no {W : World} {b : Nat} (hb : W.heap[b]? = some (.map (askEntries 9) 9)) {X : ByteArray} (hX : X.size ≤ maxLen) (h : askAt X = none) : (Instr.lookup 72 (.map (some b)) (.string X) true).run Tryz.prog W = .ok (.tuple #[.nilFunc, .bool false]) W := by
  rcases ask_look hb X hX with ⟨j, _, _, h2, _⟩ | ⟨_, h3⟩
  · rw [h] at h2
    cases h2
  · exact h3
theorem questions_out (w : World) : Calls Tryz.prog 46 #[] w fun e w' => ∃ M, e = .returned (.map (some M)) ∧ w'.heap[M]? = some (.map (askEntries 9) 9) ∧ Below w.heap.size w w' := by
  refine (questions_any w).mono ?_
  rintro e w' ⟨rfl, rfl⟩
  exact ⟨_, rfl, askMap_at w 9, askMap_below w 9⟩
set_option maxRecDepth 100000 in
set_option maxHeartbeats 1600000 in
theorem implLine_ask (s : ByteArray) (a : Option Addr) (c L : Nat) (zs : List ByteArray) (X : ByteArray) (w : World) (h : PastAt w (.slice a L c) zs) (HL : Hid (zs.length = L)) (hok : Hid (deskOk s zs = true)) (hX : X.size ≤ 1048576) (hr : Hid (readOf X.data.toList = ((0, 0), false)))
    (hdd : DirsAt w) (hwd : WordsAt w) (hmx : MaxAt w) (hpw : PowAt w) (k : Nat) (hk : k < 9) (hat : askAt X = some k) (t : ByteArray) (htt : askText k s = t) :
    Calls Tryz.prog 21 #[.agg #[.string s, .slice a L c], .string X] w (LineOut w s zs t) := by
  obtain ⟨h1, h8, hz⟩ := deskOk_parts hok.out
  obtain ⟨e0, hsz, r0, r1⟩ := desk2_in w s (.slice a L c)
  obtain ⟨W, hW⟩ : ∃ W, deskBox2 w s (.slice a L c) = W := ⟨_, rfl⟩
  rw [hW] at e0 hsz r0 r1
  unfold deskBox2 at hW
  have HW := Lib.hid hW
  have HDK := Lib.hid (deskOk_namedI s (.slice a L c) zs W (e0.strs h.strs) (by have := ok_size h1; omega) (by omega) (fun z hz9 => by have := ok_size (hz z hz9); omega) true hok.out)
  have HRD : Hid (∀ Y, Ext w Y → Calls Tryz.prog 44 #[.string X] Y fun e w' => e = .returned (.tuple #[.agg #[.int .i64 0, .int .i64 0], .bool false]) ∧ Below Y.heap.size Y w') := fun Y hY => by
    refine (implReadDeed X Y (hwd.below' hY) (hmx.below' hY) hX).mono ?_
    rintro e w' ⟨he, hb⟩
    rw [hr.out] at he
    exact ⟨he, hb⟩
  have HCP : Hid (∀ Y, Ext W Y → Calls Tryz.prog 39 #[.agg #[.string s, .slice a L c]] Y fun e w' => ∃ a2 c2, e = .returned (.agg #[.string s, .slice a2 L c2]) ∧ PastAt w' (.slice a2 L c2) zs ∧ Fresh W.heap.size (.slice a2 L c2) ∧ Ext W w') := fun Y hY => by
    refine (copied_any s (.slice a L c) zs Y ((e0.trans hY).past h) (by omega)).mono ?_
    rw [HL.out]
    rintro e w' ⟨a2, c2, he, hp2, hf2, hb2⟩
    exact ⟨a2, c2, he, hp2, fresh_ext hY hf2, hY.call hb2⟩
  obtain ⟨f, hf⟩ : ∃ f, askFn k = f := ⟨_, rfl⟩
  have henter := ask_enters k hk
  have HF : Hid (∀ Y, Ext W Y → Calls Tryz.prog f #[.agg #[.string s, .slice a L c]] Y fun e w' => e = .returned (.string t) ∧ Ext W w' ∧ Ext Y w') := fun Y hY => by
    rw [← hf, ← htt]
    refine (says_any s a L c h1 k hk Y (hdd.below' (e0.trans hY)) (hpw.below' (e0.trans hY))).mono ?_
    rintro e w' ⟨he, hb⟩
    exact ⟨he, hY.call hb, hb⟩
  rw [hf] at henter
  have HLK : Hid (∀ (Y : World) (M : Nat), Y.heap[M]? = some (.map (askEntries 9) 9) → (Instr.lookup 72 (.map (some M)) (.string X) true).run Tryz.prog Y = .ok (.tuple #[.func (.func f) #[] #[], .bool true]) Y) := fun Y M hM => look_yes hM (by unfold maxLen; omega) hat hf
  have R0 := Lib.hid r0
  have R1 := Lib.hid r1
  have E0 := Lib.hid e0
  have c0 := cell_of_row _ _ 0 _ _ _ r0
  have c1 := cell_of_row _ _ 1 _ _ _ r0
  have HS : Hid (∀ Y, Ext W Y → Y.cell? ⟨w.heap.size, 0, none⟩ = some (.string s) ∧ Y.cell? ⟨w.heap.size, 1, none⟩ = some (.slice a L c)) := fun Y hY => ⟨cell_of_row _ _ 0 _ _ _ (hY.row R0.out), cell_of_row _ _ 1 _ _ _ (hY.row R0.out)⟩
  have hws : W.heap.size = w.heap.size + 2 := hsz
  clear hW r0 r1 h hdd hwd hmx hz h1 h8 e0 hf htt hat hpw hk hsz
  go_enter Tryz.func21, Tryz.ntmps21
  go_wp2_with fail
  rw [HW.out]
  go_upto_region 11 with (first
    | (go_at_call 27; refine HDK.out.mono ?_; rintro e w1 ⟨rfl, hb1⟩; have E1 : Hid (Ext W w1) := hb1; clear hb1)
    | (go_at_call 44; refine (HRD.out w1 (E0.out.trans E1.out)).mono ?_; rintro e w2 ⟨rfl, hb2⟩; have E2A : Hid (Ext W (w2.alloc (.cells #[.int .i64 0, .int .i64 0] 53))) := (Ext.call E1.out hb2).alloc _; clear hb2)
    | (go_at_call 46; refine (questions_out _).mono ?_; rintro e w3 ⟨M, rfl, hM, hb3⟩; have hlk := HLK.out w3 M hM; have E3 : Ext W w3 := Ext.call E2A.out hb3; clear hM hb3))
  obtain ⟨k0, k1⟩ := HS.out _ E3
  go_region_held3 (fun w' => w'.cell? ⟨w.heap.size, 0, none⟩ = some (.string s) ∧ w'.cell? ⟨w.heap.size, 1, none⟩ = some (.slice a L c))
    (first
      | exact HS.out _ (by assumption)
      | exact HS.out _ (Ext.drew (by assumption))
      | exact other_cells (by omega) (HS.out _ (by assumption)).1 (HS.out _ (by assumption)).2)
    (first
      | (go_at_call 39; refine (HCP.out _ (by first | assumption | exact Ext.drew (by assumption))).mono ?_; rintro e wC ⟨a2, c2, rfl, hpC, hfC, eC⟩; have PC := Lib.hid hpC; have FC := Lib.hid hfC; have hrC := eC.row R1.out; have f0 := frozen_of_row _ _ 0 _ _ hrC; have f1 := frozen_of_row _ _ 1 _ _ hrC; have m0 := cell_of_row _ _ 0 _ _ _ hrC; have m1 := cell_of_row _ _ 1 _ _ _ hrC; have q := pair_put hrC (.string s) (.slice a2 L c2); have q0 := cell_of_row _ _ 0 _ _ _ q; have q1 := cell_of_row _ _ 1 _ _ _ q; clear hpC hfC hrC q)
      | (go_at_fn f; refine (HF.out _ (by first | assumption | exact Ext.drew (by assumption))).mono ?_; rintro e wF ⟨rfl, eF, eY⟩; have hrF := eF.row R1.out; have f0 := frozen_of_row _ _ 0 _ _ hrF; have f1 := frozen_of_row _ _ 1 _ _ hrF; have m0 := cell_of_row _ _ 0 _ _ _ hrF; have m1 := cell_of_row _ _ 1 _ _ _ hrF; (first | (have PC := Lib.hid (eY.past PC.out)) | (have PC := Lib.hid (((Ext.refl _).drew.trans eY).past PC.out)) | skip); (first | (have q := pair_put hrF (.string s) (.slice a2 L c2); have q0 := cell_of_row _ _ 0 _ _ _ q; have q1 := cell_of_row _ _ 1 _ _ _ q; clear q) | skip); clear hrF))
  all_goals
    go_wp2
    refine bodyPost_ret (v := .tuple #[.agg #[.string s, .slice a2 L c2], .string t]) (by simp [results, Tryz.results21, go_sem, q0, q1]) rfl ?_
    exact line_done (R := w.heap.size + 1) (E0.out.trans (by assumption)) PC.out (fresh_ext E0.out FC.out) (fun h9 => by have := FC.out _ h9; omega) (by omega)
set_option maxRecDepth 100000 in
set_option maxHeartbeats 1600000 in
theorem implLine_curve (s : ByteArray) (a : Option Addr) (c L : Nat) (zs : List ByteArray) (X : ByteArray) (w : World) (h : PastAt w (.slice a L c) zs) (HL : Hid (zs.length = L)) (hok : Hid (deskOk s zs = true)) (hX : X.size ≤ 1048576) (hr : Hid (readOf X.data.toList = ((0, 0), false)))
    (hwd : WordsAt w) (hmx : MaxAt w) (hpw : PowAt w) (hat : askAt X = none) (t : ByteArray) (htt : curveText X.data.toList = t) :
    Calls Tryz.prog 21 #[.agg #[.string s, .slice a L c], .string X] w (LineOut w s zs t) := by
  obtain ⟨h1, h8, hz⟩ := deskOk_parts hok.out
  obtain ⟨e0, hsz, r0, r1⟩ := desk2_in w s (.slice a L c)
  obtain ⟨W, hW⟩ : ∃ W, deskBox2 w s (.slice a L c) = W := ⟨_, rfl⟩
  rw [hW] at e0 hsz r0 r1
  unfold deskBox2 at hW
  have HW := Lib.hid hW
  have HDK := Lib.hid (deskOk_namedI s (.slice a L c) zs W (e0.strs h.strs) (by have := ok_size h1; omega) (by omega) (fun z hz9 => by have := ok_size (hz z hz9); omega) true hok.out)
  have HRD : Hid (∀ Y, Ext w Y → Calls Tryz.prog 44 #[.string X] Y fun e w' => e = .returned (.tuple #[.agg #[.int .i64 0, .int .i64 0], .bool false]) ∧ Below Y.heap.size Y w') := fun Y hY => by
    refine (implReadDeed X Y (hwd.below' hY) (hmx.below' hY) hX).mono ?_
    rintro e w' ⟨he, hb⟩
    rw [hr.out] at he
    exact ⟨he, hb⟩
  have HCP : Hid (∀ Y, Ext W Y → Calls Tryz.prog 39 #[.agg #[.string s, .slice a L c]] Y fun e w' => ∃ a2 c2, e = .returned (.agg #[.string s, .slice a2 L c2]) ∧ PastAt w' (.slice a2 L c2) zs ∧ Fresh W.heap.size (.slice a2 L c2) ∧ Ext W w') := fun Y hY => by
    refine (copied_any s (.slice a L c) zs Y ((e0.trans hY).past h) (by omega)).mono ?_
    rw [HL.out]
    rintro e w' ⟨a2, c2, he, hp2, hf2, hb2⟩
    exact ⟨a2, c2, he, hp2, fresh_ext hY hf2, hY.call hb2⟩
  have HF : Hid (∀ Y, Ext W Y → Calls Tryz.prog 47 #[.string X] Y fun e w' => e = .returned (.string t) ∧ Ext W w' ∧ Ext Y w') := fun Y hY => by
    rw [← htt]
    refine (curveAnswer_any X Y (hmx.below' (e0.trans hY)) (hpw.below' (e0.trans hY)) hX).mono ?_
    rintro e w' ⟨he, hb⟩
    exact ⟨he, hY.call hb, hb⟩
  have HLK : Hid (∀ (Y : World) (M : Nat), Y.heap[M]? = some (.map (askEntries 9) 9) → (Instr.lookup 72 (.map (some M)) (.string X) true).run Tryz.prog Y = .ok (.tuple #[.nilFunc, .bool false]) Y) := fun Y M hM => look_no hM (by unfold maxLen; omega) hat
  have R0 := Lib.hid r0
  have R1 := Lib.hid r1
  have E0 := Lib.hid e0
  have c0 := cell_of_row _ _ 0 _ _ _ r0
  have c1 := cell_of_row _ _ 1 _ _ _ r0
  have hws : W.heap.size = w.heap.size + 2 := hsz
  clear hW r0 r1 h hwd hmx hz h1 h8 e0 htt hat hpw hsz
  go_enter Tryz.func21, Tryz.ntmps21
  go_wp2_with fail
  rw [HW.out]
  go_wp2_with (first
    | (go_at_call 27; refine HDK.out.mono ?_; rintro e w1 ⟨rfl, hb1⟩; have E1 : Hid (Ext W w1) := hb1; clear hb1)
    | (go_at_call 44; refine (HRD.out w1 (E0.out.trans E1.out)).mono ?_; rintro e w2 ⟨rfl, hb2⟩; have E2A : Hid (Ext W (w2.alloc (.cells #[.int .i64 0, .int .i64 0] 53))) := (Ext.call E1.out hb2).alloc _; clear hb2)
    | (go_at_call 46; refine (questions_out _).mono ?_; rintro e w3 ⟨M, rfl, hM, hb3⟩; have hlk := HLK.out w3 M hM; have E3 : Hid (Ext W w3) := Ext.call E2A.out hb3; have hra := E3.out.row R0.out; have k0 := cell_of_row _ _ 0 _ _ _ hra; have k1 := cell_of_row _ _ 1 _ _ _ hra; clear hM hb3 hra)
    | (go_at_call 39; refine (HCP.out _ E3.out).mono ?_; rintro e wC ⟨a2, c2, rfl, hpC, hfC, eC⟩; have PC := Lib.hid hpC; have FC := Lib.hid hfC; have EC := Lib.hid eC; clear hpC hfC eC)
    | (go_at_call 47; refine (HF.out _ EC.out).mono ?_; rintro e wF ⟨rfl, eF, eY⟩; have hrF := eF.row R1.out; have f0 := frozen_of_row _ _ 0 _ _ hrF; have f1 := frozen_of_row _ _ 1 _ _ hrF; have m0 := cell_of_row _ _ 0 _ _ _ hrF; have m1 := cell_of_row _ _ 1 _ _ _ hrF; have PF := Lib.hid (eY.past PC.out); have q := pair_put hrF (.string s) (.slice a2 L c2); have q0 := cell_of_row _ _ 0 _ _ _ q; have q1 := cell_of_row _ _ 1 _ _ _ q; clear q hrF))
  refine bodyPost_ret (v := .tuple #[.agg #[.string s, .slice a2 L c2], .string t]) (by simp [results, Tryz.results21, go_sem, q0, q1]) rfl ?_
  exact line_done (R := w.heap.size + 1) (E0.out.trans eF) PF.out (fresh_ext E0.out FC.out) (fun h9 => by have := FC.out _ h9; omega) (by omega)

end Go.Proofs.YtccdfndnjjjgfaaGreatDoor

namespace Go.Proofs.YtccdfndnjjjgfaaGreatDoor
open Go.RowKit

/-- The box O holds a desk, whose walks of before are younger than W. -/
structure Lin (W : World) (O : Nat) (s : ByteArray) (g c L : Nat) (zs : List ByteArray) (Y : World) : Prop where
  ext : Ext W Y
  box : Y.heap[O]? = some (.cells #[.string s, .slice (some ⟨g, 0, none⟩) L c] 27 (0, 0))
  past : PastAt Y (.slice (some ⟨g, 0, none⟩) L c) zs
  young : W.heap.size ≤ g
  high : W.heap.size ≤ O
variable {W Y Z : World} {O : Nat} {s : ByteArray} {g c L : Nat} {zs : List ByteArray}
theorem Lin.call (h : Lin W O s g c L zs Y) (hb : Below Y.heap.size Y Z) : Lin W O s g c L zs Z := ⟨h.ext.call hb, Ext.row hb h.box, Ext.past hb h.past, h.young, h.high⟩
theorem Lin.drew (h : Lin W O s g c L zs Y) : Lin W O s g c L zs Y.drew := h.call (Ext.refl Y).drew
theorem Lin.alloc (h : Lin W O s g c L zs Y) (o : Obj) : Lin W O s g c L zs (Y.alloc o) := h.call ((Ext.refl Y).alloc o)
theorem Lin.cells (h : Lin W O s g c L zs Y) : Y.cell? ⟨O, 0, none⟩ = some (.string s) ∧ Y.cell? ⟨O, 1, none⟩ = some (.slice (some ⟨g, 0, none⟩) L c) := ⟨cell_of_row _ _ 0 _ _ _ h.box, cell_of_row _ _ 1 _ _ _ h.box⟩
theorem Lin.fresh (h : Lin W O s g c L zs Y) : Fresh W.heap.size (.slice (some ⟨g, 0, none⟩) L c) := fun b hb => by
  have e : g = b := Option.some.inj hb
  have := h.young
  omega
theorem lin_new {x : ByteArray} (h : Ext W Y) (hp : PastAt Y (.slice (some ⟨g, 0, none⟩) L c) zs) (hg : W.heap.size ≤ g) : Lin W Y.heap.size x g c L zs (Y.alloc (.cells #[.string x, .slice (some ⟨g, 0, none⟩) L c] 27)) :=
  ⟨h.alloc _, heap_alloc_new _ _, ((Ext.refl Y).alloc _).past hp, hg, h.size⟩
theorem lin_grown {B : Nat} {W7 : World} (h : Lin W O s g c L zs Y) (hb : Below B Y Z) (h7 : Lin W O s g c L zs W7) (hB : W7.heap.size ≤ B) : Lin W O s g c L zs Z :=
  ⟨Below.trans h.ext (hb.mono (Nat.le_trans h7.ext.size hB)), (hb.block _ (Nat.lt_of_lt_of_le (lt_at h7.box) hB)).trans h.box, past_belowB h.past (fun _ hg => Nat.lt_of_lt_of_le (past_lt h7.past hg) hB) hb, h.young, h.high⟩
/-- The desk is the result, at the world behind the store. -/
theorem lin_done {w : World} {t : ByteArray} (e0 : Ext w W) (h : Lin W O s g c L zs Y) (hW : W.heap.size = w.heap.size + 2) :
    LineOut w s zs t (.returned (.tuple #[.agg #[.string s, .slice (some ⟨g, 0, none⟩) L c], .string t])) ((Y.setCell ⟨w.heap.size + 1, 0, none⟩ (.string s)).setCell ⟨w.heap.size + 1, 1, none⟩ (.slice (some ⟨g, 0, none⟩) L c)) :=
  line_done (R := w.heap.size + 1) (e0.trans h.ext) h.past (fresh_ext e0 h.fresh) (fun h9 => by have e : g = _ := Option.some.inj h9; have := h.young; omega) (by omega)
theorem line_drew {w X : World} {x : ByteArray} {ys : List ByteArray} {t : ByteArray} {e : Ending} (h : LineOut w x ys t e X) : LineOut w x ys t e X.drew := by
  obtain ⟨v', he, hp, hf, hb⟩ := h
  exact ⟨v', he, Ext.past (Ext.refl X).drew hp, hf, hb.drew⟩

end Go.Proofs.YtccdfndnjjjgfaaGreatDoor

namespace Go.Proofs.YtccdfndnjjjgfaaGreatDoor
open Go.RowKit

/-- The places from the first step on are all different, up to one. -/
def Apart (l : List UInt8) (k : Nat) : Prop := ∀ i j, 1 ≤ i → i < j → j < k → Tw.placeAt l i ≠ Tw.placeAt l j
theorem apart_more {l : List UInt8} {k m : Nat} {p q : Int × Int} (h : ∀ i, 1 ≤ i → i < m → Tw.placeAt l i ≠ Tw.placeAt l k) (hp : Tw.placeAt l k = p) (hq : Tw.placeAt l m = q) (hne : ¬ p = q) (i : Nat) (h1 : 1 ≤ i) (h2 : i < m + 1) : Tw.placeAt l i ≠ Tw.placeAt l k := by
  by_cases hi : i = m
  · subst hi
    rw [hp, hq]
    exact fun e => hne e.symm
  · exact h i h1 (by omega)
theorem apart_next {l : List UInt8} {k : Nat} (h : Apart l k) (h2 : ∀ i, 1 ≤ i → i < k → Tw.placeAt l i ≠ Tw.placeAt l k) : Apart l (k + 1) := fun i j h1 hij hj => by
  by_cases hjk : j = k
  · subst hjk
    exact h2 i h1 hij
  · exact h i j h1 hij (by omega)
theorem end_start {l : List UInt8} (h : Tw.closed l = true) : Tw.placeAt l l.length = Tw.placeAt l 0 := by
  rw [Tw.placeAt_all, Tw.placeAt_zero]
  unfold Tw.closed at h
  simp at h
  exact h.2
theorem simple_dup {l : List UInt8} {i j : Nat} (h1 : 1 ≤ i) (hij : i < j) (hj : j ≤ l.length) (h : Tw.placeAt l j = Tw.placeAt l i) : Tw.simple l = false := by
  rw [Bool.eq_false_iff]
  intro hs
  have hc : Tw.closed l = true := by unfold Tw.simple at hs; simp at hs; exact hs.1
  have hr := (Tw.simple_iff hc).1 hs
  by_cases hjl : j = l.length
  · rw [hjl, end_start hc] at h
    exact hr 0 i (by omega) (by omega) h
  · exact hr i j hij (by omega) h.symm
theorem simple_apart {l : List UInt8} (h : Apart l (l.length + 1)) : Tw.simple l = Tw.closed l := by
  cases hc : Tw.closed l
  · exact Tw.simple_open hc
  · refine (Tw.simple_iff hc).2 (fun i j hij hj e => ?_)
    by_cases hi : i = 0
    · subst hi
      rw [← end_start hc] at e
      exact h j l.length (by omega) hj (by omega) e.symm
    · exact h i j (by omega) hij (by omega) e

set_option maxRecDepth 100000 in
set_option maxHeartbeats 3200000 in
theorem specSimple_is (s : ByteArray) (w : World) (hs : s.size ≤ 1048576) (hok : Tw.walkOk s.data.toList = true) :
    Calls Tryz.prog 54 #[.string s] w fun e w' => e = .returned (.bool (Tw.simple s.data.toList)) ∧ Below w.heap.size w w' := by
  have HOK := Lib.hid hok
  clear hok
  have h40 : s.size ≤ 40 := by have := Tw.walkOk_len HOK.out; rwa [size_data] at this
  obtain ⟨ps, hps⟩ : ∃ ps, Tw.places s.data.toList = ps := ⟨_, rfl⟩
  obtain ⟨n, hn⟩ : ∃ n, ps.length = n := ⟨_, rfl⟩
  have hn41 : 1 ≤ n ∧ n ≤ 41 := by rw [← hn, ← hps, Tw.places_length, size_data]; omega
  have hpa : ∀ i, i < n → ps[i]? = some (Tw.placeAt s.data.toList i) := fun i hi => by
    rw [← hps]
    exact Tw.placesTo_get? _ _ _ (by rw [← hn, ← hps, Tw.places_length] at hi; exact hi)
  have hns : n = s.data.toList.length + 1 := by rw [← hn, ← hps, Tw.places_length]
  have HPA := Lib.hid hpa
  have HNS := Lib.hid hns
  have HPS := Lib.hid hps
  have HN := Lib.hid hn
  clear hps hn hpa hns
  have hcl := fun W => specClosedOk s W hs
  obtain ⟨c, hc⟩ : ∃ c, Tw.closed s.data.toList = c := ⟨_, rfl⟩
  rw [hc] at hcl
  have HCC := Lib.hid hc
  have HCL := Lib.hid hcl
  clear hcl hc
  go_enter Tryz.func54, Tryz.ntmps54
  go_wp2_with (first
    | (go_at_call 50; refine (specPlacesOf_n _ _ hs HOK.out ps n HPS.out HN.out).mono ?_; rintro e w1 ⟨g, cap, bs, rfl, hbl, hown, hrows, hb1⟩))
  have HBL := Lib.hid hbl
  clear hbl
  have hgb := hown.lt g rfl
  have hcell : Hid (∀ (i : Nat), i < n → ∃ (p : Int × Int) (b : Nat), Tw.placeAt s.data.toList i = p ∧ b < w1.heap.size ∧ w1.cell? ⟨g, i, none⟩ = some (.slice (some ⟨b, 0, none⟩) 2 2) ∧ w1.cell? ⟨b, 0, none⟩ = some (.int .i64 p.1) ∧ w1.cell? ⟨b, 1, none⟩ = some (.int .i64 p.2)) := by
    intro i hi
    have hp : ps[i]? = some (ps[i]'(by rw [HN.out]; exact hi)) := List.getElem?_eq_getElem _
    have hbb : bs[i]? = some (bs[i]'(by rw [HBL.out]; exact hi)) := List.getElem?_eq_getElem _
    have hh := hrows i _ _ hp hbb
    have he := HPA.out i hi
    rw [hp] at he
    exact ⟨_, _, (Option.some.inj he).symm, lt_of_heap hh, row_cell hown hbb, (pair_cells hh).1, (pair_cells hh).2⟩
  clear hrows
  go_loopw [4, 5] (fun i _ wr => ∃ k : Nat, 1 ≤ k ∧ k ≤ n ∧ i = .int .i64 k ∧ Below w1.heap.size w1 wr ∧ Hid (Apart s.data.toList k)) (fun i _ _ => n - (intOf i).toNat)
  case atStart => exact ⟨1, Nat.le_refl _, by omega, rfl, Below.refl _ _, fun i j h1 h2 h3 => by omega⟩
  case round =>
    obtain ⟨k, hk1, hk, rfl, hbr, HAP⟩ := hrel
    by_cases hlt : k < n
    · go_wp2_with fail
      obtain ⟨wo, hwo⟩ : ∃ wo : World, wo = wr := ⟨_, rfl⟩
      subst hwo
      go_loopw [5] (fun j wr => ∃ m : Nat, 1 ≤ m ∧ m ≤ k ∧ j = .int .i64 m ∧ Below w1.heap.size w1 wr ∧ Hid (∀ i, 1 ≤ i → i < m → Tw.placeAt s.data.toList i ≠ Tw.placeAt s.data.toList k)) (fun j _ => k - (intOf j).toNat)
      case atStart => exact ⟨1, Nat.le_refl _, hk1, rfl, hbr, fun i h1 h2 => by omega⟩
      case round =>
        obtain ⟨m, hm1, hm, rfl, hbr2, HAM⟩ := hrel
        by_cases hlt2 : m < k
        · obtain ⟨p, b, hpk, hb, c1, c2, c3⟩ := hcell.out k hlt
          obtain ⟨q, d, hqm, hd, e1, e2, e3⟩ := hcell.out m (by omega)
          have HPK := Lib.hid hpk
          have HQM := Lib.hid hqm
          clear hpk hqm
          have C1 := (hbr2.cell (p := ⟨g, k, none⟩) hgb.2).trans c1
          have C2 := (hbr2.cell (p := ⟨b, 0, none⟩) hb).trans c2
          have C3 := (hbr2.cell (p := ⟨b, 1, none⟩) hb).trans c3
          have E1 := (hbr2.cell (p := ⟨g, m, none⟩) hgb.2).trans e1
          have E2 := (hbr2.cell (p := ⟨d, 0, none⟩) hd).trans e2
          have E3 := (hbr2.cell (p := ⟨d, 1, none⟩) hd).trans e3
          clear c1 c2 c3 e1 e2 e3
          have i1 : (0 : Int) ≤ (k : Int) := by omega
          have i2 : (k : Int) < (n : Int) := by omega
          have i3 : (0 : Int) ≤ (m : Int) := by omega
          have i4 : (m : Int) < (n : Int) := by omega
          have i5 : (m : Int) < (k : Int) := by omega
          cases hx1 : (p.1 == q.1)
          · have HNE : Hid (¬ p = q) := fun e => by rw [e] at hx1; simp at hx1
            go_wp2_with fail
            go_quiet (fail)
            go_wp2
            go_roundw
            case rel => exact ⟨m + 1, by omega, by omega, by go_num, below_drewN hbr2 _, fun i h1 h2 => apart_more HAM.out HPK.out HQM.out HNE.out i h1 h2⟩
            case measure => simp [intOf]; omega
          · cases hy1 : (p.2 == q.2)
            · have HNE : Hid (¬ p = q) := fun e => by rw [e] at hy1; simp at hy1
              go_wp2_with fail
              go_quiet (fail)
              go_wp2
              go_roundw
              case rel => exact ⟨m + 1, by omega, by omega, by go_num, below_drewN hbr2 _, fun i h1 h2 => apart_more HAM.out HPK.out HQM.out HNE.out i h1 h2⟩
              case measure => simp [intOf]; omega
            · have HEQ : Hid (p = q) := Prod.ext (beq_iff_eq.1 hx1) (beq_iff_eq.1 hy1)
              go_wp2_with fail
              go_quiet (fail)
              go_wp2
              go_ret
              exact ⟨ret_bool (simple_dup hm1 hlt2 (by have := HNS.out; omega) (by rw [HPK.out, HQM.out, HEQ.out])).symm, below_drewN (hb1.trans (hbr2.mono hb1.size)) _⟩
        · obtain rfl : m = k := by omega
          go_wp2
          go_roundw
          case rel => exact ⟨m + 1, by omega, by omega, by go_num, hbr2, apart_next HAP.out HAM.out⟩
          case measure => simp [intOf]; omega
    · obtain rfl : k = n := by omega
      go_wp2_with (first | (go_at_call 53; refine (HCL.out _).mono ?_; rintro e w2 ⟨rfl, hb2⟩))
      go_ret
      exact ⟨ret_bool (by rw [← HCC.out]; exact (simple_apart (by rw [← HNS.out]; exact HAP.out)).symm), (hb1.trans (hbr.mono hb1.size)).trans (hb2.mono (hb1.trans (hbr.mono hb1.size)).size)⟩
set_option maxHeartbeats 800000 in
theorem specSimple_eq (s : ByteArray) (w : World) (hs : s.size ≤ 1048576) (hok : Tw.walkOk s.data.toList = true) (b : Bool) (h : Tw.simple s.data.toList = b) :
    Calls Tryz.prog 54 #[.string s] w fun e w' => e = .returned (.bool b) ∧ Below w.heap.size w w' := by
  rw [← h]
  exact specSimple_is s w hs hok

end Go.Proofs.YtccdfndnjjjgfaaGreatDoor

namespace Go.Proofs.YtccdfndnjjjgfaaGreatDoor
open Go.RowKit

/-- What the loops over the squares have seen. -/
def MostSeen (us : List (Int × Int × Int)) (M X Y : Int) : Prop := (∀ x y, -20 ≤ x → x < X → -20 ≤ y → y ≤ 20 → Tw.wind us x y ≤ M ∧ -Tw.wind us x y ≤ M) ∧ (∀ y, -20 ≤ y → y < Y → Tw.wind us X y ≤ M ∧ -Tw.wind us X y ≤ M) ∧ (M = 0 ∨ ∃ x y, Tw.wind us x y = M ∨ -Tw.wind us x y = M)
theorem MostSeen.step {us : List (Int × Int × Int)} {M X Y : Int} (h : MostSeen us M X Y) : MostSeen us (max M (max (Tw.wind us X Y) (-Tw.wind us X Y))) X (Y + 1) := by
  obtain ⟨h1, h2, h3⟩ := h
  refine ⟨fun x y a b c d => ?_, fun y a b => ?_, ?_⟩
  · have := h1 x y a b c d
    clear h1 h2 h3
    omega
  · by_cases hy : y = Y
    · subst hy
      clear h1 h2 h3
      omega
    · have := h2 y a (by omega)
      clear h1 h2 h3
      omega
  · by_cases hz : max (Tw.wind us X Y) (-Tw.wind us X Y) ≤ M
    · rw [Int.max_eq_left hz]
      exact h3
    · refine .inr ⟨X, Y, ?_⟩
      clear h1 h2 h3
      omega
theorem MostSeen.next {us : List (Int × Int × Int)} {M X : Int} (h : MostSeen us M X 21) : MostSeen us M (X + 1) (-20) := by
  obtain ⟨h1, h2, h3⟩ := h
  refine ⟨fun x y a b c d => ?_, fun y a b => absurd b (by omega), h3⟩
  by_cases hx : x = X
  · subst hx
    exact h2 y c (by omega)
  · exact h1 x y a (by omega) c d

set_option maxRecDepth 100000 in
set_option maxHeartbeats 3200000 in
theorem specMost (s : ByteArray) (w : World) (hs : s.size ≤ 1048576) :
    Calls Tryz.prog 59 #[.string s] w fun e w' => e = .returned (.int .i64 (Tw.mostRes s.data.toList)) ∧ Below w.heap.size w w' := by
  have HC := Lib.hid (fun W => specClosedOk s W hs)
  cases hcl : Tw.closed s.data.toList
  · rw [hcl] at HC
    have HCL := Lib.hid hcl
    clear hcl
    go_enter Tryz.func59, Tryz.ntmps59
    go_wp2
    refine wp_loop_rounds 1 ?_
    rw [rounds_succ]
    go_wp2_with (first
      | (go_at_call 53; first
          | (refine (HC.out w).mono ?_; rintro e w1 ⟨rfl, hb1⟩)
          | (refine (HC.out w1).mono ?_; rintro e w2 ⟨rfl, hb2⟩)))
    go_ret
    exact ⟨by unfold Tw.mostRes; rw [HCL.out]; rfl, hb1.trans (hb2.mono hb1.size)⟩
  · rw [hcl] at HC
    have HCL := Lib.hid hcl
    have HMO := Lib.hid (fun m => Tw.mostRes_is (m := m) hcl)
    have HWO : Hid (∀ x y, x < -20 ∨ 20 ≤ x ∨ y < -20 ∨ 20 ≤ y → Tw.wind (Tw.ups s.data.toList) x y = 0) := fun x y h => Tw.wind_out hcl h
    have HWB : Hid (∀ x y, -40 ≤ Tw.wind (Tw.ups s.data.toList) x y ∧ Tw.wind (Tw.ups s.data.toList) x y ≤ 40) := fun x y => by
      have h1 := Tw.wind_farther (Tw.ups s.data.toList) x y Tw.ups_signs
      have h2 := Tw.ups_len s.data.toList (0, 0)
      have h3 := Tw.walkOk_len (Tw.closed_ok hcl)
      have h4 : (Tw.ups s.data.toList).length ≤ s.data.toList.length := h2
      omega
    have HWI := Lib.hid (fun x y W => specWindingOf s x y W hs hcl)
    obtain ⟨us, hus⟩ : ∃ us, Tw.ups s.data.toList = us := ⟨_, rfl⟩
    rw [hus] at HMO HWO HWB HWI
    clear hcl hus
    go_enter Tryz.func59, Tryz.ntmps59
    go_wp2
    go_loopw [3, 4, 5, 6] (fun m xv _ _ wr => ∃ M X : Int, m = .int .i64 M ∧ xv = .int .i64 X ∧ -20 ≤ X ∧ X ≤ 21 ∧ 0 ≤ M ∧ M ≤ 40 ∧ Hid (MostSeen us M X (-20)) ∧ Below w.heap.size w wr) (fun _ xv _ _ _ => (21 - intOf xv).toNat)
    case atStart => exact ⟨0, -20, rfl, rfl, by omega, by omega, by omega, by omega, ⟨fun x y a b => absurd b (by omega), fun y a b => absurd b (by omega), .inl rfl⟩, Below.refl _ _⟩
    case round =>
      obtain ⟨M, X, rfl, rfl, hX0, hX1, hM0, hM1, HS, hbr⟩ := hrel
      by_cases hlt : X ≤ 20
      · go_wp2_with (first
          | (go_at_call 53; refine (HC.out _).mono ?_; rintro e w1 ⟨rfl, hb1⟩))
        have hbr1 := hbr.trans (hb1.mono hbr.size)
        go_loopw [3, 5, 6] (fun m yv _ wq => ∃ M Y : Int, m = .int .i64 M ∧ yv = .int .i64 Y ∧ -20 ≤ Y ∧ Y ≤ 21 ∧ 0 ≤ M ∧ M ≤ 40 ∧ Hid (MostSeen us M X Y) ∧ Below w.heap.size w wq) (fun _ yv _ _ => (21 - intOf yv).toNat)
        case atStart => exact ⟨M, -20, rfl, rfl, by omega, by omega, hM0, hM1, HS, hbr1⟩
        case round =>
          obtain ⟨M2, Y, rfl, rfl, hY0, hY1, hN0, hN1, HQ, hbq⟩ := hrel
          by_cases hlt2 : Y ≤ 20
          · have hwb := HWB.out X Y
            have hst := HQ.out.step
            have hwi := HWI.out X Y
            obtain ⟨v, hv⟩ : ∃ v, Tw.wind us X Y = v := ⟨_, rfl⟩
            rw [hv] at hwb hst hwi
            have HST := Lib.hid hst
            have HWV := Lib.hid hwi
            clear hst hwi hv
            go_wp2_with (first
              | (go_at_call 108; refine (HWV.out _).mono ?_; rintro e w2 ⟨rfl, hb2⟩))
            go_roundw
            case rel => exact ⟨max M2 (max v (-v)), Y + 1, rfl, rfl, by omega, by omega, by omega, by omega, HST, hbq.trans (hb2.mono hbq.size)⟩
            case measure => simp [intOf]; omega
          · obtain rfl : Y = 21 := by omega
            go_wp2_with fail
            go_roundw
            case rel => exact ⟨M2, X + 1, rfl, rfl, by omega, by omega, hN0, hN1, HQ.out.next, hbq⟩
            case measure => simp [intOf]; omega
      · obtain rfl : X = 21 := by omega
        go_wp2_with (first
          | (go_at_call 53; refine (HC.out _).mono ?_; rintro e w1 ⟨rfl, hb1⟩))
        go_ret
        refine ⟨?_, hbr.trans (hb1.mono hbr.size)⟩
        have hmost : Tw.Most us M := by
          refine ⟨hM0, fun x y => ?_, HS.out.2.2⟩
          by_cases hxy : x < -20 ∨ 20 ≤ x ∨ y < -20 ∨ 20 ≤ y
          · rw [HWO.out x y hxy]
            omega
          · exact HS.out.1 x y (by omega) (by omega) (by omega) (by omega)
        rw [HMO.out M hmost]
        rfl

set_option maxRecDepth 100000 in
set_option maxHeartbeats 3200000 in
theorem specSquares (s : ByteArray) (w : World) (hs : s.size ≤ 1048576) (hok : Tw.walkOk s.data.toList = true) :
    Calls Tryz.prog 60 #[.string s] w fun e w' => e = .returned (.int .i64 (Tw.squaresRes s.data.toList)) ∧ Below w.heap.size w w' := by
  have hc := specSimple_is s w hs hok
  cases hsm : Tw.simple s.data.toList
  · rw [hsm] at hc
    have HC := Lib.hid hc
    have HSM := Lib.hid hsm
    clear hc hsm
    go_enter Tryz.func60, Tryz.ntmps60
    go_wp2_with (first
      | (go_at_call 54; refine HC.out.mono ?_; rintro e w1 ⟨rfl, hb1⟩))
    go_ret
    exact ⟨by unfold Tw.squaresRes; rw [HSM.out]; rfl, hb1⟩
  · rw [hsm] at hc
    have HC := Lib.hid hc
    have HSR : Hid (Tw.squaresRes s.data.toList = (Tw.inside s.data.toList : Int)) := by show _ = _; unfold Tw.squaresRes; rw [if_pos hsm]
    have HWI := Lib.hid (fun x y W => specWithin s x y W hok)
    obtain ⟨us, hus⟩ : ∃ us, Tw.ups s.data.toList = us := ⟨_, rfl⟩
    have HIN : Hid (Tw.inside s.data.toList = Tw.sumTo (-40) 81 (fun x => Tw.sumTo (-40) 81 (fun y => Tw.odd1 us x y))) := by show _ = _; unfold Tw.inside; rw [hus]
    have HB1 : Hid (∀ x (j : Nat), j ≤ 81 → Tw.sumTo (-40) j (fun y => Tw.odd1 us x y) ≤ 81) := fun x j hj => by
      have := Tw.sumTo_le (a := -40) (n := j) (f := fun y => Tw.odd1 us x y) (c := 1) (fun y => by show Tw.farther _ _ _ % 2 ≤ 1; omega)
      omega
    have HB2 : Hid (∀ (i : Nat), i ≤ 81 → Tw.sumTo (-40) i (fun x => Tw.sumTo (-40) 81 (fun y => Tw.odd1 us x y)) ≤ 6561) := fun i hi => by
      have := Tw.sumTo_le (a := -40) (n := i) (f := fun x => Tw.sumTo (-40) 81 (fun y => Tw.odd1 us x y)) (c := 81) (fun x => HB1.out x 81 (by omega))
      omega
    rw [hus] at HWI
    clear hc hsm hus
    go_enter Tryz.func60, Tryz.ntmps60
    go_wp2_with (first
      | (go_at_call 54; refine HC.out.mono ?_; rintro e w1 ⟨rfl, hb1⟩))
    go_loop [3, 4, 5] (fun nv xv _ => ∃ (m i : Nat), nv = .int .i64 m ∧ xv = .int .i64 ((i : Int) - 40) ∧ i ≤ 81 ∧ m ≤ 10000 ∧ Hid (Tw.sumTo (-40) i (fun x => Tw.sumTo (-40) 81 (fun y => Tw.odd1 us x y)) = m)) (fun _ xv _ => (41 - intOf xv).toNat)
    case atStart => exact ⟨0, 0, rfl, rfl, by omega, by omega, rfl⟩
    case round =>
      obtain ⟨m, i, rfl, rfl, hi, hm, HM⟩ := hrel
      obtain ⟨X, hX⟩ : ∃ X : Int, (i : Int) - 40 = X := ⟨_, rfl⟩
      rw [hX]
      by_cases hlt : X ≤ 40
      · have hX0 : -40 ≤ X := by omega
        have HX := Lib.hid hX
        clear hX
        go_wp2_with fail
        go_loop [3, 5] (fun nv yv => ∃ (m2 j : Nat) (Y : Int), nv = .int .i64 m2 ∧ yv = .int .i64 Y ∧ Hid ((j : Int) - 40 = Y) ∧ -40 ≤ Y ∧ Y ≤ 41 ∧ m2 ≤ 10000 ∧ Hid (m + Tw.sumTo (-40) j (fun y => Tw.odd1 us X y) = m2)) (fun _ yv => (41 - intOf yv).toNat)
        case atStart => exact ⟨m, 0, -40, rfl, rfl, by show _ = _; omega, by omega, by omega, hm, rfl⟩
        case round =>
          obtain ⟨m2, j, Y, rfl, rfl, HY, hY0, hY1, hm2, HM2⟩ := hrel
          by_cases hlt2 : Y ≤ 40
          · have hwi := HWI.out X Y
            have hb := HB1.out X (j + 1) (by have := HY.out; omega)
            have hb2 := HB2.out i hi
            rw [HM.out] at hb2
            have hsu : Tw.sumTo (-40) (j + 1) (fun y => Tw.odd1 us X y) = Tw.sumTo (-40) j (fun y => Tw.odd1 us X y) + Tw.odd1 us X Y := by
              show Tw.sumTo (-40) j (fun y => Tw.odd1 us X y) + Tw.odd1 us X (-40 + (j : Int)) = _
              rw [show -40 + (j : Int) = Y from by have := HY.out; omega]
            rw [hsu] at hb
            have hm2' := HM2.out
            obtain ⟨o, ho⟩ : ∃ o, Tw.odd1 us X Y = o := ⟨_, rfl⟩
            have ho2 : o = 0 ∨ o = 1 := by rw [← ho]; show Tw.farther _ _ _ % 2 = 0 ∨ Tw.farther _ _ _ % 2 = 1; omega
            rw [ho] at hwi hb hsu
            have HSU := Lib.hid hsu
            have HWV := Lib.hid hwi
            have hmb : m2 + o ≤ 10000 := by omega
            clear hwi hb hb2 hsu hm2' ho
            rcases ho2 with rfl | rfl
            · go_wp2_with (first
                | (go_at_call 109; refine (HWV.out _).mono ?_; rintro e w2 ⟨rfl, rfl⟩))
              go_round
              case rel => exact ⟨m2, j + 1, Y + 1, rfl, rfl, by show _ = _; have := HY.out; omega, by omega, by omega, hm2, by show _ = _; rw [HSU.out]; exact HM2.out⟩
              case measure => simp [intOf]; omega
            · go_wp2_with (first
                | (go_at_call 109; refine (HWV.out _).mono ?_; rintro e w2 ⟨rfl, rfl⟩))
              go_round
              case rel => exact ⟨m2 + 1, j + 1, Y + 1, by go_num, rfl, by show _ = _; have := HY.out; omega, by omega, by omega, by omega, by show _ = _; rw [HSU.out, ← Nat.add_assoc, HM2.out]⟩
              case measure => simp [intOf]; omega
          · obtain rfl : Y = 41 := by omega
            obtain rfl : j = 81 := by have := HY.out; omega
            go_wp2_with fail
            go_round
            case rel =>
              refine ⟨m2, i + 1, rfl, ?_, by have := HX.out; omega, hm2, ?_⟩
              · have := HX.out
                exact congrArg (Value.int .i64) (by omega)
              · show Tw.sumTo (-40) i (fun x => Tw.sumTo (-40) 81 (fun y => Tw.odd1 us x y)) + Tw.sumTo (-40) 81 (fun y => Tw.odd1 us (-40 + (i : Int)) y) = m2
                rw [HM.out, show -40 + (i : Int) = X from by have := HX.out; omega]
                exact HM2.out
            case measure => simp [intOf]; omega
      · obtain rfl : i = 81 := by omega
        obtain rfl : X = 41 := by omega
        clear hX
        go_wp2_with fail
        go_ret
        refine ⟨?_, hb1⟩
        rw [HSR.out, HIN.out, HM.out]
        rfl

end Go.Proofs.YtccdfndnjjjgfaaGreatDoor

namespace Go.Proofs.YtccdfndnjjjgfaaGreatDoor
open Go.RowKit

set_option maxRecDepth 100000 in
set_option maxHeartbeats 1600000 in
theorem specLine_0 (s : ByteArray) (a : Option Addr) (c L : Nat) (zs : List ByteArray) (X : ByteArray) (w : World) (h : StrsAt w (.slice a L c) zs) (HL : Hid (zs.length = L)) (hok : Hid (deskOk s zs = true)) (hX : X.size ≤ 1048576) (hr : Hid (readOf X.data.toList = ((0, 0), false))) (hXe : X = ⟨#[119, 97, 108, 107]⟩) :
    Calls Tryz.prog 22 #[.agg #[.string s, .slice a L c], .string X] w (LineOut w s zs (askText 0 s)) := by
  have q0 : (X.toList == [119, 97, 108, 107]) = true := by rw [Lib.toList_data, hXe]; decide
  obtain ⟨h1, h8, hz⟩ := deskOk_parts hok.out
  have h40 : s.size ≤ 40 := by have := Tw.walkOk_len h1; rwa [size_data] at this
  obtain ⟨e0, hsz, r0, r1⟩ := desk2_in w s (.slice a L c)
  obtain ⟨W, hW⟩ : ∃ W, deskBox2 w s (.slice a L c) = W := ⟨_, rfl⟩
  rw [hW] at e0 hsz r0 r1
  unfold deskBox2 at hW
  have HW := Lib.hid hW
  have HDK := Lib.hid (deskOk_named s (.slice a L c) zs W (e0.strs h) (by have := ok_size h1; omega) (by omega) (fun z hz9 => by have := ok_size (hz z hz9); omega) true hok.out)
  have HRD : Hid (∀ Y : World, Calls Tryz.prog 48 #[.string X] Y fun e w' => e = .returned (.tuple #[.agg #[.int .i64 0, .int .i64 0], .bool false]) ∧ Below Y.heap.size Y w') := fun Y => by
    refine (specReadDeed X Y hX).mono ?_
    rintro e w' ⟨he, hb⟩
    rw [hr.out] at he
    exact ⟨he, hb⟩
  have HCP : Hid (∀ Y, Ext W Y → Calls Tryz.prog 38 #[.agg #[.string s, .slice a L c]] Y fun e w' => ∃ g2 c2, e = .returned (.agg #[.string s, .slice (some ⟨g2, 0, none⟩) L c2]) ∧ PastAt w' (.slice (some ⟨g2, 0, none⟩) L c2) zs ∧ W.heap.size ≤ g2 ∧ Ext W w') := fun Y hY => by
    refine (copy_named s (.slice a L c) zs Y ((e0.trans hY).strs h) L HL.out (by have := HL.out; omega)).mono ?_
    rintro e w' ⟨g2, c2, he, hown2, hp2, hb2⟩
    exact ⟨g2, c2, he, hp2, by have := (hown2.lt g2 rfl).1; have := hY.size; omega, hY.call hb2⟩
  have R0 := Lib.hid r0
  have R1 := Lib.hid r1
  have E0 := Lib.hid e0
  have c0 := cell_of_row _ _ 0 _ _ _ r0
  have c1 := cell_of_row _ _ 1 _ _ _ r0
  have HWS := Lib.hid hsz
  have hs : s.size ≤ 1048576 := by omega
  have f9 : ¬ 9223372036854775807 < 1 + s.size := by omega
  have HT : Hid (askText 0 s = ⟨#[58]⟩ ++ s) := rfl
  obtain ⟨t, ht⟩ : ∃ t, askText 0 s = t := ⟨_, rfl⟩
  rw [ht] at HT ⊢
  clear hW r0 r1 h hz h1 h8 e0 hsz hXe ht
  go_enter Tryz.func22, Tryz.ntmps22
  go_wp2_with fail
  rw [HW.out]
  go_upto_region 13 with (first
    | (go_at_call 24; refine HDK.out.mono ?_; rintro e w1 ⟨rfl, hb1⟩; have E1 : Ext W w1 := hb1; have hr1 := E1.row R0.out; have k0 := cell_of_row _ _ 0 _ _ _ hr1; have k1 := cell_of_row _ _ 1 _ _ _ hr1; clear hb1 hr1)
    | (go_at_call 38; refine (HCP.out w1 E1).mono ?_; rintro e w2 ⟨g2, c2, rfl, hp2, hg2, E2⟩; have hO : w.heap.size + 1 < w2.heap.size := (by have h8 := E2.size; have h9 := HWS.out; omega); have l3 := lin_new (x := s) E2 hp2 hg2; clear hp2 hg2)
    | (go_at_call 48; refine (HRD.out _).mono ?_; rintro e w4 ⟨rfl, hb4⟩; have l4 := (l3.call hb4).alloc (.cells #[.int .i64 0, .int .i64 0] 53); have hr4 := l4.ext.row R0.out; have l0 := cell_of_row _ _ 0 _ _ _ hr4; have hrr := l4.ext.row R1.out; have f0 := frozen_of_row _ _ 0 _ _ hrr; have f1 := frozen_of_row _ _ 1 _ _ hrr; have m0 := cell_of_row _ _ 0 _ _ _ hrr; have m1 := cell_of_row _ _ 1 _ _ _ hrr; have n0 := l4.cells.1; have n1 := l4.cells.2; have qq := pair_put hrr (.string s) (.slice (some ⟨g2, 0, none⟩) L c2); have rq0 := cell_of_row _ _ 0 _ _ _ qq; have rq1 := cell_of_row _ _ 1 _ _ _ qq; clear hrr qq; clear hb4 hr4))
  have HT2 : t = ⟨#[58]⟩ ++ s := HT.out
  subst HT2
  go_wp2
  refine bodyPost_ret (v := .tuple #[.agg #[.string s, .slice (some ⟨g2, 0, none⟩) L c2], .string (⟨#[58]⟩ ++ s)]) (by simp [results, Tryz.results22, go_sem, rq0, rq1]) rfl ?_
  exact lin_done E0.out l4 HWS.out
set_option maxRecDepth 100000 in
set_option maxHeartbeats 1600000 in
theorem specLine_2 (s : ByteArray) (a : Option Addr) (c L : Nat) (zs : List ByteArray) (X : ByteArray) (w : World) (h : StrsAt w (.slice a L c) zs) (HL : Hid (zs.length = L)) (hok : Hid (deskOk s zs = true)) (hX : X.size ≤ 1048576) (hr : Hid (readOf X.data.toList = ((0, 0), false))) (hXe : X = ⟨#[99, 108, 111, 115, 101, 100]⟩) :
    Calls Tryz.prog 22 #[.agg #[.string s, .slice a L c], .string X] w (LineOut w s zs (askText 2 s)) := by
  have q0 : (X.toList == [119, 97, 108, 107]) = false := by rw [Lib.toList_data, hXe]; decide
  have q1 : (X.toList == [101, 110, 100]) = false := by rw [Lib.toList_data, hXe]; decide
  have q2 : (X.toList == [99, 108, 111, 115, 101, 100]) = true := by rw [Lib.toList_data, hXe]; decide
  obtain ⟨h1, h8, hz⟩ := deskOk_parts hok.out
  have h40 : s.size ≤ 40 := by have := Tw.walkOk_len h1; rwa [size_data] at this
  obtain ⟨e0, hsz, r0, r1⟩ := desk2_in w s (.slice a L c)
  obtain ⟨W, hW⟩ : ∃ W, deskBox2 w s (.slice a L c) = W := ⟨_, rfl⟩
  rw [hW] at e0 hsz r0 r1
  unfold deskBox2 at hW
  have HW := Lib.hid hW
  have HDK := Lib.hid (deskOk_named s (.slice a L c) zs W (e0.strs h) (by have := ok_size h1; omega) (by omega) (fun z hz9 => by have := ok_size (hz z hz9); omega) true hok.out)
  have HRD : Hid (∀ Y : World, Calls Tryz.prog 48 #[.string X] Y fun e w' => e = .returned (.tuple #[.agg #[.int .i64 0, .int .i64 0], .bool false]) ∧ Below Y.heap.size Y w') := fun Y => by
    refine (specReadDeed X Y hX).mono ?_
    rintro e w' ⟨he, hb⟩
    rw [hr.out] at he
    exact ⟨he, hb⟩
  have HCP : Hid (∀ Y, Ext W Y → Calls Tryz.prog 38 #[.agg #[.string s, .slice a L c]] Y fun e w' => ∃ g2 c2, e = .returned (.agg #[.string s, .slice (some ⟨g2, 0, none⟩) L c2]) ∧ PastAt w' (.slice (some ⟨g2, 0, none⟩) L c2) zs ∧ W.heap.size ≤ g2 ∧ Ext W w') := fun Y hY => by
    refine (copy_named s (.slice a L c) zs Y ((e0.trans hY).strs h) L HL.out (by have := HL.out; omega)).mono ?_
    rintro e w' ⟨g2, c2, he, hown2, hp2, hb2⟩
    exact ⟨g2, c2, he, hp2, by have := (hown2.lt g2 rfl).1; have := hY.size; omega, hY.call hb2⟩
  have R0 := Lib.hid r0
  have R1 := Lib.hid r1
  have E0 := Lib.hid e0
  have c0 := cell_of_row _ _ 0 _ _ _ r0
  have c1 := cell_of_row _ _ 1 _ _ _ r0
  have HWS := Lib.hid hsz
  have hs : s.size ≤ 1048576 := by omega
  have hc := fun Y => specClosedOk s Y hs
  obtain ⟨b, hb⟩ : ∃ b, Tw.closed s.data.toList = b := ⟨_, rfl⟩
  have HT : Hid (askText 2 s = yesText b) := by show _ = _; rw [← hb]; rfl
  simp only [hb] at hc
  have HC := Lib.hid hc
  have hy := l12Yes_any b
  obtain ⟨t, ht⟩ : ∃ t, askText 2 s = t := ⟨_, rfl⟩
  rw [ht] at HT ⊢
  clear hW r0 r1 h hz h1 h8 e0 hsz hXe ht hc hb
  go_enter Tryz.func22, Tryz.ntmps22
  go_wp2_with fail
  rw [HW.out]
  go_upto_region 19 with (first
    | (go_at_call 24; refine HDK.out.mono ?_; rintro e w1 ⟨rfl, hb1⟩; have E1 : Ext W w1 := hb1; have hr1 := E1.row R0.out; have k0 := cell_of_row _ _ 0 _ _ _ hr1; have k1 := cell_of_row _ _ 1 _ _ _ hr1; clear hb1 hr1)
    | (go_at_call 38; refine (HCP.out w1 E1).mono ?_; rintro e w2 ⟨g2, c2, rfl, hp2, hg2, E2⟩; have hO : w.heap.size + 1 < w2.heap.size := (by have h8 := E2.size; have h9 := HWS.out; omega); have l3 := lin_new (x := s) E2 hp2 hg2; clear hp2 hg2)
    | (go_at_call 48; refine (HRD.out _).mono ?_; rintro e w4 ⟨rfl, hb4⟩; have l4 := (l3.call hb4).alloc (.cells #[.int .i64 0, .int .i64 0] 53); have hr4 := l4.ext.row R0.out; have l0 := cell_of_row _ _ 0 _ _ _ hr4; have hrr := l4.ext.row R1.out; have f0 := frozen_of_row _ _ 0 _ _ hrr; have f1 := frozen_of_row _ _ 1 _ _ hrr; have m0 := cell_of_row _ _ 0 _ _ _ hrr; have m1 := cell_of_row _ _ 1 _ _ _ hrr; have n0 := l4.cells.1; have n1 := l4.cells.2; have qq := pair_put hrr (.string s) (.slice (some ⟨g2, 0, none⟩) L c2); have rq0 := cell_of_row _ _ 0 _ _ _ qq; have rq1 := cell_of_row _ _ 1 _ _ _ qq; clear hrr qq; clear hb4 hr4))
  have HT2 : yesText b = t := HT.out.symm
  rw [HT2] at hy
  have HY := Lib.hid hy
  clear hy HT2
  go_region_held3 (fun w' => w'.cell? ⟨w2.heap.size, 0, none⟩ = some (.string s) ∧ w'.cell? ⟨w2.heap.size, 1, none⟩ = some (.slice (some ⟨g2, 0, none⟩) L c2))
    (first
      | exact Lin.cells (by assumption)
      | exact (Lin.drew (by assumption)).cells
      | exact other_cells (by omega) (Lin.cells (by assumption)).1 (Lin.cells (by assumption)).2)
    (first
      | (go_at_call 52; refine (HY.out _).mono ?_; rintro e wB ⟨rfl, rfl⟩)
      | (go_at_call 53; refine (HC.out _).mono ?_; rintro e wA ⟨rfl, hbA⟩; have lA : Lin W w2.heap.size s g2 c2 L zs wA := Lin.call (by first | assumption | exact Lin.drew (by assumption)) hbA; have hrr := lA.ext.row R1.out; have f0 := frozen_of_row _ _ 0 _ _ hrr; have f1 := frozen_of_row _ _ 1 _ _ hrr; have m0 := cell_of_row _ _ 0 _ _ _ hrr; have m1 := cell_of_row _ _ 1 _ _ _ hrr; have n0 := lA.cells.1; have n1 := lA.cells.2; have qq := pair_put hrr (.string s) (.slice (some ⟨g2, 0, none⟩) L c2); have rq0 := cell_of_row _ _ 0 _ _ _ qq; have rq1 := cell_of_row _ _ 1 _ _ _ qq; clear hrr qq))
  all_goals
    go_wp2
    refine bodyPost_ret (v := .tuple #[.agg #[.string s, .slice (some ⟨g2, 0, none⟩) L c2], .string t]) (by simp [results, Tryz.results22, go_sem, rq0, rq1]) rfl ?_
    exact lin_done E0.out (by first | assumption | exact Lin.drew (by assumption)) HWS.out
set_option maxRecDepth 100000 in
set_option maxHeartbeats 1600000 in
theorem specLine_3 (s : ByteArray) (a : Option Addr) (c L : Nat) (zs : List ByteArray) (X : ByteArray) (w : World) (h : StrsAt w (.slice a L c) zs) (HL : Hid (zs.length = L)) (hok : Hid (deskOk s zs = true)) (hX : X.size ≤ 1048576) (hr : Hid (readOf X.data.toList = ((0, 0), false))) (hXe : X = ⟨#[115, 105, 109, 112, 108, 101]⟩) :
    Calls Tryz.prog 22 #[.agg #[.string s, .slice a L c], .string X] w (LineOut w s zs (askText 3 s)) := by
  have q0 : (X.toList == [119, 97, 108, 107]) = false := by rw [Lib.toList_data, hXe]; decide
  have q1 : (X.toList == [101, 110, 100]) = false := by rw [Lib.toList_data, hXe]; decide
  have q2 : (X.toList == [99, 108, 111, 115, 101, 100]) = false := by rw [Lib.toList_data, hXe]; decide
  have q3 : (X.toList == [115, 105, 109, 112, 108, 101]) = true := by rw [Lib.toList_data, hXe]; decide
  obtain ⟨h1, h8, hz⟩ := deskOk_parts hok.out
  have h40 : s.size ≤ 40 := by have := Tw.walkOk_len h1; rwa [size_data] at this
  obtain ⟨e0, hsz, r0, r1⟩ := desk2_in w s (.slice a L c)
  obtain ⟨W, hW⟩ : ∃ W, deskBox2 w s (.slice a L c) = W := ⟨_, rfl⟩
  rw [hW] at e0 hsz r0 r1
  unfold deskBox2 at hW
  have HW := Lib.hid hW
  have HDK := Lib.hid (deskOk_named s (.slice a L c) zs W (e0.strs h) (by have := ok_size h1; omega) (by omega) (fun z hz9 => by have := ok_size (hz z hz9); omega) true hok.out)
  have HRD : Hid (∀ Y : World, Calls Tryz.prog 48 #[.string X] Y fun e w' => e = .returned (.tuple #[.agg #[.int .i64 0, .int .i64 0], .bool false]) ∧ Below Y.heap.size Y w') := fun Y => by
    refine (specReadDeed X Y hX).mono ?_
    rintro e w' ⟨he, hb⟩
    rw [hr.out] at he
    exact ⟨he, hb⟩
  have HCP : Hid (∀ Y, Ext W Y → Calls Tryz.prog 38 #[.agg #[.string s, .slice a L c]] Y fun e w' => ∃ g2 c2, e = .returned (.agg #[.string s, .slice (some ⟨g2, 0, none⟩) L c2]) ∧ PastAt w' (.slice (some ⟨g2, 0, none⟩) L c2) zs ∧ W.heap.size ≤ g2 ∧ Ext W w') := fun Y hY => by
    refine (copy_named s (.slice a L c) zs Y ((e0.trans hY).strs h) L HL.out (by have := HL.out; omega)).mono ?_
    rintro e w' ⟨g2, c2, he, hown2, hp2, hb2⟩
    exact ⟨g2, c2, he, hp2, by have := (hown2.lt g2 rfl).1; have := hY.size; omega, hY.call hb2⟩
  have R0 := Lib.hid r0
  have R1 := Lib.hid r1
  have E0 := Lib.hid e0
  have c0 := cell_of_row _ _ 0 _ _ _ r0
  have c1 := cell_of_row _ _ 1 _ _ _ r0
  have HWS := Lib.hid hsz
  have hs : s.size ≤ 1048576 := by omega
  have hc := fun Y => specSimple_is s Y hs h1
  obtain ⟨b, hb⟩ : ∃ b, Tw.simple s.data.toList = b := ⟨_, rfl⟩
  have HT : Hid (askText 3 s = yesText b) := by show _ = _; rw [← hb]; rfl
  simp only [hb] at hc
  have HC := Lib.hid hc
  have hy := l12Yes_any b
  obtain ⟨t, ht⟩ : ∃ t, askText 3 s = t := ⟨_, rfl⟩
  rw [ht] at HT ⊢
  clear hW r0 r1 h hz h1 h8 e0 hsz hXe ht hc hb
  go_enter Tryz.func22, Tryz.ntmps22
  go_wp2_with fail
  rw [HW.out]
  go_upto_region 21 with (first
    | (go_at_call 24; refine HDK.out.mono ?_; rintro e w1 ⟨rfl, hb1⟩; have E1 : Ext W w1 := hb1; have hr1 := E1.row R0.out; have k0 := cell_of_row _ _ 0 _ _ _ hr1; have k1 := cell_of_row _ _ 1 _ _ _ hr1; clear hb1 hr1)
    | (go_at_call 38; refine (HCP.out w1 E1).mono ?_; rintro e w2 ⟨g2, c2, rfl, hp2, hg2, E2⟩; have hO : w.heap.size + 1 < w2.heap.size := (by have h8 := E2.size; have h9 := HWS.out; omega); have l3 := lin_new (x := s) E2 hp2 hg2; clear hp2 hg2)
    | (go_at_call 48; refine (HRD.out _).mono ?_; rintro e w4 ⟨rfl, hb4⟩; have l4 := (l3.call hb4).alloc (.cells #[.int .i64 0, .int .i64 0] 53); have hr4 := l4.ext.row R0.out; have l0 := cell_of_row _ _ 0 _ _ _ hr4; have hrr := l4.ext.row R1.out; have f0 := frozen_of_row _ _ 0 _ _ hrr; have f1 := frozen_of_row _ _ 1 _ _ hrr; have m0 := cell_of_row _ _ 0 _ _ _ hrr; have m1 := cell_of_row _ _ 1 _ _ _ hrr; have n0 := l4.cells.1; have n1 := l4.cells.2; have qq := pair_put hrr (.string s) (.slice (some ⟨g2, 0, none⟩) L c2); have rq0 := cell_of_row _ _ 0 _ _ _ qq; have rq1 := cell_of_row _ _ 1 _ _ _ qq; clear hrr qq; clear hb4 hr4))
  have HT2 : yesText b = t := HT.out.symm
  rw [HT2] at hy
  have HY := Lib.hid hy
  clear hy HT2
  go_region_held3 (fun w' => w'.cell? ⟨w2.heap.size, 0, none⟩ = some (.string s) ∧ w'.cell? ⟨w2.heap.size, 1, none⟩ = some (.slice (some ⟨g2, 0, none⟩) L c2))
    (first
      | exact Lin.cells (by assumption)
      | exact (Lin.drew (by assumption)).cells
      | exact other_cells (by omega) (Lin.cells (by assumption)).1 (Lin.cells (by assumption)).2)
    (first
      | (go_at_call 52; refine (HY.out _).mono ?_; rintro e wB ⟨rfl, rfl⟩)
      | (go_at_call 54; refine (HC.out _).mono ?_; rintro e wA ⟨rfl, hbA⟩; have lA : Lin W w2.heap.size s g2 c2 L zs wA := Lin.call (by first | assumption | exact Lin.drew (by assumption)) hbA; have hrr := lA.ext.row R1.out; have f0 := frozen_of_row _ _ 0 _ _ hrr; have f1 := frozen_of_row _ _ 1 _ _ hrr; have m0 := cell_of_row _ _ 0 _ _ _ hrr; have m1 := cell_of_row _ _ 1 _ _ _ hrr; have n0 := lA.cells.1; have n1 := lA.cells.2; have qq := pair_put hrr (.string s) (.slice (some ⟨g2, 0, none⟩) L c2); have rq0 := cell_of_row _ _ 0 _ _ _ qq; have rq1 := cell_of_row _ _ 1 _ _ _ qq; clear hrr qq))
  all_goals
    go_wp2
    refine bodyPost_ret (v := .tuple #[.agg #[.string s, .slice (some ⟨g2, 0, none⟩) L c2], .string t]) (by simp [results, Tryz.results22, go_sem, rq0, rq1]) rfl ?_
    exact lin_done E0.out (by first | assumption | exact Lin.drew (by assumption)) HWS.out
set_option maxRecDepth 100000 in
set_option maxHeartbeats 1600000 in
theorem specLine_4 (s : ByteArray) (a : Option Addr) (c L : Nat) (zs : List ByteArray) (X : ByteArray) (w : World) (h : StrsAt w (.slice a L c) zs) (HL : Hid (zs.length = L)) (hok : Hid (deskOk s zs = true)) (hX : X.size ≤ 1048576) (hr : Hid (readOf X.data.toList = ((0, 0), false))) (hXe : X = ⟨#[97, 118, 111, 105, 100, 115]⟩) :
    Calls Tryz.prog 22 #[.agg #[.string s, .slice a L c], .string X] w (LineOut w s zs (askText 4 s)) := by
  have q0 : (X.toList == [119, 97, 108, 107]) = false := by rw [Lib.toList_data, hXe]; decide
  have q1 : (X.toList == [101, 110, 100]) = false := by rw [Lib.toList_data, hXe]; decide
  have q2 : (X.toList == [99, 108, 111, 115, 101, 100]) = false := by rw [Lib.toList_data, hXe]; decide
  have q3 : (X.toList == [115, 105, 109, 112, 108, 101]) = false := by rw [Lib.toList_data, hXe]; decide
  have q4 : (X.toList == [97, 118, 111, 105, 100, 115]) = true := by rw [Lib.toList_data, hXe]; decide
  obtain ⟨h1, h8, hz⟩ := deskOk_parts hok.out
  have h40 : s.size ≤ 40 := by have := Tw.walkOk_len h1; rwa [size_data] at this
  obtain ⟨e0, hsz, r0, r1⟩ := desk2_in w s (.slice a L c)
  obtain ⟨W, hW⟩ : ∃ W, deskBox2 w s (.slice a L c) = W := ⟨_, rfl⟩
  rw [hW] at e0 hsz r0 r1
  unfold deskBox2 at hW
  have HW := Lib.hid hW
  have HDK := Lib.hid (deskOk_named s (.slice a L c) zs W (e0.strs h) (by have := ok_size h1; omega) (by omega) (fun z hz9 => by have := ok_size (hz z hz9); omega) true hok.out)
  have HRD : Hid (∀ Y : World, Calls Tryz.prog 48 #[.string X] Y fun e w' => e = .returned (.tuple #[.agg #[.int .i64 0, .int .i64 0], .bool false]) ∧ Below Y.heap.size Y w') := fun Y => by
    refine (specReadDeed X Y hX).mono ?_
    rintro e w' ⟨he, hb⟩
    rw [hr.out] at he
    exact ⟨he, hb⟩
  have HCP : Hid (∀ Y, Ext W Y → Calls Tryz.prog 38 #[.agg #[.string s, .slice a L c]] Y fun e w' => ∃ g2 c2, e = .returned (.agg #[.string s, .slice (some ⟨g2, 0, none⟩) L c2]) ∧ PastAt w' (.slice (some ⟨g2, 0, none⟩) L c2) zs ∧ W.heap.size ≤ g2 ∧ Ext W w') := fun Y hY => by
    refine (copy_named s (.slice a L c) zs Y ((e0.trans hY).strs h) L HL.out (by have := HL.out; omega)).mono ?_
    rintro e w' ⟨g2, c2, he, hown2, hp2, hb2⟩
    exact ⟨g2, c2, he, hp2, by have := (hown2.lt g2 rfl).1; have := hY.size; omega, hY.call hb2⟩
  have R0 := Lib.hid r0
  have R1 := Lib.hid r1
  have E0 := Lib.hid e0
  have c0 := cell_of_row _ _ 0 _ _ _ r0
  have c1 := cell_of_row _ _ 1 _ _ _ r0
  have HWS := Lib.hid hsz
  have hs : s.size ≤ 1048576 := by omega
  have hc := fun Y => specAvoidsOk s Y hs
  obtain ⟨b, hb⟩ : ∃ b, Tw.avoids s.data.toList = b := ⟨_, rfl⟩
  have HT : Hid (askText 4 s = yesText b) := by show _ = _; rw [← hb]; rfl
  simp only [hb] at hc
  have HC := Lib.hid hc
  have hy := l12Yes_any b
  obtain ⟨t, ht⟩ : ∃ t, askText 4 s = t := ⟨_, rfl⟩
  rw [ht] at HT ⊢
  clear hW r0 r1 h hz h1 h8 e0 hsz hXe ht hc hb
  go_enter Tryz.func22, Tryz.ntmps22
  go_wp2_with fail
  rw [HW.out]
  go_upto_region 23 with (first
    | (go_at_call 24; refine HDK.out.mono ?_; rintro e w1 ⟨rfl, hb1⟩; have E1 : Ext W w1 := hb1; have hr1 := E1.row R0.out; have k0 := cell_of_row _ _ 0 _ _ _ hr1; have k1 := cell_of_row _ _ 1 _ _ _ hr1; clear hb1 hr1)
    | (go_at_call 38; refine (HCP.out w1 E1).mono ?_; rintro e w2 ⟨g2, c2, rfl, hp2, hg2, E2⟩; have hO : w.heap.size + 1 < w2.heap.size := (by have h8 := E2.size; have h9 := HWS.out; omega); have l3 := lin_new (x := s) E2 hp2 hg2; clear hp2 hg2)
    | (go_at_call 48; refine (HRD.out _).mono ?_; rintro e w4 ⟨rfl, hb4⟩; have l4 := (l3.call hb4).alloc (.cells #[.int .i64 0, .int .i64 0] 53); have hr4 := l4.ext.row R0.out; have l0 := cell_of_row _ _ 0 _ _ _ hr4; have hrr := l4.ext.row R1.out; have f0 := frozen_of_row _ _ 0 _ _ hrr; have f1 := frozen_of_row _ _ 1 _ _ hrr; have m0 := cell_of_row _ _ 0 _ _ _ hrr; have m1 := cell_of_row _ _ 1 _ _ _ hrr; have n0 := l4.cells.1; have n1 := l4.cells.2; have qq := pair_put hrr (.string s) (.slice (some ⟨g2, 0, none⟩) L c2); have rq0 := cell_of_row _ _ 0 _ _ _ qq; have rq1 := cell_of_row _ _ 1 _ _ _ qq; clear hrr qq; clear hb4 hr4))
  have HT2 : yesText b = t := HT.out.symm
  rw [HT2] at hy
  have HY := Lib.hid hy
  clear hy HT2
  go_region_held3 (fun w' => w'.cell? ⟨w2.heap.size, 0, none⟩ = some (.string s) ∧ w'.cell? ⟨w2.heap.size, 1, none⟩ = some (.slice (some ⟨g2, 0, none⟩) L c2))
    (first
      | exact Lin.cells (by assumption)
      | exact (Lin.drew (by assumption)).cells
      | exact other_cells (by omega) (Lin.cells (by assumption)).1 (Lin.cells (by assumption)).2)
    (first
      | (go_at_call 52; refine (HY.out _).mono ?_; rintro e wB ⟨rfl, rfl⟩)
      | (go_at_call 55; refine (HC.out _).mono ?_; rintro e wA ⟨rfl, hbA⟩; have lA : Lin W w2.heap.size s g2 c2 L zs wA := Lin.call (by first | assumption | exact Lin.drew (by assumption)) hbA; have hrr := lA.ext.row R1.out; have f0 := frozen_of_row _ _ 0 _ _ hrr; have f1 := frozen_of_row _ _ 1 _ _ hrr; have m0 := cell_of_row _ _ 0 _ _ _ hrr; have m1 := cell_of_row _ _ 1 _ _ _ hrr; have n0 := lA.cells.1; have n1 := lA.cells.2; have qq := pair_put hrr (.string s) (.slice (some ⟨g2, 0, none⟩) L c2); have rq0 := cell_of_row _ _ 0 _ _ _ qq; have rq1 := cell_of_row _ _ 1 _ _ _ qq; clear hrr qq))
  all_goals
    go_wp2
    refine bodyPost_ret (v := .tuple #[.agg #[.string s, .slice (some ⟨g2, 0, none⟩) L c2], .string t]) (by simp [results, Tryz.results22, go_sem, rq0, rq1]) rfl ?_
    exact lin_done E0.out (by first | assumption | exact Lin.drew (by assumption)) HWS.out
set_option maxRecDepth 100000 in
set_option maxHeartbeats 1600000 in
theorem specLine_5 (s : ByteArray) (a : Option Addr) (c L : Nat) (zs : List ByteArray) (X : ByteArray) (w : World) (h : StrsAt w (.slice a L c) zs) (HL : Hid (zs.length = L)) (hok : Hid (deskOk s zs = true)) (hX : X.size ≤ 1048576) (hr : Hid (readOf X.data.toList = ((0, 0), false))) (hXe : X = ⟨#[116, 117, 114, 110, 105, 110, 103]⟩) :
    Calls Tryz.prog 22 #[.agg #[.string s, .slice a L c], .string X] w (LineOut w s zs (askText 5 s)) := by
  have q0 : (X.toList == [119, 97, 108, 107]) = false := by rw [Lib.toList_data, hXe]; decide
  have q1 : (X.toList == [101, 110, 100]) = false := by rw [Lib.toList_data, hXe]; decide
  have q2 : (X.toList == [99, 108, 111, 115, 101, 100]) = false := by rw [Lib.toList_data, hXe]; decide
  have q3 : (X.toList == [115, 105, 109, 112, 108, 101]) = false := by rw [Lib.toList_data, hXe]; decide
  have q4 : (X.toList == [97, 118, 111, 105, 100, 115]) = false := by rw [Lib.toList_data, hXe]; decide
  have q5 : (X.toList == [116, 117, 114, 110, 105, 110, 103]) = true := by rw [Lib.toList_data, hXe]; decide
  obtain ⟨h1, h8, hz⟩ := deskOk_parts hok.out
  have h40 : s.size ≤ 40 := by have := Tw.walkOk_len h1; rwa [size_data] at this
  obtain ⟨e0, hsz, r0, r1⟩ := desk2_in w s (.slice a L c)
  obtain ⟨W, hW⟩ : ∃ W, deskBox2 w s (.slice a L c) = W := ⟨_, rfl⟩
  rw [hW] at e0 hsz r0 r1
  unfold deskBox2 at hW
  have HW := Lib.hid hW
  have HDK := Lib.hid (deskOk_named s (.slice a L c) zs W (e0.strs h) (by have := ok_size h1; omega) (by omega) (fun z hz9 => by have := ok_size (hz z hz9); omega) true hok.out)
  have HRD : Hid (∀ Y : World, Calls Tryz.prog 48 #[.string X] Y fun e w' => e = .returned (.tuple #[.agg #[.int .i64 0, .int .i64 0], .bool false]) ∧ Below Y.heap.size Y w') := fun Y => by
    refine (specReadDeed X Y hX).mono ?_
    rintro e w' ⟨he, hb⟩
    rw [hr.out] at he
    exact ⟨he, hb⟩
  have HCP : Hid (∀ Y, Ext W Y → Calls Tryz.prog 38 #[.agg #[.string s, .slice a L c]] Y fun e w' => ∃ g2 c2, e = .returned (.agg #[.string s, .slice (some ⟨g2, 0, none⟩) L c2]) ∧ PastAt w' (.slice (some ⟨g2, 0, none⟩) L c2) zs ∧ W.heap.size ≤ g2 ∧ Ext W w') := fun Y hY => by
    refine (copy_named s (.slice a L c) zs Y ((e0.trans hY).strs h) L HL.out (by have := HL.out; omega)).mono ?_
    rintro e w' ⟨g2, c2, he, hown2, hp2, hb2⟩
    exact ⟨g2, c2, he, hp2, by have := (hown2.lt g2 rfl).1; have := hY.size; omega, hY.call hb2⟩
  have R0 := Lib.hid r0
  have R1 := Lib.hid r1
  have E0 := Lib.hid e0
  have c0 := cell_of_row _ _ 0 _ _ _ r0
  have c1 := cell_of_row _ _ 1 _ _ _ r0
  have HWS := Lib.hid hsz
  have hs : s.size ≤ 1048576 := by omega
  have hc := fun Y => specTurningOf s Y hs
  have hn := turn_bound s.data.toList (by rw [size_data]; exact hs)
  obtain ⟨n, hnn⟩ : ∃ n, (if Tw.closed s.data.toList then turningOf s.data.toList else 0) = n := ⟨_, rfl⟩
  obtain ⟨b, hb⟩ : ∃ b, Tw.closed s.data.toList = b := ⟨_, rfl⟩
  have HT : Hid (askText 5 s = toldText n b) := by show _ = _; rw [← hnn, ← hb]; rfl
  simp only [hnn] at hc hn
  simp only [hb] at hc
  have HC := Lib.hid hc
  have hy := l12Told_any n b (by omega) (by omega)
  obtain ⟨t, ht⟩ : ∃ t, askText 5 s = t := ⟨_, rfl⟩
  rw [ht] at HT ⊢
  clear hW r0 r1 h hz h1 h8 e0 hsz hXe ht hc hb hnn hn
  go_enter Tryz.func22, Tryz.ntmps22
  go_wp2_with fail
  rw [HW.out]
  go_upto_region 25 with (first
    | (go_at_call 24; refine HDK.out.mono ?_; rintro e w1 ⟨rfl, hb1⟩; have E1 : Ext W w1 := hb1; have hr1 := E1.row R0.out; have k0 := cell_of_row _ _ 0 _ _ _ hr1; have k1 := cell_of_row _ _ 1 _ _ _ hr1; clear hb1 hr1)
    | (go_at_call 38; refine (HCP.out w1 E1).mono ?_; rintro e w2 ⟨g2, c2, rfl, hp2, hg2, E2⟩; have hO : w.heap.size + 1 < w2.heap.size := (by have h8 := E2.size; have h9 := HWS.out; omega); have l3 := lin_new (x := s) E2 hp2 hg2; clear hp2 hg2)
    | (go_at_call 48; refine (HRD.out _).mono ?_; rintro e w4 ⟨rfl, hb4⟩; have l4 := (l3.call hb4).alloc (.cells #[.int .i64 0, .int .i64 0] 53); have hr4 := l4.ext.row R0.out; have l0 := cell_of_row _ _ 0 _ _ _ hr4; have hrr := l4.ext.row R1.out; have f0 := frozen_of_row _ _ 0 _ _ hrr; have f1 := frozen_of_row _ _ 1 _ _ hrr; have m0 := cell_of_row _ _ 0 _ _ _ hrr; have m1 := cell_of_row _ _ 1 _ _ _ hrr; have n0 := l4.cells.1; have n1 := l4.cells.2; have qq := pair_put hrr (.string s) (.slice (some ⟨g2, 0, none⟩) L c2); have rq0 := cell_of_row _ _ 0 _ _ _ qq; have rq1 := cell_of_row _ _ 1 _ _ _ qq; clear hrr qq; clear hb4 hr4))
  have HT2 : toldText n b = t := HT.out.symm
  rw [HT2] at hy
  have HY := Lib.hid hy
  clear hy HT2
  go_region_held3 (fun w' => w'.cell? ⟨w2.heap.size, 0, none⟩ = some (.string s) ∧ w'.cell? ⟨w2.heap.size, 1, none⟩ = some (.slice (some ⟨g2, 0, none⟩) L c2))
    (first
      | exact Lin.cells (by assumption)
      | exact (Lin.drew (by assumption)).cells
      | exact other_cells (by omega) (Lin.cells (by assumption)).1 (Lin.cells (by assumption)).2)
    (first
      | (go_at_call 56; refine (HY.out _).mono ?_; rintro e wB ⟨rfl, hbB⟩; have lB : Lin W w2.heap.size s g2 c2 L zs wB := Lin.call (by first | assumption | exact Lin.drew (by assumption)) hbB; have hrr := lB.ext.row R1.out; have f0 := frozen_of_row _ _ 0 _ _ hrr; have f1 := frozen_of_row _ _ 1 _ _ hrr; have m0 := cell_of_row _ _ 0 _ _ _ hrr; have m1 := cell_of_row _ _ 1 _ _ _ hrr; have n0 := lB.cells.1; have n1 := lB.cells.2; have qq := pair_put hrr (.string s) (.slice (some ⟨g2, 0, none⟩) L c2); have rq0 := cell_of_row _ _ 0 _ _ _ qq; have rq1 := cell_of_row _ _ 1 _ _ _ qq; clear hrr qq)
      | (go_at_call 57; refine (HC.out _).mono ?_; rintro e wA ⟨rfl, hbA⟩; have lA : Lin W w2.heap.size s g2 c2 L zs wA := Lin.call (by first | assumption | exact Lin.drew (by assumption)) hbA; have hrr := lA.ext.row R1.out; have f0 := frozen_of_row _ _ 0 _ _ hrr; have f1 := frozen_of_row _ _ 1 _ _ hrr; have m0 := cell_of_row _ _ 0 _ _ _ hrr; have m1 := cell_of_row _ _ 1 _ _ _ hrr; have n0 := lA.cells.1; have n1 := lA.cells.2; have qq := pair_put hrr (.string s) (.slice (some ⟨g2, 0, none⟩) L c2); have rq0 := cell_of_row _ _ 0 _ _ _ qq; have rq1 := cell_of_row _ _ 1 _ _ _ qq; clear hrr qq))
  all_goals
    go_wp2
    refine bodyPost_ret (v := .tuple #[.agg #[.string s, .slice (some ⟨g2, 0, none⟩) L c2], .string t]) (by simp [results, Tryz.results22, go_sem, rq0, rq1]) rfl ?_
    exact lin_done E0.out (by first | assumption | exact Lin.drew (by assumption)) HWS.out
set_option maxRecDepth 100000 in
set_option maxHeartbeats 1600000 in
theorem specLine_6 (s : ByteArray) (a : Option Addr) (c L : Nat) (zs : List ByteArray) (X : ByteArray) (w : World) (h : StrsAt w (.slice a L c) zs) (HL : Hid (zs.length = L)) (hok : Hid (deskOk s zs = true)) (hX : X.size ≤ 1048576) (hr : Hid (readOf X.data.toList = ((0, 0), false))) (hXe : X = ⟨#[97, 114, 101, 97]⟩) :
    Calls Tryz.prog 22 #[.agg #[.string s, .slice a L c], .string X] w (LineOut w s zs (askText 6 s)) := by
  have q0 : (X.toList == [119, 97, 108, 107]) = false := by rw [Lib.toList_data, hXe]; decide
  have q1 : (X.toList == [101, 110, 100]) = false := by rw [Lib.toList_data, hXe]; decide
  have q2 : (X.toList == [99, 108, 111, 115, 101, 100]) = false := by rw [Lib.toList_data, hXe]; decide
  have q3 : (X.toList == [115, 105, 109, 112, 108, 101]) = false := by rw [Lib.toList_data, hXe]; decide
  have q4 : (X.toList == [97, 118, 111, 105, 100, 115]) = false := by rw [Lib.toList_data, hXe]; decide
  have q5 : (X.toList == [116, 117, 114, 110, 105, 110, 103]) = false := by rw [Lib.toList_data, hXe]; decide
  have q6 : (X.toList == [97, 114, 101, 97]) = true := by rw [Lib.toList_data, hXe]; decide
  obtain ⟨h1, h8, hz⟩ := deskOk_parts hok.out
  have h40 : s.size ≤ 40 := by have := Tw.walkOk_len h1; rwa [size_data] at this
  obtain ⟨e0, hsz, r0, r1⟩ := desk2_in w s (.slice a L c)
  obtain ⟨W, hW⟩ : ∃ W, deskBox2 w s (.slice a L c) = W := ⟨_, rfl⟩
  rw [hW] at e0 hsz r0 r1
  unfold deskBox2 at hW
  have HW := Lib.hid hW
  have HDK := Lib.hid (deskOk_named s (.slice a L c) zs W (e0.strs h) (by have := ok_size h1; omega) (by omega) (fun z hz9 => by have := ok_size (hz z hz9); omega) true hok.out)
  have HRD : Hid (∀ Y : World, Calls Tryz.prog 48 #[.string X] Y fun e w' => e = .returned (.tuple #[.agg #[.int .i64 0, .int .i64 0], .bool false]) ∧ Below Y.heap.size Y w') := fun Y => by
    refine (specReadDeed X Y hX).mono ?_
    rintro e w' ⟨he, hb⟩
    rw [hr.out] at he
    exact ⟨he, hb⟩
  have HCP : Hid (∀ Y, Ext W Y → Calls Tryz.prog 38 #[.agg #[.string s, .slice a L c]] Y fun e w' => ∃ g2 c2, e = .returned (.agg #[.string s, .slice (some ⟨g2, 0, none⟩) L c2]) ∧ PastAt w' (.slice (some ⟨g2, 0, none⟩) L c2) zs ∧ W.heap.size ≤ g2 ∧ Ext W w') := fun Y hY => by
    refine (copy_named s (.slice a L c) zs Y ((e0.trans hY).strs h) L HL.out (by have := HL.out; omega)).mono ?_
    rintro e w' ⟨g2, c2, he, hown2, hp2, hb2⟩
    exact ⟨g2, c2, he, hp2, by have := (hown2.lt g2 rfl).1; have := hY.size; omega, hY.call hb2⟩
  have R0 := Lib.hid r0
  have R1 := Lib.hid r1
  have E0 := Lib.hid e0
  have c0 := cell_of_row _ _ 0 _ _ _ r0
  have c1 := cell_of_row _ _ 1 _ _ _ r0
  have HWS := Lib.hid hsz
  have hs : s.size ≤ 1048576 := by omega
  have hc := fun Y => specAreaOf s Y hs
  have hn := line_res_bound s.data.toList
  obtain ⟨n, hnn⟩ : ∃ n, areaRes s.data.toList = n := ⟨_, rfl⟩
  obtain ⟨b, hb⟩ : ∃ b, Tw.closed s.data.toList = b := ⟨_, rfl⟩
  have HT : Hid (askText 6 s = toldText n b) := by show _ = _; rw [← hnn, ← hb]; rfl
  simp only [hnn] at hc hn
  simp only [hb] at hc
  have HC := Lib.hid hc
  have hy := l12Told_any n b (by omega) (by omega)
  obtain ⟨t, ht⟩ : ∃ t, askText 6 s = t := ⟨_, rfl⟩
  rw [ht] at HT ⊢
  clear hW r0 r1 h hz h1 h8 e0 hsz hXe ht hc hb hnn hn
  go_enter Tryz.func22, Tryz.ntmps22
  go_wp2_with fail
  rw [HW.out]
  go_upto_region 27 with (first
    | (go_at_call 24; refine HDK.out.mono ?_; rintro e w1 ⟨rfl, hb1⟩; have E1 : Ext W w1 := hb1; have hr1 := E1.row R0.out; have k0 := cell_of_row _ _ 0 _ _ _ hr1; have k1 := cell_of_row _ _ 1 _ _ _ hr1; clear hb1 hr1)
    | (go_at_call 38; refine (HCP.out w1 E1).mono ?_; rintro e w2 ⟨g2, c2, rfl, hp2, hg2, E2⟩; have hO : w.heap.size + 1 < w2.heap.size := (by have h8 := E2.size; have h9 := HWS.out; omega); have l3 := lin_new (x := s) E2 hp2 hg2; clear hp2 hg2)
    | (go_at_call 48; refine (HRD.out _).mono ?_; rintro e w4 ⟨rfl, hb4⟩; have l4 := (l3.call hb4).alloc (.cells #[.int .i64 0, .int .i64 0] 53); have hr4 := l4.ext.row R0.out; have l0 := cell_of_row _ _ 0 _ _ _ hr4; have hrr := l4.ext.row R1.out; have f0 := frozen_of_row _ _ 0 _ _ hrr; have f1 := frozen_of_row _ _ 1 _ _ hrr; have m0 := cell_of_row _ _ 0 _ _ _ hrr; have m1 := cell_of_row _ _ 1 _ _ _ hrr; have n0 := l4.cells.1; have n1 := l4.cells.2; have qq := pair_put hrr (.string s) (.slice (some ⟨g2, 0, none⟩) L c2); have rq0 := cell_of_row _ _ 0 _ _ _ qq; have rq1 := cell_of_row _ _ 1 _ _ _ qq; clear hrr qq; clear hb4 hr4))
  have HT2 : toldText n b = t := HT.out.symm
  rw [HT2] at hy
  have HY := Lib.hid hy
  clear hy HT2
  go_region_held3 (fun w' => w'.cell? ⟨w2.heap.size, 0, none⟩ = some (.string s) ∧ w'.cell? ⟨w2.heap.size, 1, none⟩ = some (.slice (some ⟨g2, 0, none⟩) L c2))
    (first
      | exact Lin.cells (by assumption)
      | exact (Lin.drew (by assumption)).cells
      | exact other_cells (by omega) (Lin.cells (by assumption)).1 (Lin.cells (by assumption)).2)
    (first
      | (go_at_call 56; refine (HY.out _).mono ?_; rintro e wB ⟨rfl, hbB⟩; have lB : Lin W w2.heap.size s g2 c2 L zs wB := Lin.call (by first | assumption | exact Lin.drew (by assumption)) hbB; have hrr := lB.ext.row R1.out; have f0 := frozen_of_row _ _ 0 _ _ hrr; have f1 := frozen_of_row _ _ 1 _ _ hrr; have m0 := cell_of_row _ _ 0 _ _ _ hrr; have m1 := cell_of_row _ _ 1 _ _ _ hrr; have n0 := lB.cells.1; have n1 := lB.cells.2; have qq := pair_put hrr (.string s) (.slice (some ⟨g2, 0, none⟩) L c2); have rq0 := cell_of_row _ _ 0 _ _ _ qq; have rq1 := cell_of_row _ _ 1 _ _ _ qq; clear hrr qq)
      | (go_at_call 58; refine (HC.out _).mono ?_; rintro e wA ⟨rfl, hbA⟩; have lA : Lin W w2.heap.size s g2 c2 L zs wA := Lin.call (by first | assumption | exact Lin.drew (by assumption)) hbA; have hrr := lA.ext.row R1.out; have f0 := frozen_of_row _ _ 0 _ _ hrr; have f1 := frozen_of_row _ _ 1 _ _ hrr; have m0 := cell_of_row _ _ 0 _ _ _ hrr; have m1 := cell_of_row _ _ 1 _ _ _ hrr; have n0 := lA.cells.1; have n1 := lA.cells.2; have qq := pair_put hrr (.string s) (.slice (some ⟨g2, 0, none⟩) L c2); have rq0 := cell_of_row _ _ 0 _ _ _ qq; have rq1 := cell_of_row _ _ 1 _ _ _ qq; clear hrr qq))
  all_goals
    go_wp2
    refine bodyPost_ret (v := .tuple #[.agg #[.string s, .slice (some ⟨g2, 0, none⟩) L c2], .string t]) (by simp [results, Tryz.results22, go_sem, rq0, rq1]) rfl ?_
    exact lin_done E0.out (by first | assumption | exact Lin.drew (by assumption)) HWS.out
set_option maxRecDepth 100000 in
set_option maxHeartbeats 1600000 in
theorem specLine_7 (s : ByteArray) (a : Option Addr) (c L : Nat) (zs : List ByteArray) (X : ByteArray) (w : World) (h : StrsAt w (.slice a L c) zs) (HL : Hid (zs.length = L)) (hok : Hid (deskOk s zs = true)) (hX : X.size ≤ 1048576) (hr : Hid (readOf X.data.toList = ((0, 0), false))) (hXe : X = ⟨#[119, 105, 110, 100, 105, 110, 103]⟩) :
    Calls Tryz.prog 22 #[.agg #[.string s, .slice a L c], .string X] w (LineOut w s zs (askText 7 s)) := by
  have q0 : (X.toList == [119, 97, 108, 107]) = false := by rw [Lib.toList_data, hXe]; decide
  have q1 : (X.toList == [101, 110, 100]) = false := by rw [Lib.toList_data, hXe]; decide
  have q2 : (X.toList == [99, 108, 111, 115, 101, 100]) = false := by rw [Lib.toList_data, hXe]; decide
  have q3 : (X.toList == [115, 105, 109, 112, 108, 101]) = false := by rw [Lib.toList_data, hXe]; decide
  have q4 : (X.toList == [97, 118, 111, 105, 100, 115]) = false := by rw [Lib.toList_data, hXe]; decide
  have q5 : (X.toList == [116, 117, 114, 110, 105, 110, 103]) = false := by rw [Lib.toList_data, hXe]; decide
  have q6 : (X.toList == [97, 114, 101, 97]) = false := by rw [Lib.toList_data, hXe]; decide
  have q7 : (X.toList == [119, 105, 110, 100, 105, 110, 103]) = true := by rw [Lib.toList_data, hXe]; decide
  obtain ⟨h1, h8, hz⟩ := deskOk_parts hok.out
  have h40 : s.size ≤ 40 := by have := Tw.walkOk_len h1; rwa [size_data] at this
  obtain ⟨e0, hsz, r0, r1⟩ := desk2_in w s (.slice a L c)
  obtain ⟨W, hW⟩ : ∃ W, deskBox2 w s (.slice a L c) = W := ⟨_, rfl⟩
  rw [hW] at e0 hsz r0 r1
  unfold deskBox2 at hW
  have HW := Lib.hid hW
  have HDK := Lib.hid (deskOk_named s (.slice a L c) zs W (e0.strs h) (by have := ok_size h1; omega) (by omega) (fun z hz9 => by have := ok_size (hz z hz9); omega) true hok.out)
  have HRD : Hid (∀ Y : World, Calls Tryz.prog 48 #[.string X] Y fun e w' => e = .returned (.tuple #[.agg #[.int .i64 0, .int .i64 0], .bool false]) ∧ Below Y.heap.size Y w') := fun Y => by
    refine (specReadDeed X Y hX).mono ?_
    rintro e w' ⟨he, hb⟩
    rw [hr.out] at he
    exact ⟨he, hb⟩
  have HCP : Hid (∀ Y, Ext W Y → Calls Tryz.prog 38 #[.agg #[.string s, .slice a L c]] Y fun e w' => ∃ g2 c2, e = .returned (.agg #[.string s, .slice (some ⟨g2, 0, none⟩) L c2]) ∧ PastAt w' (.slice (some ⟨g2, 0, none⟩) L c2) zs ∧ W.heap.size ≤ g2 ∧ Ext W w') := fun Y hY => by
    refine (copy_named s (.slice a L c) zs Y ((e0.trans hY).strs h) L HL.out (by have := HL.out; omega)).mono ?_
    rintro e w' ⟨g2, c2, he, hown2, hp2, hb2⟩
    exact ⟨g2, c2, he, hp2, by have := (hown2.lt g2 rfl).1; have := hY.size; omega, hY.call hb2⟩
  have R0 := Lib.hid r0
  have R1 := Lib.hid r1
  have E0 := Lib.hid e0
  have c0 := cell_of_row _ _ 0 _ _ _ r0
  have c1 := cell_of_row _ _ 1 _ _ _ r0
  have HWS := Lib.hid hsz
  have hs : s.size ≤ 1048576 := by omega
  have hc := fun Y => specMost s Y hs
  have hc2 := fun Y => specClosedOk s Y hs
  have hn := Tw.mostRes_range (l := s.data.toList)
  obtain ⟨n, hnn⟩ : ∃ n, Tw.mostRes s.data.toList = n := ⟨_, rfl⟩
  obtain ⟨b, hb⟩ : ∃ b, Tw.closed s.data.toList = b := ⟨_, rfl⟩
  have HT : Hid (askText 7 s = toldText n b) := by show _ = _; rw [← hnn, ← hb]; rfl
  simp only [hnn] at hc hn
  simp only [hb] at hc2
  have HC := Lib.hid hc
  have HC2 := Lib.hid hc2
  have hy := l12Told_any n b (by omega) (by omega)
  obtain ⟨t, ht⟩ : ∃ t, askText 7 s = t := ⟨_, rfl⟩
  rw [ht] at HT ⊢
  clear hW r0 r1 h hz h1 h8 e0 hsz hXe ht hc hc2 hb hnn hn
  go_enter Tryz.func22, Tryz.ntmps22
  go_wp2_with fail
  rw [HW.out]
  go_upto_region 29 with (first
    | (go_at_call 24; refine HDK.out.mono ?_; rintro e w1 ⟨rfl, hb1⟩; have E1 : Ext W w1 := hb1; have hr1 := E1.row R0.out; have k0 := cell_of_row _ _ 0 _ _ _ hr1; have k1 := cell_of_row _ _ 1 _ _ _ hr1; clear hb1 hr1)
    | (go_at_call 38; refine (HCP.out w1 E1).mono ?_; rintro e w2 ⟨g2, c2, rfl, hp2, hg2, E2⟩; have hO : w.heap.size + 1 < w2.heap.size := (by have h8 := E2.size; have h9 := HWS.out; omega); have l3 := lin_new (x := s) E2 hp2 hg2; clear hp2 hg2)
    | (go_at_call 48; refine (HRD.out _).mono ?_; rintro e w4 ⟨rfl, hb4⟩; have l4 := (l3.call hb4).alloc (.cells #[.int .i64 0, .int .i64 0] 53); have hr4 := l4.ext.row R0.out; have l0 := cell_of_row _ _ 0 _ _ _ hr4; have hrr := l4.ext.row R1.out; have f0 := frozen_of_row _ _ 0 _ _ hrr; have f1 := frozen_of_row _ _ 1 _ _ hrr; have m0 := cell_of_row _ _ 0 _ _ _ hrr; have m1 := cell_of_row _ _ 1 _ _ _ hrr; have n0 := l4.cells.1; have n1 := l4.cells.2; have qq := pair_put hrr (.string s) (.slice (some ⟨g2, 0, none⟩) L c2); have rq0 := cell_of_row _ _ 0 _ _ _ qq; have rq1 := cell_of_row _ _ 1 _ _ _ qq; clear hrr qq; clear hb4 hr4))
  have HT2 : toldText n b = t := HT.out.symm
  rw [HT2] at hy
  have HY := Lib.hid hy
  clear hy HT2
  go_region_held3 (fun w' => w'.cell? ⟨w2.heap.size, 0, none⟩ = some (.string s) ∧ w'.cell? ⟨w2.heap.size, 1, none⟩ = some (.slice (some ⟨g2, 0, none⟩) L c2))
    (first
      | exact Lin.cells (by assumption)
      | exact (Lin.drew (by assumption)).cells
      | exact other_cells (by omega) (Lin.cells (by assumption)).1 (Lin.cells (by assumption)).2)
    (first
      | (go_at_call 56; refine (HY.out _).mono ?_; rintro e wB ⟨rfl, hbB⟩; have lB : Lin W w2.heap.size s g2 c2 L zs wB := Lin.call (by first | assumption | exact Lin.drew (by assumption)) hbB; have hrr := lB.ext.row R1.out; have f0 := frozen_of_row _ _ 0 _ _ hrr; have f1 := frozen_of_row _ _ 1 _ _ hrr; have m0 := cell_of_row _ _ 0 _ _ _ hrr; have m1 := cell_of_row _ _ 1 _ _ _ hrr; have n0 := lB.cells.1; have n1 := lB.cells.2; have qq := pair_put hrr (.string s) (.slice (some ⟨g2, 0, none⟩) L c2); have rq0 := cell_of_row _ _ 0 _ _ _ qq; have rq1 := cell_of_row _ _ 1 _ _ _ qq; clear hrr qq)
      | (go_at_call 59; refine (HC.out _).mono ?_; rintro e wA ⟨rfl, hbA⟩; have lA : Lin W w2.heap.size s g2 c2 L zs wA := Lin.call (by first | assumption | exact Lin.drew (by assumption)) hbA; have hrr := lA.ext.row R1.out; have f0 := frozen_of_row _ _ 0 _ _ hrr; have f1 := frozen_of_row _ _ 1 _ _ hrr; have m0 := cell_of_row _ _ 0 _ _ _ hrr; have m1 := cell_of_row _ _ 1 _ _ _ hrr; have n0 := lA.cells.1; have n1 := lA.cells.2; have qq := pair_put hrr (.string s) (.slice (some ⟨g2, 0, none⟩) L c2); have rq0 := cell_of_row _ _ 0 _ _ _ qq; have rq1 := cell_of_row _ _ 1 _ _ _ qq; clear hrr qq)
      | (go_at_call 53; refine (HC2.out _).mono ?_; rintro e wD ⟨rfl, hbD⟩; have lD : Lin W w2.heap.size s g2 c2 L zs wD := Lin.call (by first | assumption | exact Lin.drew (by assumption)) hbD; have hrr := lD.ext.row R1.out; have f0 := frozen_of_row _ _ 0 _ _ hrr; have f1 := frozen_of_row _ _ 1 _ _ hrr; have m0 := cell_of_row _ _ 0 _ _ _ hrr; have m1 := cell_of_row _ _ 1 _ _ _ hrr; have n0 := lD.cells.1; have n1 := lD.cells.2; have qq := pair_put hrr (.string s) (.slice (some ⟨g2, 0, none⟩) L c2); have rq0 := cell_of_row _ _ 0 _ _ _ qq; have rq1 := cell_of_row _ _ 1 _ _ _ qq; clear hrr qq))
  all_goals
    go_wp2
    refine bodyPost_ret (v := .tuple #[.agg #[.string s, .slice (some ⟨g2, 0, none⟩) L c2], .string t]) (by simp [results, Tryz.results22, go_sem, rq0, rq1]) rfl ?_
    exact lin_done E0.out (by first | assumption | exact Lin.drew (by assumption)) HWS.out
set_option maxRecDepth 100000 in
set_option maxHeartbeats 1600000 in
theorem specLine_8 (s : ByteArray) (a : Option Addr) (c L : Nat) (zs : List ByteArray) (X : ByteArray) (w : World) (h : StrsAt w (.slice a L c) zs) (HL : Hid (zs.length = L)) (hok : Hid (deskOk s zs = true)) (hX : X.size ≤ 1048576) (hr : Hid (readOf X.data.toList = ((0, 0), false))) (hXe : X = ⟨#[115, 113, 117, 97, 114, 101, 115]⟩) :
    Calls Tryz.prog 22 #[.agg #[.string s, .slice a L c], .string X] w (LineOut w s zs (askText 8 s)) := by
  have q0 : (X.toList == [119, 97, 108, 107]) = false := by rw [Lib.toList_data, hXe]; decide
  have q1 : (X.toList == [101, 110, 100]) = false := by rw [Lib.toList_data, hXe]; decide
  have q2 : (X.toList == [99, 108, 111, 115, 101, 100]) = false := by rw [Lib.toList_data, hXe]; decide
  have q3 : (X.toList == [115, 105, 109, 112, 108, 101]) = false := by rw [Lib.toList_data, hXe]; decide
  have q4 : (X.toList == [97, 118, 111, 105, 100, 115]) = false := by rw [Lib.toList_data, hXe]; decide
  have q5 : (X.toList == [116, 117, 114, 110, 105, 110, 103]) = false := by rw [Lib.toList_data, hXe]; decide
  have q6 : (X.toList == [97, 114, 101, 97]) = false := by rw [Lib.toList_data, hXe]; decide
  have q7 : (X.toList == [119, 105, 110, 100, 105, 110, 103]) = false := by rw [Lib.toList_data, hXe]; decide
  have q8 : (X.toList == [115, 113, 117, 97, 114, 101, 115]) = true := by rw [Lib.toList_data, hXe]; decide
  obtain ⟨h1, h8, hz⟩ := deskOk_parts hok.out
  have h40 : s.size ≤ 40 := by have := Tw.walkOk_len h1; rwa [size_data] at this
  obtain ⟨e0, hsz, r0, r1⟩ := desk2_in w s (.slice a L c)
  obtain ⟨W, hW⟩ : ∃ W, deskBox2 w s (.slice a L c) = W := ⟨_, rfl⟩
  rw [hW] at e0 hsz r0 r1
  unfold deskBox2 at hW
  have HW := Lib.hid hW
  have HDK := Lib.hid (deskOk_named s (.slice a L c) zs W (e0.strs h) (by have := ok_size h1; omega) (by omega) (fun z hz9 => by have := ok_size (hz z hz9); omega) true hok.out)
  have HRD : Hid (∀ Y : World, Calls Tryz.prog 48 #[.string X] Y fun e w' => e = .returned (.tuple #[.agg #[.int .i64 0, .int .i64 0], .bool false]) ∧ Below Y.heap.size Y w') := fun Y => by
    refine (specReadDeed X Y hX).mono ?_
    rintro e w' ⟨he, hb⟩
    rw [hr.out] at he
    exact ⟨he, hb⟩
  have HCP : Hid (∀ Y, Ext W Y → Calls Tryz.prog 38 #[.agg #[.string s, .slice a L c]] Y fun e w' => ∃ g2 c2, e = .returned (.agg #[.string s, .slice (some ⟨g2, 0, none⟩) L c2]) ∧ PastAt w' (.slice (some ⟨g2, 0, none⟩) L c2) zs ∧ W.heap.size ≤ g2 ∧ Ext W w') := fun Y hY => by
    refine (copy_named s (.slice a L c) zs Y ((e0.trans hY).strs h) L HL.out (by have := HL.out; omega)).mono ?_
    rintro e w' ⟨g2, c2, he, hown2, hp2, hb2⟩
    exact ⟨g2, c2, he, hp2, by have := (hown2.lt g2 rfl).1; have := hY.size; omega, hY.call hb2⟩
  have R0 := Lib.hid r0
  have R1 := Lib.hid r1
  have E0 := Lib.hid e0
  have c0 := cell_of_row _ _ 0 _ _ _ r0
  have c1 := cell_of_row _ _ 1 _ _ _ r0
  have HWS := Lib.hid hsz
  have hs : s.size ≤ 1048576 := by omega
  have hc := fun Y => specSquares s Y hs h1
  have hc2 := fun Y => specSimple_is s Y hs h1
  have hn := Tw.squaresRes_range (l := s.data.toList)
  obtain ⟨n, hnn⟩ : ∃ n, Tw.squaresRes s.data.toList = n := ⟨_, rfl⟩
  obtain ⟨b, hb⟩ : ∃ b, Tw.simple s.data.toList = b := ⟨_, rfl⟩
  have HT : Hid (askText 8 s = toldText n b) := by show _ = _; rw [← hnn, ← hb]; rfl
  simp only [hnn] at hc hn
  simp only [hb] at hc2
  have HC := Lib.hid hc
  have HC2 := Lib.hid hc2
  have hy := l12Told_any n b (by omega) (by omega)
  obtain ⟨t, ht⟩ : ∃ t, askText 8 s = t := ⟨_, rfl⟩
  rw [ht] at HT ⊢
  clear hW r0 r1 h hz h1 h8 e0 hsz hXe ht hc hc2 hb hnn hn
  go_enter Tryz.func22, Tryz.ntmps22
  go_wp2_with fail
  rw [HW.out]
  go_upto_region 31 with (first
    | (go_at_call 24; refine HDK.out.mono ?_; rintro e w1 ⟨rfl, hb1⟩; have E1 : Ext W w1 := hb1; have hr1 := E1.row R0.out; have k0 := cell_of_row _ _ 0 _ _ _ hr1; have k1 := cell_of_row _ _ 1 _ _ _ hr1; clear hb1 hr1)
    | (go_at_call 38; refine (HCP.out w1 E1).mono ?_; rintro e w2 ⟨g2, c2, rfl, hp2, hg2, E2⟩; have hO : w.heap.size + 1 < w2.heap.size := (by have h8 := E2.size; have h9 := HWS.out; omega); have l3 := lin_new (x := s) E2 hp2 hg2; clear hp2 hg2)
    | (go_at_call 48; refine (HRD.out _).mono ?_; rintro e w4 ⟨rfl, hb4⟩; have l4 := (l3.call hb4).alloc (.cells #[.int .i64 0, .int .i64 0] 53); have hr4 := l4.ext.row R0.out; have l0 := cell_of_row _ _ 0 _ _ _ hr4; have hrr := l4.ext.row R1.out; have f0 := frozen_of_row _ _ 0 _ _ hrr; have f1 := frozen_of_row _ _ 1 _ _ hrr; have m0 := cell_of_row _ _ 0 _ _ _ hrr; have m1 := cell_of_row _ _ 1 _ _ _ hrr; have n0 := l4.cells.1; have n1 := l4.cells.2; have qq := pair_put hrr (.string s) (.slice (some ⟨g2, 0, none⟩) L c2); have rq0 := cell_of_row _ _ 0 _ _ _ qq; have rq1 := cell_of_row _ _ 1 _ _ _ qq; clear hrr qq; clear hb4 hr4))
  have HT2 : toldText n b = t := HT.out.symm
  rw [HT2] at hy
  have HY := Lib.hid hy
  clear hy HT2
  go_region_held3 (fun w' => w'.cell? ⟨w2.heap.size, 0, none⟩ = some (.string s) ∧ w'.cell? ⟨w2.heap.size, 1, none⟩ = some (.slice (some ⟨g2, 0, none⟩) L c2))
    (first
      | exact Lin.cells (by assumption)
      | exact (Lin.drew (by assumption)).cells
      | exact other_cells (by omega) (Lin.cells (by assumption)).1 (Lin.cells (by assumption)).2)
    (first
      | (go_at_call 56; refine (HY.out _).mono ?_; rintro e wB ⟨rfl, hbB⟩; have lB : Lin W w2.heap.size s g2 c2 L zs wB := Lin.call (by first | assumption | exact Lin.drew (by assumption)) hbB; have hrr := lB.ext.row R1.out; have f0 := frozen_of_row _ _ 0 _ _ hrr; have f1 := frozen_of_row _ _ 1 _ _ hrr; have m0 := cell_of_row _ _ 0 _ _ _ hrr; have m1 := cell_of_row _ _ 1 _ _ _ hrr; have n0 := lB.cells.1; have n1 := lB.cells.2; have qq := pair_put hrr (.string s) (.slice (some ⟨g2, 0, none⟩) L c2); have rq0 := cell_of_row _ _ 0 _ _ _ qq; have rq1 := cell_of_row _ _ 1 _ _ _ qq; clear hrr qq)
      | (go_at_call 60; refine (HC.out _).mono ?_; rintro e wA ⟨rfl, hbA⟩; have lA : Lin W w2.heap.size s g2 c2 L zs wA := Lin.call (by first | assumption | exact Lin.drew (by assumption)) hbA; have hrr := lA.ext.row R1.out; have f0 := frozen_of_row _ _ 0 _ _ hrr; have f1 := frozen_of_row _ _ 1 _ _ hrr; have m0 := cell_of_row _ _ 0 _ _ _ hrr; have m1 := cell_of_row _ _ 1 _ _ _ hrr; have n0 := lA.cells.1; have n1 := lA.cells.2; have qq := pair_put hrr (.string s) (.slice (some ⟨g2, 0, none⟩) L c2); have rq0 := cell_of_row _ _ 0 _ _ _ qq; have rq1 := cell_of_row _ _ 1 _ _ _ qq; clear hrr qq)
      | (go_at_call 54; refine (HC2.out _).mono ?_; rintro e wD ⟨rfl, hbD⟩; have lD : Lin W w2.heap.size s g2 c2 L zs wD := Lin.call (by first | assumption | exact Lin.drew (by assumption)) hbD; have hrr := lD.ext.row R1.out; have f0 := frozen_of_row _ _ 0 _ _ hrr; have f1 := frozen_of_row _ _ 1 _ _ hrr; have m0 := cell_of_row _ _ 0 _ _ _ hrr; have m1 := cell_of_row _ _ 1 _ _ _ hrr; have n0 := lD.cells.1; have n1 := lD.cells.2; have qq := pair_put hrr (.string s) (.slice (some ⟨g2, 0, none⟩) L c2); have rq0 := cell_of_row _ _ 0 _ _ _ qq; have rq1 := cell_of_row _ _ 1 _ _ _ qq; clear hrr qq))
  all_goals
    go_wp2
    refine bodyPost_ret (v := .tuple #[.agg #[.string s, .slice (some ⟨g2, 0, none⟩) L c2], .string t]) (by simp [results, Tryz.results22, go_sem, rq0, rq1]) rfl ?_
    exact lin_done E0.out (by first | assumption | exact Lin.drew (by assumption)) HWS.out
theorem lastPlace (s : ByteArray) (w : World) (hs : s.size ≤ 1048576) (hok : Tw.walkOk s.data.toList = true) :
    Calls Tryz.prog 50 #[.string s] w fun e w' => ∃ g cap b, e = .returned (.slice (some ⟨g, 0, none⟩) (s.size + 1) cap) ∧ w'.cell? ⟨g, s.size, none⟩ = some (.slice (some ⟨b, 0, none⟩) 2 2) ∧ w'.heap[b]? = some (pairBlock (Tw.endOf s.data.toList)) ∧ Below w.heap.size w w' := by
  refine (specPlacesOf_n s w hs hok (Tw.places s.data.toList) (s.size + 1) rfl (by rw [Tw.places_length, size_data])).mono ?_
  rintro e w' ⟨g, cap, bs, he, hbl, hown, hrows, hb⟩
  have hbb : bs[s.size]? = some (bs[s.size]'(by omega)) := List.getElem?_eq_getElem _
  have hp : (Tw.places s.data.toList)[s.size]? = some (Tw.placeAt s.data.toList s.size) := Tw.placesTo_get? _ _ _ (by rw [size_data]; omega)
  have hh := hrows s.size _ _ hp hbb
  have e2 : Tw.placeAt s.data.toList s.size = Tw.endOf s.data.toList := by rw [← size_data]; exact Tw.placeAt_all _
  rw [e2] at hh
  exact ⟨g, cap, _, he, row_cell hown hbb, hh, hb⟩
set_option maxRecDepth 100000 in
set_option maxHeartbeats 1600000 in
theorem specLine_1 (s : ByteArray) (a : Option Addr) (c L : Nat) (zs : List ByteArray) (X : ByteArray) (w : World) (h : StrsAt w (.slice a L c) zs) (HL : Hid (zs.length = L)) (hok : Hid (deskOk s zs = true)) (hX : X.size ≤ 1048576) (hr : Hid (readOf X.data.toList = ((0, 0), false))) (hXe : X = ⟨#[101, 110, 100]⟩) :
    Calls Tryz.prog 22 #[.agg #[.string s, .slice a L c], .string X] w (LineOut w s zs (askText 1 s)) := by
  have q0 : (X.toList == [119, 97, 108, 107]) = false := by rw [Lib.toList_data, hXe]; decide
  have q1 : (X.toList == [101, 110, 100]) = true := by rw [Lib.toList_data, hXe]; decide
  obtain ⟨h1, h8, hz⟩ := deskOk_parts hok.out
  have h40 : s.size ≤ 40 := by have := Tw.walkOk_len h1; rwa [size_data] at this
  obtain ⟨e0, hsz, r0, r1⟩ := desk2_in w s (.slice a L c)
  obtain ⟨W, hW⟩ : ∃ W, deskBox2 w s (.slice a L c) = W := ⟨_, rfl⟩
  rw [hW] at e0 hsz r0 r1
  unfold deskBox2 at hW
  have HW := Lib.hid hW
  have HDK := Lib.hid (deskOk_named s (.slice a L c) zs W (e0.strs h) (by have := ok_size h1; omega) (by omega) (fun z hz9 => by have := ok_size (hz z hz9); omega) true hok.out)
  have HRD : Hid (∀ Y : World, Calls Tryz.prog 48 #[.string X] Y fun e w' => e = .returned (.tuple #[.agg #[.int .i64 0, .int .i64 0], .bool false]) ∧ Below Y.heap.size Y w') := fun Y => by
    refine (specReadDeed X Y hX).mono ?_
    rintro e w' ⟨he, hb⟩
    rw [hr.out] at he
    exact ⟨he, hb⟩
  have HCP : Hid (∀ Y, Ext W Y → Calls Tryz.prog 38 #[.agg #[.string s, .slice a L c]] Y fun e w' => ∃ g2 c2, e = .returned (.agg #[.string s, .slice (some ⟨g2, 0, none⟩) L c2]) ∧ PastAt w' (.slice (some ⟨g2, 0, none⟩) L c2) zs ∧ W.heap.size ≤ g2 ∧ Ext W w') := fun Y hY => by
    refine (copy_named s (.slice a L c) zs Y ((e0.trans hY).strs h) L HL.out (by have := HL.out; omega)).mono ?_
    rintro e w' ⟨g2, c2, he, hown2, hp2, hb2⟩
    exact ⟨g2, c2, he, hp2, by have := (hown2.lt g2 rfl).1; have := hY.size; omega, hY.call hb2⟩
  have R0 := Lib.hid r0
  have R1 := Lib.hid r1
  have E0 := Lib.hid e0
  have c0 := cell_of_row _ _ 0 _ _ _ r0
  have c1 := cell_of_row _ _ 1 _ _ _ r0
  have HWS := Lib.hid hsz
  have hs : s.size ≤ 1048576 := by omega
  have hbd := end_bound h1
  obtain ⟨x, hx⟩ : ∃ x, (Tw.endOf s.data.toList).1 = x := ⟨_, rfl⟩
  obtain ⟨y, hy⟩ : ∃ y, (Tw.endOf s.data.toList).2 = y := ⟨_, rfl⟩
  rw [hx, hy] at hbd
  obtain ⟨u, hu⟩ : ∃ u, numText x = u := ⟨_, rfl⟩
  obtain ⟨v, hv⟩ : ∃ u, numText y = u := ⟨_, rfl⟩
  have su := numText_len (n := x) (by omega) (by omega)
  have sv := numText_len (n := y) (by omega) (by omega)
  rw [hu] at su
  rw [hv] at sv
  have HT : Hid (askText 1 s = u ++ ⟨#[44]⟩ ++ v) := by show _ = _; rw [← hu, ← hv, ← hx, ← hy]; rfl
  have HNX : Hid (∀ Y : World, Calls Tryz.prog 51 #[.int .i64 x] Y fun e w' => e = .returned (.string u) ∧ Below Y.heap.size Y w') := fun Y => hu ▸ number_int x (by omega) (by omega) Y
  have HNY : Hid (∀ Y : World, Calls Tryz.prog 51 #[.int .i64 y] Y fun e w' => e = .returned (.string v) ∧ Below Y.heap.size Y w') := fun Y => hv ▸ number_int y (by omega) (by omega) Y
  have HPL := Lib.hid (fun Y => lastPlace s Y hs h1)
  have HEND : Hid (Tw.endOf s.data.toList = (x, y)) := by show _ = _; rw [← hx, ← hy]
  have fu : ¬ 9223372036854775807 < u.size + 1 := by omega
  have fv : ¬ 9223372036854775807 < u.size + 1 + v.size := by omega
  obtain ⟨t, ht⟩ : ∃ t, askText 1 s = t := ⟨_, rfl⟩
  rw [ht] at HT ⊢
  clear hW r0 r1 h hz h1 h8 e0 hsz hXe ht hx hy hu hv hbd
  go_enter Tryz.func22, Tryz.ntmps22
  go_wp2_with fail
  rw [HW.out]
  go_upto_region 17 with (first
    | (go_at_call 50; refine (HPL.out _).mono ?_; rintro e w6 ⟨g6, c6, b6, rfl, hc6, hrow6, hb6⟩; have l6 : Lin W w2.heap.size s g2 c2 L zs w6 := Lin.call l4 hb6; have hrr := l6.ext.row R1.out; have f0 := frozen_of_row _ _ 0 _ _ hrr; have f1 := frozen_of_row _ _ 1 _ _ hrr; have m0 := cell_of_row _ _ 0 _ _ _ hrr; have m1 := cell_of_row _ _ 1 _ _ _ hrr; have n0 := l6.cells.1; have n1 := l6.cells.2; have qq := pair_put hrr (.string s) (.slice (some ⟨g2, 0, none⟩) L c2); have rq0 := cell_of_row _ _ 0 _ _ _ qq; have rq1 := cell_of_row _ _ 1 _ _ _ qq; clear hrr qq; have HROW := Lib.hid hrow6; clear hrow6)
    | (go_at_call 24; refine HDK.out.mono ?_; rintro e w1 ⟨rfl, hb1⟩; have E1 : Ext W w1 := hb1; have hr1 := E1.row R0.out; have k0 := cell_of_row _ _ 0 _ _ _ hr1; have k1 := cell_of_row _ _ 1 _ _ _ hr1; clear hb1 hr1)
    | (go_at_call 38; refine (HCP.out w1 E1).mono ?_; rintro e w2 ⟨g2, c2, rfl, hp2, hg2, E2⟩; have hO : w.heap.size + 1 < w2.heap.size := (by have h8 := E2.size; have h9 := HWS.out; omega); have l3 := lin_new (x := s) E2 hp2 hg2; clear hp2 hg2)
    | (go_at_call 48; refine (HRD.out _).mono ?_; rintro e w4 ⟨rfl, hb4⟩; have l4 := (l3.call hb4).alloc (.cells #[.int .i64 0, .int .i64 0] 53); have hr4 := l4.ext.row R0.out; have l0 := cell_of_row _ _ 0 _ _ _ hr4; have hrr := l4.ext.row R1.out; have f0 := frozen_of_row _ _ 0 _ _ hrr; have f1 := frozen_of_row _ _ 1 _ _ hrr; have m0 := cell_of_row _ _ 0 _ _ _ hrr; have m1 := cell_of_row _ _ 1 _ _ _ hrr; have n0 := l4.cells.1; have n1 := l4.cells.2; have qq := pair_put hrr (.string s) (.slice (some ⟨g2, 0, none⟩) L c2); have rq0 := cell_of_row _ _ 0 _ _ _ qq; have rq1 := cell_of_row _ _ 1 _ _ _ qq; clear hrr qq; clear hb4 hr4))
  have HB6 : Hid (∀ Y, Ext w6 Y → Y.cell? ⟨b6, 0, none⟩ = some (.int .i64 x) ∧ Y.cell? ⟨b6, 1, none⟩ = some (.int .i64 y)) := fun Y hY => by
    have h9 := pair_cells (hY.row HROW.out)
    rwa [HEND.out] at h9
  have e6 : Ext w6 w6 := Ext.refl w6
  obtain ⟨p0, p1⟩ := HB6.out w6 e6
  have hbn : b6 ≠ w.heap.size + 1 := fun e9 => by
    have h9 := HROW.out
    rw [e9, l6.ext.row R1.out] at h9
    unfold pairBlock at h9
    simp at h9
  go_region_held3 (fun w' => (w'.cell? ⟨w2.heap.size, 0, none⟩ = some (.string s) ∧ w'.cell? ⟨w2.heap.size, 1, none⟩ = some (.slice (some ⟨g2, 0, none⟩) L c2)) ∧ w'.cell? ⟨b6, 0, none⟩ = some (.int .i64 x) ∧ w'.cell? ⟨b6, 1, none⟩ = some (.int .i64 y))
    (first
      | exact ⟨Lin.cells (by assumption), HB6.out _ (by assumption)⟩
      | exact ⟨(Lin.drew (by assumption)).cells, HB6.out _ (Ext.drew (by assumption))⟩
      | exact ⟨other_cells (by omega) (Lin.cells (by assumption)).1 (Lin.cells (by assumption)).2, other_cells hbn (HB6.out _ (by assumption)).1 (HB6.out _ (by assumption)).2⟩)
    (first
      | (go_at_call_of 51 (Value.int .i64 x); refine (HNX.out _).mono ?_; rintro e wx ⟨rfl, hbx⟩; have ex : Ext w6 wx := Ext.call (by first | assumption | exact Ext.drew (by assumption)) hbx; have lx := l6.call ex; have hrr := lx.ext.row R1.out; have f0 := frozen_of_row _ _ 0 _ _ hrr; have f1 := frozen_of_row _ _ 1 _ _ hrr; have m0 := cell_of_row _ _ 0 _ _ _ hrr; have m1 := cell_of_row _ _ 1 _ _ _ hrr; have n0 := lx.cells.1; have n1 := lx.cells.2; have qq := pair_put hrr (.string s) (.slice (some ⟨g2, 0, none⟩) L c2); have rq0 := cell_of_row _ _ 0 _ _ _ qq; have rq1 := cell_of_row _ _ 1 _ _ _ qq; clear hrr qq)
      | (go_at_call_of 51 (Value.int .i64 y); refine (HNY.out _).mono ?_; rintro e wy ⟨rfl, hby⟩; have ey : Ext w6 wy := Ext.call (by first | assumption | exact Ext.drew (by assumption)) hby; have ly := l6.call ey; have hrr := ly.ext.row R1.out; have f0 := frozen_of_row _ _ 0 _ _ hrr; have f1 := frozen_of_row _ _ 1 _ _ hrr; have m0 := cell_of_row _ _ 0 _ _ _ hrr; have m1 := cell_of_row _ _ 1 _ _ _ hrr; have n0 := ly.cells.1; have n1 := ly.cells.2; have qq := pair_put hrr (.string s) (.slice (some ⟨g2, 0, none⟩) L c2); have rq0 := cell_of_row _ _ 0 _ _ _ qq; have rq1 := cell_of_row _ _ 1 _ _ _ qq; clear hrr qq))
  all_goals
    have HT2 : t = u ++ ⟨#[44]⟩ ++ v := HT.out
    subst HT2
    go_wp2
    refine bodyPost_ret (v := .tuple #[.agg #[.string s, .slice (some ⟨g2, 0, none⟩) L c2], .string (u ++ ⟨#[44]⟩ ++ v)]) (by simp [results, Tryz.results22, go_sem, rq0, rq1]) rfl ?_
    exact lin_done E0.out (by first | assumption | exact Lin.drew (by assumption)) HWS.out
theorem specLine_ask (s : ByteArray) (a : Option Addr) (c L : Nat) (zs : List ByteArray) (X : ByteArray) (w : World) (h : StrsAt w (.slice a L c) zs) (HL : Hid (zs.length = L)) (hok : Hid (deskOk s zs = true)) (hX : X.size ≤ 1048576) (hr : Hid (readOf X.data.toList = ((0, 0), false))) (k : Nat) (hk : k < 9) (hXe : askWords.getD k ⟨#[]⟩ = X) :
    Calls Tryz.prog 22 #[.agg #[.string s, .slice a L c], .string X] w (LineOut w s zs (askText k s)) := by
  obtain rfl | rfl | rfl | rfl | rfl | rfl | rfl | rfl | rfl : k = 0 ∨ k = 1 ∨ k = 2 ∨ k = 3 ∨ k = 4 ∨ k = 5 ∨ k = 6 ∨ k = 7 ∨ k = 8 := by omega
  · exact specLine_0 s a c L zs X w h HL hok hX hr hXe.symm
  · exact specLine_1 s a c L zs X w h HL hok hX hr hXe.symm
  · exact specLine_2 s a c L zs X w h HL hok hX hr hXe.symm
  · exact specLine_3 s a c L zs X w h HL hok hX hr hXe.symm
  · exact specLine_4 s a c L zs X w h HL hok hX hr hXe.symm
  · exact specLine_5 s a c L zs X w h HL hok hX hr hXe.symm
  · exact specLine_6 s a c L zs X w h HL hok hX hr hXe.symm
  · exact specLine_7 s a c L zs X w h HL hok hX hr hXe.symm
  · exact specLine_8 s a c L zs X w h HL hok hX hr hXe.symm

end Go.Proofs.YtccdfndnjjjgfaaGreatDoor

namespace Go.Proofs.YtccdfndnjjjgfaaGreatDoor
open Go.RowKit

theorem ask_free {X : ByteArray} (h : askAt X = none) {i : Nat} (hi : i < 9) : askWords.getD i ⟨#[]⟩ ≠ X := fun e => by
  unfold askAt at h
  rw [List.findIdx?_eq_none_iff] at h
  have h2 := h (askWords.getD i ⟨#[]⟩) (by rw [List.getD_eq_getElem?_getD, List.getElem?_eq_getElem (by exact hi)]; exact List.getElem_mem _)
  rw [e] at h2
  exact absurd h2 (by simp)
theorem list_free {X : ByteArray} (h : askAt X = none) {i : Nat} (hi : i < 9) {l : List UInt8} (hl : (askWords.getD i ⟨#[]⟩).data.toList = l) : (X.toList == l) = false := by
  rw [Lib.toList_data, ← hl]
  refine beq_false_of_ne fun e => ask_free h hi ?_
  rw [← Tw.str_of X, e, Tw.str_of]
/-- At a part that is no number. -/
theorem curve_bad {p0 : List UInt8} {qs : List (List UInt8)} {p : List UInt8} (h : p ∈ qs) (hp : numOk p 4 = false) : curveOf (p0 :: qs) = whatText := by
  rcases qs with _ | ⟨a, _ | ⟨b, _ | ⟨d, _ | ⟨f, g⟩⟩⟩⟩
  · rfl
  · rfl
  · refine if_neg fun h9 => ?_
    rcases List.mem_cons.1 h with rfl | h
    · rw [h9.2.1] at hp
      cases hp
    · rw [List.mem_singleton] at h
      subst h
      rw [h9.2.2] at hp
      cases hp
  · refine if_neg fun h9 => ?_
    rcases List.mem_cons.1 h with rfl | h
    · rw [h9.2.1] at hp
      cases hp
    · rcases List.mem_cons.1 h with rfl | h
      · rw [h9.2.2.1] at hp
        cases hp
      · rw [List.mem_singleton] at h
        subst h
        rw [h9.2.2.2] at hp
        cases hp
  · rfl
theorem curve_not {p0 : List UInt8} {qs : List (List UInt8)} (h1 : ¬ (p0 = cellWord ∧ qs.length = 2)) (h2 : ¬ (p0 = numberWord ∧ qs.length = 3)) : curveOf (p0 :: qs) = whatText := by
  rcases qs with _ | ⟨a, _ | ⟨b, _ | ⟨d, _ | ⟨f, g⟩⟩⟩⟩
  · rfl
  · rfl
  · exact if_neg fun h9 => h1 ⟨h9.1, rfl⟩
  · exact if_neg fun h9 => h2 ⟨h9.1, rfl⟩
  · rfl
theorem str_is {p : List UInt8} {z : ByteArray} (hz : Tw.str p = z) (l : List UInt8) : (z.toList == l) = decide (p = l) := by
  rw [← hz, Lib.toList_data, Tw.str_data, Bool.eq_iff_iff, beq_iff_eq, decide_eq_true_iff]
theorem cutAll_cons_some (sep : UInt8) (l : List UInt8) : ∃ p0 qs, cutAll sep l = p0 :: qs := by
  unfold cutAll
  cases (cutState sep l).1 with
  | nil => exact ⟨_, _, rfl⟩
  | cons a b => exact ⟨_, _, rfl⟩

set_option maxRecDepth 100000 in
set_option maxHeartbeats 1600000 in
theorem specLine_deed (s : ByteArray) (a : Option Addr) (c L : Nat) (zs : List ByteArray) (X : ByteArray) (d1 d2 : Int) (w : World) (h : StrsAt w (.slice a L c) zs) (HL : Hid (zs.length = L)) (hok : Hid (deskOk s zs = true)) (hX : X.size ≤ 1048576) (hr : Hid (readOf X.data.toList = ((d1, d2), true)))
    (x : ByteArray) (ys : List ByteArray) (b : Bool) (hd : Hid (deskDone s zs d1 d2 = (x, ys, b))) (hkn : -9223372036854775808 ≤ d2 ∧ d2 ≤ 9223372036854775807) :
    Calls Tryz.prog 22 #[.agg #[.string s, .slice a L c], .string X] w (LineOut w x ys (okWord b)) := by
  obtain ⟨h1, h8, hz⟩ := deskOk_parts hok.out
  have h40 : s.size ≤ 40 := by have := Tw.walkOk_len h1; rwa [size_data] at this
  obtain ⟨e0, hsz, r0, r1⟩ := desk2_in w s (.slice a L c)
  obtain ⟨W, hW⟩ : ∃ W, deskBox2 w s (.slice a L c) = W := ⟨_, rfl⟩
  rw [hW] at e0 hsz r0 r1
  unfold deskBox2 at hW
  have HW := Lib.hid hW
  have HDK := Lib.hid (deskOk_named s (.slice a L c) zs W (e0.strs h) (by have := ok_size h1; omega) (by omega) (fun z hz9 => by have := ok_size (hz z hz9); omega) true hok.out)
  have HRD : Hid (∀ Y : World, Calls Tryz.prog 48 #[.string X] Y fun e w' => e = .returned (.tuple #[.agg #[.int .i64 d1, .int .i64 d2], .bool true]) ∧ Below Y.heap.size Y w') := fun Y => by
    refine (specReadDeed X Y hX).mono ?_
    rintro e w' ⟨he, hb⟩
    rw [hr.out] at he
    exact ⟨he, hb⟩
  have HCP : Hid (∀ Y, Ext W Y → Calls Tryz.prog 38 #[.agg #[.string s, .slice a L c]] Y fun e w' => ∃ g2 c2, e = .returned (.agg #[.string s, .slice (some ⟨g2, 0, none⟩) L c2]) ∧ PastAt w' (.slice (some ⟨g2, 0, none⟩) L c2) zs ∧ W.heap.size ≤ g2 ∧ Ext W w') := fun Y hY => by
    refine (copy_named s (.slice a L c) zs Y ((e0.trans hY).strs h) L HL.out (by have := HL.out; omega)).mono ?_
    rintro e w' ⟨g2, c2, he, hown2, hp2, hb2⟩
    exact ⟨g2, c2, he, hp2, by have := (hown2.lt g2 rfl).1; have := hY.size; omega, hY.call hb2⟩
  have R0 := Lib.hid r0
  have R1 := Lib.hid r1
  have E0 := Lib.hid e0
  have c0 := cell_of_row _ _ 0 _ _ _ r0
  have c1 := cell_of_row _ _ 1 _ _ _ r0
  have HWS := Lib.hid hsz
  have HDO : Hid (∀ Y, Ext w Y → Calls Tryz.prog 49 #[.agg #[.string s, .slice a L c], .agg #[.int .i64 d1, .int .i64 d2]] Y (DeskOut Y x ys b)) := fun Y hY => by
    have := specDeskDone s (.slice a L c) zs d1 d2 Y (hY.strs h) hok.out hkn
    rw [hd.out] at this
    exact this
  clear hW r0 r1 h hz h1 h8 e0 hsz
  cases b
  all_goals
    go_enter Tryz.func22, Tryz.ntmps22
    go_wp2_with fail
    rw [HW.out]
    go_wp2_with (first
    | (go_at_call 24; refine HDK.out.mono ?_; rintro e w1 ⟨rfl, hb1⟩; have E1 : Ext W w1 := hb1; have hr1 := E1.row R0.out; have k0 := cell_of_row _ _ 0 _ _ _ hr1; have k1 := cell_of_row _ _ 1 _ _ _ hr1; clear hb1 hr1)
    | (go_at_call 38; refine (HCP.out w1 E1).mono ?_; rintro e w2 ⟨g2, c2, rfl, hp2, hg2, E2⟩; have hO : w.heap.size + 1 < w2.heap.size := (by have h8 := E2.size; have h9 := HWS.out; omega); have l3 := lin_new (x := s) E2 hp2 hg2; clear hp2 hg2)
    | (go_at_call 48; refine (HRD.out _).mono ?_; rintro e w4 ⟨rfl, hb4⟩; have l4 := (l3.call hb4).alloc (.cells #[.int .i64 d1, .int .i64 d2] 53); have hr4 := l4.ext.row R0.out; have l0 := cell_of_row _ _ 0 _ _ _ hr4; have l1 := cell_of_row _ _ 1 _ _ _ hr4; have hrr := l4.ext.row R1.out; have f0 := frozen_of_row _ _ 0 _ _ hrr; have f1 := frozen_of_row _ _ 1 _ _ hrr; have m0 := cell_of_row _ _ 0 _ _ _ hrr; have m1 := cell_of_row _ _ 1 _ _ _ hrr; have n0 := l4.cells.1; have n1 := l4.cells.2; have qq := pair_put hrr (.string s) (.slice (some ⟨g2, 0, none⟩) L c2); have rq0 := cell_of_row _ _ 0 _ _ _ qq; have rq1 := cell_of_row _ _ 1 _ _ _ qq; clear hrr qq; clear hb4 hr4)
    | (go_at_call 49; refine (HDO.out _ (E0.out.trans l4.ext)).mono ?_; rintro e w5 ⟨v5, rfl, hp5, hf5, hb5⟩; obtain ⟨a5, c5, hv5⟩ := past_slice hp5 rfl; subst hv5; have E5 : Ext W w5 := Ext.call l4.ext hb5; have P5 := Lib.hid hp5; have F5 := Lib.hid (fresh_ext l4.ext hf5); have E5A : Hid (Ext W (w5.alloc (.cells #[.string x, .slice a5 ys.length c5] 27))) := E5.alloc _; have hrb := E5A.out.row R1.out; have f0 := frozen_of_row _ _ 0 _ _ hrb; have f1 := frozen_of_row _ _ 1 _ _ hrb; have m0 := cell_of_row _ _ 0 _ _ _ hrb; have m1 := cell_of_row _ _ 1 _ _ _ hrb; have q := pair_put hrb (.string x) (.slice a5 ys.length c5); have q0 := cell_of_row _ _ 0 _ _ _ q; have q1 := cell_of_row _ _ 1 _ _ _ q; clear hp5 hf5 hb5 hrb q))
  · refine bodyPost_ret (v := .tuple #[.agg #[.string x, .slice a5 ys.length c5], .string ⟨#[110, 111, 116]⟩]) (by simp [results, Tryz.results22, go_sem, q0, q1]) rfl ?_
    exact line_done (R := w.heap.size + 1) (t := ⟨#[110, 111, 116]⟩) (E0.out.trans E5A.out) (((Ext.refl _).alloc _).past P5.out) (fresh_ext E0.out F5.out) (fun h9 => by have := F5.out _ h9; have := HWS.out; omega) (by omega)
  · refine bodyPost_ret (v := .tuple #[.agg #[.string x, .slice a5 ys.length c5], .string ⟨#[111, 107]⟩]) (by simp [results, Tryz.results22, go_sem, q0, q1]) rfl ?_
    exact line_done (R := w.heap.size + 1) (t := ⟨#[111, 107]⟩) (E0.out.trans E5A.out) (((Ext.refl _).alloc _).past P5.out) (fresh_ext E0.out F5.out) (fun h9 => by have := F5.out _ h9; have := HWS.out; omega) (by omega)
set_option maxRecDepth 100000 in
set_option maxHeartbeats 800000 in
theorem specLine_none (s : ByteArray) (a : Option Addr) (c L : Nat) (zs : List ByteArray) (X : ByteArray) (w : World) (h : StrsAt w (.slice a L c) zs) (HL : Hid (zs.length = L)) (hs : s.size ≤ 1048576) (hL : L ≤ 1048576) (hz : ∀ z ∈ zs, z.size ≤ 1048576) (hok : deskOk s zs = false) :
    Calls Tryz.prog 22 #[.agg #[.string s, .slice a L c], .string X] w (LineOut w ⟨#[]⟩ [] ⟨#[]⟩) := by
  obtain ⟨e0, hsz, r0, r1⟩ := desk2_in w s (.slice a L c)
  obtain ⟨W, hW⟩ : ∃ W, deskBox2 w s (.slice a L c) = W := ⟨_, rfl⟩
  rw [hW] at e0 hsz r0 r1
  unfold deskBox2 at hW
  have HW := Lib.hid hW
  have HDK := Lib.hid (deskOk_named s (.slice a L c) zs W (e0.strs h) hs (by rw [HL.out]; exact hL) hz false hok)
  have R1 := Lib.hid r1
  have c0 := cell_of_row _ _ 0 _ _ _ r0
  have c1 := cell_of_row _ _ 1 _ _ _ r0
  clear hW r0 r1 h hok hz
  go_enter Tryz.func22, Tryz.ntmps22
  go_wp2_with fail
  rw [HW.out]
  go_wp2_with (first
    | (go_at_call 24; refine HDK.out.mono ?_; rintro e w1 ⟨rfl, hb1⟩; have e1 : Ext W w1 := hb1; have hr := e1.row R1.out; have f0 := frozen_of_row _ _ 0 _ _ hr; have f1 := frozen_of_row _ _ 1 _ _ hr; have k0 := cell_of_row _ _ 0 _ _ _ hr; have k1 := cell_of_row _ _ 1 _ _ _ hr; have q := pair_put hr (.string ⟨#[]⟩) (.slice none 0 0); have q0 := cell_of_row _ _ 0 _ _ _ q; have q1 := cell_of_row _ _ 1 _ _ _ q; clear hr q hb1))
  refine bodyPost_ret (v := .tuple #[.agg #[.string ⟨#[]⟩, .slice none 0 0], .string ⟨#[]⟩]) (by simp [results, Tryz.results22, go_sem, q0, q1]) rfl ?_
  exact line_done (R := w.heap.size + 1) (e0.trans e1) (.inl ⟨rfl, rfl⟩) (Fresh.none _) (fun h9 => by cases h9) (by omega)
set_option maxRecDepth 100000 in
set_option maxHeartbeats 3200000 in
theorem specLine_curve (s : ByteArray) (a : Option Addr) (c L : Nat) (zs : List ByteArray) (X : ByteArray) (w : World) (h : StrsAt w (.slice a L c) zs) (HL : Hid (zs.length = L)) (hok : Hid (deskOk s zs = true)) (hX : X.size ≤ 1048576) (hr : Hid (readOf X.data.toList = ((0, 0), false))) (hat : askAt X = none) :
    Calls Tryz.prog 22 #[.agg #[.string s, .slice a L c], .string X] w (LineOut w s zs (curveText X.data.toList)) := by
  have q0 : (X.toList == [119, 97, 108, 107]) = false := list_free hat (i := 0) (by omega) rfl
  have q1 : (X.toList == [101, 110, 100]) = false := list_free hat (i := 1) (by omega) rfl
  have q2 : (X.toList == [99, 108, 111, 115, 101, 100]) = false := list_free hat (i := 2) (by omega) rfl
  have q3 : (X.toList == [115, 105, 109, 112, 108, 101]) = false := list_free hat (i := 3) (by omega) rfl
  have q4 : (X.toList == [97, 118, 111, 105, 100, 115]) = false := list_free hat (i := 4) (by omega) rfl
  have q5 : (X.toList == [116, 117, 114, 110, 105, 110, 103]) = false := list_free hat (i := 5) (by omega) rfl
  have q6 : (X.toList == [97, 114, 101, 97]) = false := list_free hat (i := 6) (by omega) rfl
  have q7 : (X.toList == [119, 105, 110, 100, 105, 110, 103]) = false := list_free hat (i := 7) (by omega) rfl
  have q8 : (X.toList == [115, 113, 117, 97, 114, 101, 115]) = false := list_free hat (i := 8) (by omega) rfl
  obtain ⟨h1, h8, hz⟩ := deskOk_parts hok.out
  have h40 : s.size ≤ 40 := by have := Tw.walkOk_len h1; rwa [size_data] at this
  obtain ⟨e0, hsz, r0, r1⟩ := desk2_in w s (.slice a L c)
  obtain ⟨W, hW⟩ : ∃ W, deskBox2 w s (.slice a L c) = W := ⟨_, rfl⟩
  rw [hW] at e0 hsz r0 r1
  unfold deskBox2 at hW
  have HW := Lib.hid hW
  have HDK := Lib.hid (deskOk_named s (.slice a L c) zs W (e0.strs h) (by have := ok_size h1; omega) (by omega) (fun z hz9 => by have := ok_size (hz z hz9); omega) true hok.out)
  have HRD : Hid (∀ Y : World, Calls Tryz.prog 48 #[.string X] Y fun e w' => e = .returned (.tuple #[.agg #[.int .i64 0, .int .i64 0], .bool false]) ∧ Below Y.heap.size Y w') := fun Y => by
    refine (specReadDeed X Y hX).mono ?_
    rintro e w' ⟨he, hb⟩
    rw [hr.out] at he
    exact ⟨he, hb⟩
  have HCP : Hid (∀ Y, Ext W Y → Calls Tryz.prog 38 #[.agg #[.string s, .slice a L c]] Y fun e w' => ∃ g2 c2, e = .returned (.agg #[.string s, .slice (some ⟨g2, 0, none⟩) L c2]) ∧ PastAt w' (.slice (some ⟨g2, 0, none⟩) L c2) zs ∧ W.heap.size ≤ g2 ∧ Ext W w') := fun Y hY => by
    refine (copy_named s (.slice a L c) zs Y ((e0.trans hY).strs h) L HL.out (by have := HL.out; omega)).mono ?_
    rintro e w' ⟨g2, c2, he, hown2, hp2, hb2⟩
    exact ⟨g2, c2, he, hp2, by have := (hown2.lt g2 rfl).1; have := hY.size; omega, hY.call hb2⟩
  have R0 := Lib.hid r0
  have R1 := Lib.hid r1
  have E0 := Lib.hid e0
  have c0 := cell_of_row _ _ 0 _ _ _ r0
  have c1 := cell_of_row _ _ 1 _ _ _ r0
  have HWS := Lib.hid hsz
  have hsz2 : s.size ≤ 1048576 := by omega
  have hcut := fun Y => cut_any X 32 Y hX
  have hwf := words_few 32 X
  obtain ⟨p0, qs, hps⟩ := cutAll_cons_some 32 X.data.toList
  have HTX : Hid (curveText X.data.toList = curveOf (p0 :: qs)) := by show _ = _; unfold curveText; rw [hps]
  have hwd : words 32 X = (p0 :: qs).map Tw.str := by unfold words; rw [hps]
  have hpz : ∀ p ∈ p0 :: qs, p.length ≤ 1048576 := fun p hp => by
    rw [← hps] at hp
    have := part_size hp
    rw [size_data] at this
    omega
  rw [hwd] at hcut hwf
  obtain ⟨n, hn⟩ : ∃ n, qs.length = n := ⟨_, rfl⟩
  have hn1 : ((p0 :: qs).map Tw.str).length = n + 1 := by rw [List.length_map, List.length_cons, hn]
  rw [hn1] at hcut hwf
  have HCUT : Hid (∀ Y : World, Calls Tryz.prog 61 #[.string X, .int .u8 32] Y fun e w' => ∃ g cap, e = .returned (.slice (some ⟨g, 0, none⟩) (n + 1) cap) ∧ w'.ownsRow Y.heap.size 9 1 (.slice (some ⟨g, 0, none⟩) (n + 1) cap) (n + 1) (strVals ((p0 :: qs).map Tw.str)) ∧ Below Y.heap.size Y w') := fun Y => hcut Y
  have HPZ := Lib.hid hpz
  have HN := Lib.hid hn
  obtain ⟨i0, hi0, hz0, hz1, hz2⟩ := info_parts lineIntInfo
  clear hW r0 r1 h hz h1 h8 e0 hsz hcut hps hwd hpz hn hn1 hat
  go_enter Tryz.func22, Tryz.ntmps22
  go_wp2_with fail
  rw [HW.out]
  go_wp2_with (first
    | (go_at_call 61; refine (HCUT.out _).mono ?_; rintro e w7 ⟨g7, c7, rfl, hown7, hb7⟩; have l7 : Lin W w2.heap.size s g2 c2 L zs w7 := Lin.call l4 hb7; have HO7 := Lib.hid hown7; clear hown7)
    | (go_at_call 24; refine HDK.out.mono ?_; rintro e w1 ⟨rfl, hb1⟩; have E1 : Ext W w1 := hb1; have hr1 := E1.row R0.out; have k0 := cell_of_row _ _ 0 _ _ _ hr1; have k1 := cell_of_row _ _ 1 _ _ _ hr1; clear hb1 hr1)
    | (go_at_call 38; refine (HCP.out w1 E1).mono ?_; rintro e w2 ⟨g2, c2, rfl, hp2, hg2, E2⟩; have hO : w.heap.size + 1 < w2.heap.size := (by have h8 := E2.size; have h9 := HWS.out; omega); have l3 := lin_new (x := s) E2 hp2 hg2; clear hp2 hg2)
    | (go_at_call 48; refine (HRD.out _).mono ?_; rintro e w4 ⟨rfl, hb4⟩; have l4 := (l3.call hb4).alloc (.cells #[.int .i64 0, .int .i64 0] 53); have hr4 := l4.ext.row R0.out; have l0 := cell_of_row _ _ 0 _ _ _ hr4; have hrr := l4.ext.row R1.out; have f0 := frozen_of_row _ _ 0 _ _ hrr; have f1 := frozen_of_row _ _ 1 _ _ hrr; have m0 := cell_of_row _ _ 0 _ _ _ hrr; have m1 := cell_of_row _ _ 1 _ _ _ hrr; have n0 := l4.cells.1; have n1 := l4.cells.2; have qq := pair_put hrr (.string s) (.slice (some ⟨g2, 0, none⟩) L c2); have rq0 := cell_of_row _ _ 0 _ _ _ qq; have rq1 := cell_of_row _ _ 1 _ _ _ qq; clear hrr qq; clear hb4 hr4))
  have HCELL : Hid (∀ (k : Nat) (p : List UInt8), (p0 :: qs)[k]? = some p → w7.cell? ⟨g7, k, none⟩ = some (.string (Tw.str p))) := fun k p hk => by
    have hlt : k < n + 1 := by have := (List.getElem?_eq_some_iff.1 hk).1; rw [List.length_cons, HN.out] at this; exact this
    rw [HO7.out.cellAt k (by omega)]
    unfold strVals
    rw [List.getElem?_map, List.getElem?_map, hk]
    rfl
  have hg7 := (HO7.out.lt g7 rfl).1
  have HO1 := Lib.hid (own_none w7 3 w7.heap.size (Nat.le_refl _))
  have hO2 := l7.high
  clear m0 m1 f0 f1 n0 n1 rq0 rq1 k0 k1 l0
  go_loopw [15, 16] (fun o i wr => ∃ (j k g cap : Nat), i = .int .i64 k ∧ Hid (k = j + 1) ∧ j ≤ n ∧ o = .slice (some ⟨g, 0, none⟩) j cap ∧ wr.ownsRow w7.heap.size 3 1 (.slice (some ⟨g, 0, none⟩) j cap) j (intVals (qs.take j)) ∧ Hid ((qs.take j).all (fun p => numOk p 4) = true) ∧ Lin W w2.heap.size s g2 c2 L zs wr ∧ Ext w7 wr)
    (fun _ i _ => n + 1 - (intOf i).toNat)
  case atStart => exact ⟨0, 1, _, _, rfl, rfl, Nat.zero_le _, rfl, HO1.out, rfl, l7.alloc _, (Ext.refl w7).alloc _⟩
  case round =>
    obtain ⟨j, k, g, cap, rfl, HK, hj, rfl, hown, HAL, lr, e7⟩ := hrel
    have hrr := lr.ext.row R1.out
    have f0 := frozen_of_row _ _ 0 _ _ hrr
    have f1 := frozen_of_row _ _ 1 _ _ hrr
    have m0 := cell_of_row _ _ 0 _ _ _ hrr
    have m1 := cell_of_row _ _ 1 _ _ _ hrr
    have n0 := lr.cells.1
    have n1 := lr.cells.2
    have qq := pair_put hrr (.string s) (.slice (some ⟨g2, 0, none⟩) L c2)
    have rq0 := cell_of_row _ _ 0 _ _ _ qq
    have rq1 := cell_of_row _ _ 1 _ _ _ qq
    clear hrr qq
    have hk1 : k = j + 1 := HK.out
    have hkI : (k : Int) = (j : Int) + 1 := by omega
    have HKI := Lib.hid hkI
    by_cases hlt : j < n
    · have hkn : (k : Int) < (n : Int) + 1 := by omega
      have hk0 : (0 : Int) ≤ (k : Int) := by omega
      obtain ⟨p, hp⟩ : ∃ p, qs[j]? = some p := ⟨qs[j]'(by rw [HN.out]; exact hlt), List.getElem?_eq_getElem (by rw [HN.out]; exact hlt)⟩
      have hpk : (p0 :: qs)[k]? = some p := by rw [hk1, List.getElem?_cons_succ]; exact hp
      have d0 := cell_keep e7 (HCELL.out k p hpk)
      have hrn := digits_any (Tw.str p) wr (by have := HPZ.out p (List.mem_of_getElem? hpk); rw [Tw.str_size]; omega)
      rw [Tw.str_data] at hrn
      unfold digitsRes at hrn
      obtain ⟨x, hx⟩ : ∃ x, Tw.str p = x := ⟨_, rfl⟩
      rw [hx] at d0 hrn
      have HP := Lib.hid hp
      have hgb := (hown.lt g rfl).1
      have hsz7 := e7.size
      have hj2 : j < 2000000 := by omega
      cases hnp : numOk p 4
      · rw [hnp] at hrn
        have HRN := Lib.hid hrn
        have HT2 : Hid (curveText X.data.toList = whatText) := HTX.out.trans (curve_bad (List.mem_of_getElem? hp) hnp)
        clear hx hrn hnp hp hpk hkI hk1 hown
        go_wp2_with (first
          | (go_at_call 62; refine HRN.out.mono ?_; rintro e w3 ⟨rfl, rfl⟩))
        refine bodyPost_ret (v := .tuple #[.agg #[.string s, .slice (some ⟨g2, 0, none⟩) L c2], .string ⟨#[119, 104, 97, 116]⟩]) (by simp [results, Tryz.results22, go_sem, rq0, rq1]) rfl ?_
        rw [HT2.out]
        exact lin_done E0.out lr HWS.out
      · rw [hnp, if_pos rfl] at hrn
        have HNP := Lib.hid hnp
        have hm9 := num_four hnp
        obtain ⟨m, hmv⟩ : ∃ m, numVal p = m := ⟨_, rfl⟩
        rw [hmv] at hrn hm9
        have HMV := Lib.hid hmv
        have HRN := Lib.hid hrn
        clear hx hrn hnp hp hpk hmv hkI hk1
        go_wp2_with (first
          | (go_at_call 62; refine HRN.out.mono ?_; rintro e w3 ⟨rfl, rfl⟩)
          | (at_builtin; refine wpList_append_lies _ rfl _ _ 77 rfl w7.heap.size 3 i0 _ 1 8 Tryz.underlying77 hi0 hz0 hz1 hz2 rfl (by omega) _ j _ rfl (hown.alloc _) ⟨wr.heap.size, 0, none⟩ 1 1 [.int .i64 (m : Int)] rfl rfl (World.news_of_block (cs := #[.int .i64 (m : Int)]) (t := 3) (fr := (0, 0)) (heap_alloc_new wr _)) (by simp [Value.oneCell']) (by omega) (by unfold maxLen; omega) (by omega) (by simp; omega) (wr.heap.size + 1) (by simp) ?_; intro g4 cap4 w4' hown4 hgrow4 hat4 hlt4))
        have hb9 : Below w7.heap.size wr w4' := (((Ext.refl wr).alloc (.cells #[.int .i64 (m : Int)] 3)).mono hsz7).grown hgrow4 (by simp; omega) (fun j9 hj9 => by have h9 : g = j9 := Option.some.inj hj9; omega)
        go_roundw
        case rel =>
          refine ⟨j + 1, k + 1, g4, cap4, by go_num, (by show _ = _; rw [HK.out]), by omega, rfl, ?_, all_more HP.out HAL.out HNP.out, lin_grown lr hb9 l7 (Nat.le_refl _), ?_⟩
          · rw [intVals_snoc HP.out, HMV.out]
            exact hown4
          · exact Below.trans e7 hb9
        case measure => have := HKI.out; simp [intOf]; omega
    · obtain rfl : j = n := by omega
      have hg1 := (hown.lt g rfl).1
      have hall := HAL.out
      rw [List.take_of_length_le (by rw [HN.out]; exact Nat.le_refl _)] at hall hown
      have hkn : ¬ (k : Int) < (j : Int) + 1 := by omega
      have d0 := cell_keep e7 (HCELL.out 0 p0 rfl)
      obtain ⟨z, hz⟩ : ∃ z, Tw.str p0 = z := ⟨_, rfl⟩
      rw [hz] at d0
      have zc := str_is hz [99, 101, 108, 108]
      have zn := str_is hz [110, 117, 109, 98, 101, 114]
      have hj0 : (0 : Int) < (j : Int) + 1 := by omega
      have HALL := Lib.hid hall
      have HTX1 := HTX.out
      have HLEN := HN.out
      clear hall hz hkI hk1 HTX HN
      by_cases hA : p0 = cellWord ∧ j = 2
      · obtain ⟨hA1, rfl⟩ := hA
        rw [show decide (p0 = [99, 101, 108, 108]) = true from decide_eq_true hA1] at zc
        match qs, HLEN, HALL, HTX1, hown with
        | [pa, pb], _, HALL, HTX1, hown =>
          have hok2 := HALL.out
          simp only [List.all_cons, List.all_nil, Bool.and_true, Bool.and_eq_true] at hok2
          have hT1 : curveOf [p0, pa, pb] = cellText (numVal pa) (numVal pb) := if_pos ⟨hA1, hok2.1, hok2.2⟩
          have HT2 := HTX1.trans hT1
          have l00 := hown.cellAt 0 (by omega)
          have l01 := hown.cellAt 1 (by omega)
          have ha9 := num_four hok2.1
          have e0a : (intVals [pa, pb])[0]? = some (.int .i64 (numVal pa : Nat)) := rfl
          have e1a : (intVals [pa, pb])[1]? = some (.int .i64 (numVal pb : Nat)) := rfl
          rw [e0a] at l00
          rw [e1a] at l01
          obtain ⟨ia, hia⟩ : ∃ i, numVal pa = i := ⟨_, rfl⟩
          obtain ⟨ib, hib⟩ : ∃ i, numVal pb = i := ⟨_, rfl⟩
          rw [hia] at l00 HT2 ha9
          rw [hib] at l01 HT2
          have hc := fun Y => specCellOf ia ib ha9 Y
          unfold CellOut at hc
          have hsm := cell_small ia ib
          unfold cellText at HT2
          obtain ⟨c1', hc1⟩ : ∃ c, (cellRes ia ib).1.1 = c := ⟨_, rfl⟩
          obtain ⟨c2', hc2⟩ : ∃ c, (cellRes ia ib).1.2 = c := ⟨_, rfl⟩
          obtain ⟨t, htt⟩ : ∃ t, (cellRes ia ib).2 = t := ⟨_, rfl⟩
          rw [hc1, hc2, htt] at HT2
          simp only [hc1, hc2, htt] at hc
          rw [hc1, hc2] at hsm
          have HC := Lib.hid hc
          clear hc hc1 hc2 htt hia hib e0a e1a hT1 hok2 HTX1 HALL hown zn
          cases t
          · have HT3 : Hid (curveText X.data.toList = ⟨#[110, 111, 110, 101]⟩) := HT2
            clear HT2
            go_upto_region 42 with (fail)
            go_region_held3 (fun w' => w'.cell? ⟨g, 0, none⟩ = some (.int .i64 (ia : Int)) ∧ w'.cell? ⟨g, 1, none⟩ = some (.int .i64 (ib : Int)))
              (exact ⟨l00, l01⟩)
              (first
                | (go_at_call 63; refine (HC.out _).mono ?_; rintro e w9 ⟨rfl, rfl⟩))
            all_goals
              go_wp2
              refine bodyPost_ret (v := .tuple #[.agg #[.string s, .slice (some ⟨g2, 0, none⟩) L c2], .string ⟨#[110, 111, 110, 101]⟩]) (by simp [results, Tryz.results22, go_sem, rq0, rq1]) rfl ?_
              rw [HT3.out]
              first | exact lin_done E0.out (by first | assumption | exact Lin.drew (by assumption)) HWS.out | exact line_drew (lin_done E0.out (by first | assumption | exact Lin.drew (by assumption)) HWS.out)
          · obtain ⟨u, hu⟩ : ∃ u, numText (c1' : Int) = u := ⟨_, rfl⟩
            obtain ⟨v, hv⟩ : ∃ u, numText (c2' : Int) = u := ⟨_, rfl⟩
            have su := numText_len (n := (c1' : Int)) (by omega) (by omega)
            have sv := numText_len (n := (c2' : Int)) (by omega) (by omega)
            rw [hu] at su
            rw [hv] at sv
            have HT3 : Hid (curveText X.data.toList = u ++ ⟨#[44]⟩ ++ v) := by show _ = _; rw [HT2, ← hu, ← hv]; rfl
            have HNX : Hid (∀ Y : World, Calls Tryz.prog 51 #[.int .i64 (c1' : Int)] Y fun e w' => e = .returned (.string u) ∧ Below Y.heap.size Y w') := fun Y => hu ▸ number_int (c1' : Int) (by omega) (by omega) Y
            have HNY : Hid (∀ Y : World, Calls Tryz.prog 51 #[.int .i64 (c2' : Int)] Y fun e w' => e = .returned (.string v) ∧ Below Y.heap.size Y w') := fun Y => hv ▸ number_int (c2' : Int) (by omega) (by omega) Y
            have fu : ¬ 9223372036854775807 < u.size + 1 := by omega
            have fv : ¬ 9223372036854775807 < u.size + 1 + v.size := by omega
            clear HT2 hu hv
            go_upto_region 42 with (fail)
            go_region_held3 (fun w' => w'.cell? ⟨g, 0, none⟩ = some (.int .i64 (ia : Int)) ∧ w'.cell? ⟨g, 1, none⟩ = some (.int .i64 (ib : Int)))
              (exact ⟨l00, l01⟩)
              (first
                | (go_at_call 63; refine (HC.out _).mono ?_; rintro e w9 ⟨rfl, rfl⟩))
            all_goals
              go_upto_region 45 with (fail)
              go_region_held3 (fun w' => w'.cell? ⟨w2.heap.size, 0, none⟩ = some (.string s) ∧ w'.cell? ⟨w2.heap.size, 1, none⟩ = some (.slice (some ⟨g2, 0, none⟩) L c2))
                (first
                  | exact Lin.cells (by assumption)
                  | exact (Lin.drew (by assumption)).cells
                  | exact (Lin.drew (Lin.drew (by assumption))).cells
                  | exact other_cells (by omega) (Lin.cells (by assumption)).1 (Lin.cells (by assumption)).2)
                (first
                  | (go_at_call_of 51 (Value.int .i64 (c1' : Int)); refine (HNX.out _).mono ?_; rintro e wc1' ⟨rfl, hbc1'⟩; have lc1' : Lin W w2.heap.size s g2 c2 L zs wc1' := Lin.call (by first | assumption | exact Lin.drew (by assumption) | exact Lin.drew (Lin.drew (by assumption))) hbc1'; have hrr := lc1'.ext.row R1.out; have f0 := frozen_of_row _ _ 0 _ _ hrr; have f1 := frozen_of_row _ _ 1 _ _ hrr; have m0 := cell_of_row _ _ 0 _ _ _ hrr; have m1 := cell_of_row _ _ 1 _ _ _ hrr; have n0 := lc1'.cells.1; have n1 := lc1'.cells.2; have qq := pair_put hrr (.string s) (.slice (some ⟨g2, 0, none⟩) L c2); have rq0 := cell_of_row _ _ 0 _ _ _ qq; have rq1 := cell_of_row _ _ 1 _ _ _ qq; clear hrr qq)
                  | (go_at_call_of 51 (Value.int .i64 (c2' : Int)); refine (HNY.out _).mono ?_; rintro e wc2' ⟨rfl, hbc2'⟩; have lc2' : Lin W w2.heap.size s g2 c2 L zs wc2' := Lin.call (by first | assumption | exact Lin.drew (by assumption) | exact Lin.drew (Lin.drew (by assumption))) hbc2'; have hrr := lc2'.ext.row R1.out; have f0 := frozen_of_row _ _ 0 _ _ hrr; have f1 := frozen_of_row _ _ 1 _ _ hrr; have m0 := cell_of_row _ _ 0 _ _ _ hrr; have m1 := cell_of_row _ _ 1 _ _ _ hrr; have n0 := lc2'.cells.1; have n1 := lc2'.cells.2; have qq := pair_put hrr (.string s) (.slice (some ⟨g2, 0, none⟩) L c2); have rq0 := cell_of_row _ _ 0 _ _ _ qq; have rq1 := cell_of_row _ _ 1 _ _ _ qq; clear hrr qq))
            all_goals
              go_wp2
              refine bodyPost_ret (v := .tuple #[.agg #[.string s, .slice (some ⟨g2, 0, none⟩) L c2], .string (u ++ ⟨#[44]⟩ ++ v)]) (by simp [results, Tryz.results22, go_sem, rq0, rq1]) rfl ?_
              rw [HT3.out]
              first | exact lin_done E0.out (by first | assumption | exact Lin.drew (by assumption)) HWS.out | exact line_drew (lin_done E0.out (by first | assumption | exact Lin.drew (by assumption)) HWS.out)
      · by_cases hB : p0 = numberWord ∧ j = 3
        · obtain ⟨hB1, rfl⟩ := hB
          rw [show decide (p0 = [99, 101, 108, 108]) = false from decide_eq_false (by rw [hB1]; decide)] at zc
          rw [show decide (p0 = [110, 117, 109, 98, 101, 114]) = true from decide_eq_true hB1] at zn
          match qs, HLEN, HALL, HTX1, hown with
          | [pa, pb, pd], _, HALL, HTX1, hown =>
            have hok2 := HALL.out
            simp only [List.all_cons, List.all_nil, Bool.and_true, Bool.and_eq_true] at hok2
            have hT1 : curveOf [p0, pa, pb, pd] = numbText (numVal pa) (numVal pb) (numVal pd) := if_pos ⟨hB1, hok2.1, hok2.2.1, hok2.2.2⟩
            have HT2 := HTX1.trans hT1
            have l00 := hown.cellAt 0 (by omega)
            have l01 := hown.cellAt 1 (by omega)
            have l02 := hown.cellAt 2 (by omega)
            have ha9 := num_four hok2.1
            have e0a : (intVals [pa, pb, pd])[0]? = some (.int .i64 (numVal pa : Nat)) := rfl
            have e1a : (intVals [pa, pb, pd])[1]? = some (.int .i64 (numVal pb : Nat)) := rfl
            have e2a : (intVals [pa, pb, pd])[2]? = some (.int .i64 (numVal pd : Nat)) := rfl
            rw [e0a] at l00
            rw [e1a] at l01
            rw [e2a] at l02
            obtain ⟨ia, hia⟩ : ∃ i, numVal pa = i := ⟨_, rfl⟩
            obtain ⟨ib, hib⟩ : ∃ i, numVal pb = i := ⟨_, rfl⟩
            obtain ⟨id', hid'⟩ : ∃ i, numVal pd = i := ⟨_, rfl⟩
            rw [hia] at l00 HT2 ha9
            rw [hib] at l01 HT2
            rw [hid'] at l02 HT2
            have hc := fun Y => specNumberOf ia ib id' ha9 Y
            unfold NumbOut at hc
            have hsm := numb_small ia ib id'
            unfold numbText at HT2
            obtain ⟨m, hmm⟩ : ∃ c, numbRes ia ib id' = c := ⟨_, rfl⟩
            rw [hmm] at HT2 hsm
            simp only [hmm] at hc
            have HC := Lib.hid hc
            obtain ⟨t, htt⟩ : ∃ t, toldText m (decide (0 ≤ m)) = t := ⟨_, rfl⟩
            have hy := fun Y => l12Told_any m (decide (0 ≤ m)) (by omega) (by omega) Y
            rw [htt] at HT2
            simp only [htt] at hy
            have HY := Lib.hid hy
            have HT3 := Lib.hid HT2
            clear hc hmm hia hib hid' e0a e1a e2a hT1 hok2 HTX1 HALL hown htt hy HT2
            go_upto_region 47 with (fail)
            go_region_held3 (fun w' => w'.cell? ⟨g, 0, none⟩ = some (.int .i64 (ia : Int)) ∧ w'.cell? ⟨g, 1, none⟩ = some (.int .i64 (ib : Int)) ∧ w'.cell? ⟨g, 2, none⟩ = some (.int .i64 (id' : Int)))
              (first
                | exact ⟨l00, l01, l02⟩
                | exact ⟨cell_keep hbA l00, cell_keep hbA l01, cell_keep hbA l02⟩)
              (first
                | (go_at_call 64; refine (HC.out _).mono ?_; rintro e wA ⟨rfl, hbA⟩; have lA : Lin W w2.heap.size s g2 c2 L zs wA := Lin.call (by first | assumption | exact Lin.drew (by assumption)) hbA; have hrr := lA.ext.row R1.out; have f0 := frozen_of_row _ _ 0 _ _ hrr; have f1 := frozen_of_row _ _ 1 _ _ hrr; have m0 := cell_of_row _ _ 0 _ _ _ hrr; have m1 := cell_of_row _ _ 1 _ _ _ hrr; have n0 := lA.cells.1; have n1 := lA.cells.2; have qq := pair_put hrr (.string s) (.slice (some ⟨g2, 0, none⟩) L c2); have rq0 := cell_of_row _ _ 0 _ _ _ qq; have rq1 := cell_of_row _ _ 1 _ _ _ qq; clear hrr qq))
            all_goals
              go_upto_region 48 with (fail)
              go_region_held3 (fun w' => w'.cell? ⟨w2.heap.size, 0, none⟩ = some (.string s) ∧ w'.cell? ⟨w2.heap.size, 1, none⟩ = some (.slice (some ⟨g2, 0, none⟩) L c2))
                (first
                  | exact Lin.cells (by assumption)
                  | exact (Lin.drew (by assumption)).cells
                  | exact (Lin.drew (Lin.drew (by assumption))).cells
                  | exact other_cells (by omega) (Lin.cells (by assumption)).1 (Lin.cells (by assumption)).2)
                (first
                  | (go_at_call 56; refine (HY.out _).mono ?_; rintro e wB ⟨rfl, hbB⟩; have lB : Lin W w2.heap.size s g2 c2 L zs wB := Lin.call (by first | assumption | exact Lin.drew (by assumption)) hbB; have hrr := lB.ext.row R1.out; have f0 := frozen_of_row _ _ 0 _ _ hrr; have f1 := frozen_of_row _ _ 1 _ _ hrr; have m0 := cell_of_row _ _ 0 _ _ _ hrr; have m1 := cell_of_row _ _ 1 _ _ _ hrr; have n0 := lB.cells.1; have n1 := lB.cells.2; have qq := pair_put hrr (.string s) (.slice (some ⟨g2, 0, none⟩) L c2); have rq0 := cell_of_row _ _ 0 _ _ _ qq; have rq1 := cell_of_row _ _ 1 _ _ _ qq; clear hrr qq))
            all_goals
              go_wp2
              refine bodyPost_ret (v := .tuple #[.agg #[.string s, .slice (some ⟨g2, 0, none⟩) L c2], .string t]) (by simp [results, Tryz.results22, go_sem, rq0, rq1]) rfl ?_
              rw [HT3.out]
              first | exact lin_done E0.out (by first | assumption | exact Lin.drew (by assumption)) HWS.out | exact line_drew (lin_done E0.out (by first | assumption | exact Lin.drew (by assumption)) HWS.out)
        · have HT2 := HTX1.trans (curve_not (fun h9 => hA ⟨h9.1, HLEN ▸ h9.2⟩) (fun h9 => hB ⟨h9.1, HLEN ▸ h9.2⟩))
          have HT3 : Hid (curveText X.data.toList = ⟨#[119, 104, 97, 116]⟩) := HT2
          clear HT2 HTX1 HALL hown
          by_cases hC : p0 = cellWord
          · have hj2 : ((j : Int) == 2) = false := beq_false_of_ne (fun e => hA ⟨hC, by omega⟩)
            have hj2' : ¬ (j : Int) = 2 := fun e => hA ⟨hC, by omega⟩
            rw [show decide (p0 = [99, 101, 108, 108]) = true from decide_eq_true hC] at zc
            rw [show decide (p0 = [110, 117, 109, 98, 101, 114]) = false from decide_eq_false (by rw [hC]; decide)] at zn
            go_wp2
            refine bodyPost_ret (v := .tuple #[.agg #[.string s, .slice (some ⟨g2, 0, none⟩) L c2], .string ⟨#[119, 104, 97, 116]⟩]) (by simp [results, Tryz.results22, go_sem, rq0, rq1]) rfl ?_
            rw [HT3.out]
            first | exact lin_done E0.out (by first | assumption | exact Lin.drew (by assumption)) HWS.out | exact line_drew (lin_done E0.out (by first | assumption | exact Lin.drew (by assumption)) HWS.out)
          · rw [show decide (p0 = [99, 101, 108, 108]) = false from decide_eq_false hC] at zc
            by_cases hD : p0 = numberWord
            · have hj2 : ((j : Int) == 3) = false := beq_false_of_ne (fun e => hB ⟨hD, by omega⟩)
              have hj2' : ¬ (j : Int) = 3 := fun e => hB ⟨hD, by omega⟩
              rw [show decide (p0 = [110, 117, 109, 98, 101, 114]) = true from decide_eq_true hD] at zn
              go_wp2
              refine bodyPost_ret (v := .tuple #[.agg #[.string s, .slice (some ⟨g2, 0, none⟩) L c2], .string ⟨#[119, 104, 97, 116]⟩]) (by simp [results, Tryz.results22, go_sem, rq0, rq1]) rfl ?_
              rw [HT3.out]
              first | exact lin_done E0.out (by first | assumption | exact Lin.drew (by assumption)) HWS.out | exact line_drew (lin_done E0.out (by first | assumption | exact Lin.drew (by assumption)) HWS.out)
            · rw [show decide (p0 = [110, 117, 109, 98, 101, 114]) = false from decide_eq_false hD] at zn
              go_wp2
              refine bodyPost_ret (v := .tuple #[.agg #[.string s, .slice (some ⟨g2, 0, none⟩) L c2], .string ⟨#[119, 104, 97, 116]⟩]) (by simp [results, Tryz.results22, go_sem, rq0, rq1]) rfl ?_
              rw [HT3.out]
              first | exact lin_done E0.out (by first | assumption | exact Lin.drew (by assumption)) HWS.out | exact line_drew (lin_done E0.out (by first | assumption | exact Lin.drew (by assumption)) HWS.out)

end Go.Proofs.YtccdfndnjjjgfaaGreatDoor

namespace Go.Proofs.YtccdfndnjjjgfaaGreatDoor
open Go.RowKit

noncomputable def sayStep (st : (ByteArray × List ByteArray) × List ByteArray) (X : ByteArray) : (ByteArray × List ByteArray) × List ByteArray := ((lineOf st.1.1 st.1.2 X).1, st.2 ++ [(lineOf st.1.1 st.1.2 X).2])
noncomputable def sayTo (s : ByteArray) (zs : List ByteArray) (ls : List ByteArray) : (ByteArray × List ByteArray) × List ByteArray := ls.foldl sayStep ((s, zs), [])
noncomputable def deskSay (s : ByteArray) (zs : List ByteArray) (ls : List ByteArray) : (ByteArray × List ByteArray) × List ByteArray := if deskOk s zs = true ∧ ls.length ≤ 40 then sayTo s zs ls else ((⟨#[]⟩, []), [])
theorem line_ok {s : ByteArray} {zs : List ByteArray} (h : deskOk s zs = true) (X : ByteArray) : deskOk (lineOf s zs X).1.1 (lineOf s zs X).1.2 = true := by
  unfold lineOf
  split
  · exact deskOk_done h _ _
  · exact h
theorem sayTo_succ {s : ByteArray} {zs : List ByteArray} {ls : List ByteArray} {j : Nat} {d : ByteArray} (h : ls[j]? = some d) : sayTo s zs (ls.take (j + 1)) = sayStep (sayTo s zs (ls.take j)) d := by
  unfold sayTo
  have hj : j < ls.length := by
    rcases Nat.lt_or_ge j ls.length with h1 | h1
    · exact h1
    · rw [List.getElem?_eq_none h1] at h
      cases h
  have hg : ls[j] = d := by
    rw [List.getElem?_eq_getElem hj] at h
    exact Option.some.inj h
  rw [List.take_succ_eq_append_getElem hj, List.foldl_append, hg]
  rfl
theorem say_from (ls : List ByteArray) : ∀ (st : (ByteArray × List ByteArray) × List ByteArray), ls.foldl sayStep st = ((ls.foldl sayStep (st.1, [])).1, st.2 ++ (ls.foldl sayStep (st.1, [])).2) := by
  induction ls with
  | nil => intro st; simp
  | cons X ls ih =>
    intro st
    rw [List.foldl_cons, List.foldl_cons, ih (sayStep st X), ih (sayStep (st.1, []) X)]
    unfold sayStep
    simp
/-- Two parts of the lines, one after the other. -/
theorem say_parts (s : ByteArray) (zs : List ByteArray) (xs ys : List ByteArray) : sayTo s zs (xs ++ ys) = ((sayTo (sayTo s zs xs).1.1 (sayTo s zs xs).1.2 ys).1, (sayTo s zs xs).2 ++ (sayTo (sayTo s zs xs).1.1 (sayTo s zs xs).1.2 ys).2) := by
  unfold sayTo
  rw [List.foldl_append, say_from ys]
theorem say_ok {s : ByteArray} {zs : List ByteArray} (h : deskOk s zs = true) (ls : List ByteArray) : deskOk (sayTo s zs ls).1.1 (sayTo s zs ls).1.2 = true ∧ (sayTo s zs ls).2.length = ls.length := by
  have gen : ∀ (ls : List ByteArray) (st : (ByteArray × List ByteArray) × List ByteArray), deskOk st.1.1 st.1.2 = true → deskOk (ls.foldl sayStep st).1.1 (ls.foldl sayStep st).1.2 = true ∧ (ls.foldl sayStep st).2.length = st.2.length + ls.length := by
    intro ls
    induction ls with
    | nil => intro st hst; exact ⟨hst, rfl⟩
    | cons X ls ih =>
      intro st hst
      have h2 := ih (sayStep st X) (line_ok hst X)
      rw [List.foldl_cons]
      refine ⟨h2.1, ?_⟩
      rw [h2.2]
      unfold sayStep
      simp
      omega
  have := gen ls ((s, zs), []) h
  unfold sayTo
  simpa using this
/-- No answer is empty, and none is long. -/
theorem num_some (n : Int) : 0 < (numText n).size := by
  unfold numText
  rw [Tw.str_size]
  unfold Lib.itoa
  split
  · simp
  · have : Lib.decDigits n.toNat ≠ [] := by
      rw [Lib.decDigits]
      split <;> simp
    exact List.length_pos_iff.2 this
theorem told_some (n : Int) (b : Bool) : 0 < (toldText n b).size := by
  unfold toldText
  split
  · exact num_some n
  · exact (by decide : 0 < noneText.size)
theorem pair_some (a b : Int) : 0 < (pairText a b).size := by
  unfold pairText
  have := num_some a
  simp only [ByteArray.size_append]
  omega
theorem yes_some (b : Bool) : 0 < (yesText b).size := by cases b <;> decide
theorem okWord_some (b : Bool) : 0 < (okWord b).size := by cases b <;> decide
theorem ask_some (k : Nat) (s : ByteArray) : 0 < (askText k s).size := by
  unfold askText
  repeat' split
  all_goals first
    | exact told_some _ _
    | exact yes_some _
    | exact pair_some _ _
    | (rw [ByteArray.size_append]; have : (⟨#[58]⟩ : ByteArray).size = 1 := rfl; omega)
theorem cellText_some (a b : Nat) : 0 < (cellText a b).size := by
  unfold cellText
  split
  · exact pair_some _ _
  · decide
theorem curve_some (ps : List (List UInt8)) : 0 < (curveOf ps).size := by
  unfold curveOf
  split
  · split
    · exact cellText_some _ _
    · decide
  · split
    · exact told_some _ _
    · decide
  · decide
theorem line_some (s : ByteArray) (zs : List ByteArray) (X : ByteArray) : 0 < (lineOf s zs X).2.size := by
  unfold lineOf
  split
  · exact okWord_some _
  · show 0 < (answerOf s X).size
    unfold answerOf
    split
    · exact ask_some _ _
    · exact curve_some _
theorem say_some (s : ByteArray) (zs ls : List ByteArray) : ∀ t ∈ (sayTo s zs ls).2, 0 < t.size := by
  have gen : ∀ (ls : List ByteArray) (st : (ByteArray × List ByteArray) × List ByteArray), (∀ t ∈ st.2, 0 < t.size) → ∀ t ∈ (ls.foldl sayStep st).2, 0 < t.size := by
    intro ls
    induction ls with
    | nil => intro st hst; exact hst
    | cons X ls ih =>
      intro st hst
      rw [List.foldl_cons]
      refine ih (sayStep st X) fun t ht => ?_
      rcases List.mem_append.1 ht with ht | ht
      · exact hst t ht
      · rw [List.mem_singleton.1 ht]
        exact line_some _ _ _
  exact gen ls ((s, zs), []) (by simp)
end Go.Proofs.YtccdfndnjjjgfaaGreatDoor

namespace Go.Proofs.YtccdfndnjjjgfaaGreatDoor
open Go.RowKit

theorem askAt_lt {X : ByteArray} {k : Nat} (h : askAt X = some k) : k < 9 ∧ askWords.getD k ⟨#[]⟩ = X := by
  unfold askAt at h
  obtain ⟨hk, h2, _⟩ := List.findIdx?_eq_some_iff_getElem.1 h
  exact ⟨hk, by rw [List.getD_eq_getElem?_getD, List.getElem?_eq_getElem hk]; exact of_decide_eq_true h2⟩
theorem readOf_false {l : List UInt8} (h : (readOf l).2 = false) : readOf l = ((0, 0), false) := by
  unfold readOf at *
  split at h
  · cases h
  · rename_i hx
    rw [dif_neg hx]
theorem readOf_small {l : List UInt8} (h : (readOf l).2 = true) : -9223372036854775808 ≤ (readOf l).1.2 ∧ (readOf l).1.2 ≤ 9223372036854775807 := by
  obtain ⟨h0, h1⟩ := readOf_text h
  have h2 := told_of (k := (readOf l).1.1) (n := (readOf l).1.2) (by rw [h1]; exact h0)
  unfold told at h2
  omega
theorem lineOf_deed {s : ByteArray} {zs : List ByteArray} {X : ByteArray} (h : (readOf X.data.toList).2 = true) : lineOf s zs X = (((deskDone s zs (readOf X.data.toList).1.1 (readOf X.data.toList).1.2).1, (deskDone s zs (readOf X.data.toList).1.1 (readOf X.data.toList).1.2).2.1), okWord (deskDone s zs (readOf X.data.toList).1.1 (readOf X.data.toList).1.2).2.2) := if_pos h
theorem lineOf_else {s : ByteArray} {zs : List ByteArray} {X : ByteArray} (h : (readOf X.data.toList).2 = false) : lineOf s zs X = ((s, zs), answerOf s X) := if_neg (by rw [h]; simp)
theorem answer_ask {s X : ByteArray} {k : Nat} (h : askAt X = some k) : answerOf s X = askText k s := by unfold answerOf; rw [h]
theorem answer_curve {s X : ByteArray} (h : askAt X = none) : answerOf s X = curveText X.data.toList := by unfold answerOf; rw [h]

/-- The tables, as laid. -/
structure TabsAt (w : World) : Prop where
  ways : WaysAt w
  dirs : DirsAt w
  words : WordsAt w
  max : MaxAt w
  pow : PowAt w
theorem TabsAt.below' {w w' : World} (h : TabsAt w) (hb : Below w.heap.size w w') : TabsAt w' := ⟨h.ways.below' hb, h.dirs.below' hb, h.words.below' hb, h.max.below' hb, h.pow.below' hb⟩
theorem implLine_ok (s : ByteArray) (v : Value) (zs : List ByteArray) (X : ByteArray) (w : World) (h : PastAt w v zs) (hok : deskOk s zs = true) (hX : X.size ≤ 1048576) (ht : TabsAt w) :
    Calls Tryz.prog 21 #[.agg #[.string s, v], .string X] w (LineOut w (lineOf s zs X).1.1 (lineOf s zs X).1.2 (lineOf s zs X).2) := by
  obtain ⟨a, c, rfl⟩ := past_value h
  cases hr : (readOf X.data.toList).2
  · rw [lineOf_else hr]
    cases hat : askAt X with
    | none =>
      rw [answer_curve hat]
      exact implLine_curve s a c zs.length zs X w h (Lib.hid rfl) (Lib.hid hok) hX (Lib.hid (readOf_false hr)) ht.words ht.max ht.pow hat _ rfl
    | some k =>
      rw [answer_ask hat]
      exact implLine_ask s a c zs.length zs X w h (Lib.hid rfl) (Lib.hid hok) hX (Lib.hid (readOf_false hr)) ht.dirs ht.words ht.max ht.pow k (askAt_lt hat).1 hat _ rfl
  · rw [lineOf_deed hr]
    exact implLine_deed s a c zs.length zs X _ _ w h (Lib.hid hok) hX (Lib.hid (Prod.ext (Prod.ext rfl rfl) hr)) _ _ _ (Lib.hid rfl) ht.ways ht.dirs ht.words ht.max
set_option maxRecDepth 100000 in
set_option maxHeartbeats 800000 in
theorem implLine_none (s : ByteArray) (a : Option Addr) (c L : Nat) (zs : List ByteArray) (X : ByteArray) (w : World) (h : StrsAt w (.slice a L c) zs) (HL : Hid (zs.length = L)) (hs : s.size ≤ 1048576) (hL : L ≤ 1048576) (hz : ∀ z ∈ zs, z.size ≤ 1048576) (hok : deskOk s zs = false) :
    Calls Tryz.prog 21 #[.agg #[.string s, .slice a L c], .string X] w (LineOut w ⟨#[]⟩ [] ⟨#[]⟩) := by
  obtain ⟨e0, hsz, r0, r1⟩ := desk2_in w s (.slice a L c)
  obtain ⟨W, hW⟩ : ∃ W, deskBox2 w s (.slice a L c) = W := ⟨_, rfl⟩
  rw [hW] at e0 hsz r0 r1
  unfold deskBox2 at hW
  have HW := Lib.hid hW
  have HDK := Lib.hid (deskOk_namedI s (.slice a L c) zs W (e0.strs h) hs (by rw [HL.out]; exact hL) hz false hok)
  have R1 := Lib.hid r1
  have c0 := cell_of_row _ _ 0 _ _ _ r0
  have c1 := cell_of_row _ _ 1 _ _ _ r0
  clear hW r0 r1 h hok hz
  go_enter Tryz.func21, Tryz.ntmps21
  go_wp2_with fail
  rw [HW.out]
  go_wp2_with (first
    | (go_at_call 27; refine HDK.out.mono ?_; rintro e w1 ⟨rfl, hb1⟩; have e1 : Ext W w1 := hb1; have hr := e1.row R1.out; have f0 := frozen_of_row _ _ 0 _ _ hr; have f1 := frozen_of_row _ _ 1 _ _ hr; have k0 := cell_of_row _ _ 0 _ _ _ hr; have k1 := cell_of_row _ _ 1 _ _ _ hr; have q := pair_put hr (.string ⟨#[]⟩) (.slice none 0 0); have q0 := cell_of_row _ _ 0 _ _ _ q; have q1 := cell_of_row _ _ 1 _ _ _ q; clear hr q hb1))
  refine bodyPost_ret (v := .tuple #[.agg #[.string ⟨#[]⟩, .slice none 0 0], .string ⟨#[]⟩]) (by simp [results, Tryz.results21, go_sem, q0, q1]) rfl ?_
  exact line_done (R := w.heap.size + 1) (e0.trans e1) (.inl ⟨rfl, rfl⟩) (Fresh.none _) (fun h9 => by cases h9) (by omega)
theorem implLine (s : ByteArray) (v : Value) (zs : List ByteArray) (X : ByteArray) (w : World) (h : PastAt w v zs) (hs : s.size ≤ 1048576) (hL : zs.length ≤ 1048576) (hz : ∀ z ∈ zs, z.size ≤ 1048576) (hX : X.size ≤ 1048576) (ht : TabsAt w) :
    Calls Tryz.prog 21 #[.agg #[.string s, v], .string X] w (LineOut w (deskLine s zs X).1.1 (deskLine s zs X).1.2 (deskLine s zs X).2) := by
  cases hok : deskOk s zs
  · obtain ⟨a, c, rfl⟩ := past_value h
    rw [show deskLine s zs X = ((⟨#[]⟩, []), ⟨#[]⟩) from if_neg (by rw [hok]; simp)]
    exact implLine_none s a c zs.length zs X w h.strs (Lib.hid rfl) hs hL hz hok
  · rw [show deskLine s zs X = lineOf s zs X from if_pos hok]
    exact implLine_ok s v zs X w h hok hX ht
theorem specLine_ok (s : ByteArray) (v : Value) (zs : List ByteArray) (X : ByteArray) (w : World) (h : StrsAt w v zs) (hok : deskOk s zs = true) (hX : X.size ≤ 1048576) :
    Calls Tryz.prog 22 #[.agg #[.string s, v], .string X] w (LineOut w (lineOf s zs X).1.1 (lineOf s zs X).1.2 (lineOf s zs X).2) := by
  obtain ⟨a, c, rfl⟩ := strs_value h
  cases hr : (readOf X.data.toList).2
  · rw [lineOf_else hr]
    cases hat : askAt X with
    | none =>
      rw [answer_curve hat]
      exact specLine_curve s a c zs.length zs X w h (Lib.hid rfl) (Lib.hid hok) hX (Lib.hid (readOf_false hr)) hat
    | some k =>
      rw [answer_ask hat]
      exact specLine_ask s a c zs.length zs X w h (Lib.hid rfl) (Lib.hid hok) hX (Lib.hid (readOf_false hr)) k (askAt_lt hat).1 (askAt_lt hat).2
  · rw [lineOf_deed hr]
    exact specLine_deed s a c zs.length zs X _ _ w h (Lib.hid rfl) (Lib.hid hok) hX (Lib.hid (Prod.ext (Prod.ext rfl rfl) hr)) _ _ _ (Lib.hid rfl) (readOf_small hr)
theorem specLine (s : ByteArray) (v : Value) (zs : List ByteArray) (X : ByteArray) (w : World) (h : StrsAt w v zs) (hs : s.size ≤ 1048576) (hL : zs.length ≤ 1048576) (hz : ∀ z ∈ zs, z.size ≤ 1048576) (hX : X.size ≤ 1048576) :
    Calls Tryz.prog 22 #[.agg #[.string s, v], .string X] w (LineOut w (deskLine s zs X).1.1 (deskLine s zs X).1.2 (deskLine s zs X).2) := by
  cases hok : deskOk s zs
  · obtain ⟨a, c, rfl⟩ := strs_value h
    rw [show deskLine s zs X = ((⟨#[]⟩, []), ⟨#[]⟩) from if_neg (by rw [hok]; simp)]
    exact specLine_none s a c zs.length zs X w h (Lib.hid rfl) hs hL hz hok
  · rw [show deskLine s zs X = lineOf s zs X from if_pos hok]
    exact specLine_ok s v zs X w h hok hX

end Go.Proofs.YtccdfndnjjjgfaaGreatDoor

namespace Go.Proofs.YtccdfndnjjjgfaaGreatDoor
open Go.ChangeShapes Go.WideShapes Go.ChangeAt Go.RowKit Go.WideMaps Go.WideElems
open Go.ChangeMaps (open_string shut_string)

section
variable {H : Type} {enc : TypeId × Value → H} {P : Program}

theorem trodAll_stays (hl : laidOutB P = true) {W W' : World} {sp' : Nat → Bool} : ∀ {ts : List TypeId} {vs : List Value} {ds : List (DataW H)} {ps : List MemPlace},
    (∀ t ∈ ts, P.readableRec t = true ∧ t < P.types.size) → DataW.TrodAll enc P W 0 (fun _ => true) true ts vs ds ps → (∀ p ∈ ps, W.sameAt W' p) → (∀ p ∈ ps, sp' p.block = true) → DataW.TrodAll enc P W' 0 sp' true ts vs ds ps
  | [], _, _, _, _, h, _, _ => by
    obtain ⟨rfl, rfl, rfl⟩ := trodAll_nil h
    exact trodAll_mk0
  | t :: ts, _, _, _, hr, h, hsame, hs => by
    obtain ⟨v, vs', d, ds', p, q, rfl, rfl, rfl, h1, h2⟩ := trodAll_cons h
    exact trodAll_cons_mk (WideElems.Trod_stays hl (hr t (by simp)).1 (hr t (by simp)).2 h1 (fun x hx => hsame x (by simp [hx])) (fun x hx => hs x (by simp [hx])))
      (trodAll_stays hl (fun u hu => hr u (by simp [hu])) h2 (fun x hx => hsame x (by simp [hx])) (fun x hx => hs x (by simp [hx])))

theorem trodVars_stays (hl : laidOutB P = true) {W W' : World} {sp' : Nat → Bool} (hb : Below W.heap.size W W') : ∀ {ns : List String} {ds : List (DataW H)} {ps : List MemPlace},
    (∀ n ∈ ns, ∀ g t, P.globalNamed n = some g → (P.globals[g]?).map (·.type) = some t → P.readableRec t = true ∧ t < P.types.size) → DataW.TrodVars enc P W (fun _ => true) ns ds ps → (∀ p ∈ ps, W.sameAt W' p) → (∀ p ∈ ps, sp' p.block = true) →
    DataW.TrodVars enc P W' sp' ns ds ps
  | [], ds, _, _, h, _, _ => by
    cases ds with
    | nil => exact h
    | cons _ _ => exact h.elim
  | n :: ns, [], _, _, h, _, _ => h.elim
  | n :: ns, d :: ds, _, hr, h, hsame, hs => by
    obtain ⟨g, t, cs, fuel, p, q, h1, h2, h3, h4, h5, rfl⟩ := h
    have hg : g < W.heap.size := by
      have h3' := h3
      unfold World.var? at h3'
      rw [h1, Option.bind_some] at h3'
      rcases Nat.lt_or_ge g W.heap.size with hlt | hge
      · exact hlt
      · rw [Array.getElem?_eq_none hge] at h3'
        cases h3'
    obtain ⟨hr1, hr2⟩ := hr n (by simp) g t h1 h2
    have h4' := DataW.trod_stays (sp' := sp') (kids_book hl hr1) (book_sized hr1) (fun h => by cases h) ⟨hr2, book_self t⟩ h4 (fun x hx => hsame x (by simp [hx])) (fun x hx => hs x (by simp [hx]))
    exact ⟨g, t, cs, fuel, p, q, h1, h2, var?_below hb h1 hg h3, h4', trodVars_stays hl hb (fun m hm => hr m (by simp [hm])) h5 (fun x hx => hsame x (by simp [hx])) (fun x hx => hs x (by simp [hx])), rfl⟩

section
variable {H : Type} {enc : TypeId × Value → H} {P : Program} {W : World} {sp : Nat → Bool}
theorem trodVars_len0 {gs : List (DataW H)} {q : List MemPlace} (h : DataW.TrodVars enc P W sp [] gs q) : gs = [] := (trodVars_none h).1
theorem trodVars_len1 {n0 : String} {gs : List (DataW H)} {q : List MemPlace} (h : DataW.TrodVars enc P W sp [n0] gs q) : ∃ g0, gs = [g0] := by
  cases gs with
  | nil => exact h.elim
  | cons g0 gs =>
    obtain ⟨_, _, _, _, _, _, _, _, _, _, h', _⟩ := h
    exact ⟨g0, by rw [trodVars_len0 h']⟩
theorem trodVars_len2 {n0 n1 : String} {gs : List (DataW H)} {q : List MemPlace} (h : DataW.TrodVars enc P W sp [n0, n1] gs q) : ∃ g0 g1, gs = [g0, g1] := by
  cases gs with
  | nil => exact h.elim
  | cons g0 gs =>
    obtain ⟨_, _, _, _, _, _, _, _, _, _, h', _⟩ := h
    obtain ⟨g1, rfl⟩ := trodVars_len1 h'
    exact ⟨g0, g1, rfl⟩
theorem trodVars_len3 {n0 n1 n2 : String} {gs : List (DataW H)} {q : List MemPlace} (h : DataW.TrodVars enc P W sp [n0, n1, n2] gs q) : ∃ g0 g1 g2, gs = [g0, g1, g2] := by
  cases gs with
  | nil => exact h.elim
  | cons g0 gs =>
    obtain ⟨_, _, _, _, _, _, _, _, _, _, h', _⟩ := h
    obtain ⟨g1, g2, rfl⟩ := trodVars_len2 h'
    exact ⟨g0, g1, g2, rfl⟩
theorem trodVars_len4 {n0 n1 n2 n3 : String} {gs : List (DataW H)} {q : List MemPlace} (h : DataW.TrodVars enc P W sp [n0, n1, n2, n3] gs q) : ∃ g0 g1 g2 g3, gs = [g0, g1, g2, g3] := by
  cases gs with
  | nil => exact h.elim
  | cons g0 gs =>
    obtain ⟨_, _, _, _, _, _, _, _, _, _, h', _⟩ := h
    obtain ⟨g1, g2, g3, rfl⟩ := trodVars_len3 h'
    exact ⟨g0, g1, g2, g3, rfl⟩
end

/-- What a law's specification says: the call returns true, and all reads as before. -/
structure Plain (s : ChangeSpec) (ds gs : List (DataW H)) : Prop where
  res : (s.fn H (ds ++ gs)).results = [.lit (.bool true)]
  args : (s.fn H (ds ++ gs)).args = ds
  vars : (s.fn H (ds ++ gs)).vars = gs

def rowsOk (P : Program) (ts : List TypeId) : Bool := ts.all fun t => P.readableRec t && decide (t < P.types.size)
def varsOk (P : Program) (ns : List String) : Bool := ns.all fun n => ((P.globalNamed n).bind (P.globals[·]?)).all fun gl => P.readableRec gl.type && decide (gl.type < P.types.size)

theorem law_post {f : Func} {s : ChangeSpec} {W W' : World} {args : Array Value} {ds gs : List (DataW H)} {before : List MemPlace} (hl : laidOutB P = true) (ht : rowsOk P f.params.toList = true) (hv : varsOk P s.vars = true)
    {tb : TypeId} (hb1 : f.resultTypes = #[tb]) (hb2 : P.underlying tb = some .bool)
    (hW : DataW.Whole enc P f.params.toList s.vars false W args.toList ds gs before) (hs : Plain s ds gs) (hb : Below W.heap.size W W') :
    s.post enc P f false true false false W args (.bool true) W' := by
  have hlt : ∀ p ∈ before, p.block < W.heap.size := fun p hp => hW.lt p hp
  have hold : ∀ p ∈ before, (fun b => decide (b < W.heap.size)) p.block = true := fun p hp => by simpa using hlt p hp
  have hW' := hW
  obtain ⟨pa, pv, hA, hV, rfl, hz, hn⟩ := hW
  have hsame : ∀ p ∈ pa ++ pv, W.sameAt W' p := fun p hp => hb.same (hlt p hp)
  have htr : ∀ t ∈ f.params.toList, P.readableRec t = true ∧ t < P.types.size := fun t h => by
    have := List.all_eq_true.1 ht t h
    simpa using this
  have hvr : ∀ n ∈ s.vars, ∀ g t, P.globalNamed n = some g → (P.globals[g]?).map (·.type) = some t → P.readableRec t = true ∧ t < P.types.size := fun n h g t h1 h2 => by
    have := List.all_eq_true.1 hv n h
    rw [h1] at this
    cases hg : P.globals[g]? with
    | none => rw [hg] at h2; cases h2
    | some gl =>
      rw [hg] at h2
      obtain rfl : gl.type = t := Option.some.inj h2
      simpa [hg] using this
  have hargs : ∀ sp : Nat → Bool, (∀ p ∈ pa ++ pv, sp p.block = true) → DataW.TrodAll enc P W' 0 sp true f.params.toList args.toList (s.fn H (ds ++ gs)).args pa := fun sp hsp => by
    rw [hs.args]
    exact trodAll_stays hl htr hA (fun x hx => hsame x (by simp [hx])) (fun x hx => hsp x (by simp [hx]))
  have hvars : ∀ sp : Nat → Bool, (∀ p ∈ pa ++ pv, sp p.block = true) → DataW.TrodVars enc P W' sp s.vars (s.fn H (ds ++ gs)).vars pv := fun sp hsp => by
    rw [hs.vars]
    exact trodVars_stays hl hb hvr hV (fun x hx => hsame x (by simp [hx])) (fun x hx => hsp x (by simp [hx]))
  have hres : ∀ (b : Nat) (sp : Nat → Bool) (hd : Bool), DataW.TrodAll enc P W' b sp hd f.resultTypes.toList ((Value.bool true).resultList f.resultTypes.size) (s.fn H (ds ++ gs)).results [] := fun b sp hd => by
    rw [hs.res, hb1]
    exact trodAll_cons_mk (shut_bool hb2 _) trodAll_mk0
  refine ⟨ds, gs, pa ++ pv, [], pa, pv, hW', hres _ _ _, hargs _ hold, hvars _ hold, World.keptBut_mono (fun p hp => ⟨hp, ?_⟩) (hb.frame (· ∈ pa ++ pv)), fun h => by cases h⟩
  rw [List.mem_append] at hp
  exact Or.inr hp

/-- Out of the list of variables with what they hold: one of them. -/
theorem laid_one {W : World} {n : String} {d : DataW Unit} : ∀ {laid : List (String × DataW Unit)} {ps : List MemPlace}, DataW.LaidVars P W laid ps → (n, d) ∈ laid →
    ∃ g t cs fuel p, P.globalNamed n = some g ∧ (P.globals[g]?).map (·.type) = some t ∧ W.var? P n = some cs ∧ DataW.trod (fun _ => ()) P W 0 (fun _ => true) false fuel t cs.toList = some (d, p)
  | [], _, _, hm => by cases hm
  | (n', d') :: r, _, h, hm => by
    obtain ⟨g, t, cs, fuel, p, q, h1, h2, h3, h4, h5, _⟩ := h
    rcases List.mem_cons.1 hm with e | hm
    · cases e
      exact ⟨g, t, cs, fuel, p, h1, h2, h3, h4⟩
    · exact laid_one h5 hm

/-- An array of strings, cell for cell. -/
theorem cells_of_strs {w : World} {base : Nat} {sp : Nat → Bool} {held : Bool} {fuel : Nat} {t e : TypeId} {n : Nat} {cs : List Value} {zs : List (List UInt8)} {p : List MemPlace}
    (ht : P.underlying t = some (.array n e)) (he : P.underlying e = some .string) (hce : P.cellsOf e = 1)
    (h : DataW.trod enc P w base sp held fuel t cs = some (.agg (zs.map fun z => .lit (.string z)), p)) : ∀ i, i < n → cs[i]? = some (.string (Tw.str (zs.getD i []))) := by
  obtain ⟨xs, m, _, hx, _, hxl, hel⟩ := DataW.trod_array ht h
  simp only [Prod.mk.injEq, DataW.agg.injEq] at hx
  intro i hi
  have h1 := hel i hi
  rw [hce, Nat.mul_one] at h1
  have hx1 : xs[i]? = some (xs[i]'(by omega)) := List.getElem?_eq_getElem (by omega)
  rw [hx1] at h1
  obtain ⟨s, hc, hy, _⟩ := DataW.trod_string he h1
  have h2 : (xs.map (·.1))[i]? = some (DataW.lit (.string s.data.toList) : DataW H) := by simp [hx1, hy]
  rw [← hx.1] at h2
  simp only [List.getElem?_map, Option.map_eq_some_iff, DataW.lit.injEq, Lit.string.injEq] at h2
  obtain ⟨z, hz, rfl⟩ := h2
  have h3 := congrArg (·[0]?) hc
  simp only [List.getElem?_take, List.getElem?_drop] at h3
  simp at h3
  rw [h3, List.getD, hz, Option.getD_some, Tw.str_of]

end

theorem gWays : Tryz.prog.globalNamed "loop.example/turtlewalks/impl.wayLetters" = some 1 := by kernel_rfl
theorem gWaysType : (Tryz.prog.globals[1]?).map (·.type) = some 144 := by kernel_rfl
theorem cellsString : Tryz.prog.cellsOf 9 = 1 := by kernel_rfl
theorem waysAt {W : World} {laid : List (String × DataW Unit)} (hp : (laid.all fun x => x.2.handleName?.isNone) = true) (h : laidMetH Tryz.prog laid W)
    (hm : ("loop.example/turtlewalks/impl.wayLetters", Rows.laid_loop_example_turtlewalks_impl_wayLetters) ∈ laid) : WaysAt W := by
  rw [MakeChecks.laidMetH_plain _ _ _ hp] at h
  obtain ⟨_, h, _⟩ := h
  obtain ⟨g, t, cs, fuel, p, h1, h2, h3, h4⟩ := laid_one h hm
  obtain rfl := Option.some.inj (gWays.symm.trans h1)
  obtain rfl := Option.some.inj (gWaysType.symm.trans h2)
  intro i hi
  rw [World.var?_cell h1 h3 i]
  have := cells_of_strs (zs := wayList) Tryz.underlying144 Tryz.underlying9 cellsString h4 i hi
  simpa using this

theorem gDirs : Tryz.prog.globalNamed "loop.example/turtlewalks/impl.directions" = some 3 := by kernel_rfl
theorem gDirsType : (Tryz.prog.globals[3]?).map (·.type) = some 169 := by kernel_rfl
theorem cellsPair : Tryz.prog.cellsOf 129 = 2 := by kernel_rfl
theorem cellsInt : Tryz.prog.cellsOf 3 = 1 := by kernel_rfl
theorem cells_of_dirs {w : World} {base : Nat} {sp : Nat → Bool} {held : Bool} {fuel : Nat} {cs : List Value} {zs : List (List Int)} {p : List MemPlace}
    (h : DataW.trod (fun _ => ()) Tryz.prog w base sp held fuel 169 cs = some (.agg (zs.map fun z => .agg (z.map fun y => .lit (.int .i64 y))), p)) :
    ∀ i j, i < 4 → j < 2 → cs[i * 2 + j]? = some (.int .i64 ((zs.getD i []).getD j 0)) := by
  obtain ⟨xs, m, _, hx, _, hxl, hel⟩ := DataW.trod_array Tryz.underlying169 h
  simp only [Prod.mk.injEq, DataW.agg.injEq] at hx
  intro i j hi hj
  have h1 := hel i hi
  rw [cellsPair] at h1
  have hx1 : xs[i]? = some (xs[i]'(by omega)) := List.getElem?_eq_getElem (by omega)
  rw [hx1] at h1
  have h2 : (xs.map (·.1))[i]? = some (xs[i]'(by omega)).1 := by simp [hx1]
  rw [← hx.1] at h2
  simp only [List.getElem?_map, Option.map_eq_some_iff] at h2
  obtain ⟨z, hz, hz1⟩ := h2
  have h1' : DataW.trod (fun _ => ()) Tryz.prog w base sp held m 129 ((cs.drop (i * 2)).take 2) = some (.agg (z.map fun y => .lit (.int .i64 y)), (xs[i]'(by omega)).2) := by rw [h1, hz1]
  obtain ⟨ys, m2, _, hy, _, hyl, hel2⟩ := DataW.trod_array Tryz.underlying129 h1'
  simp only [Prod.mk.injEq, DataW.agg.injEq] at hy
  have h3 := hel2 j hj
  rw [cellsInt, Nat.mul_one] at h3
  have hy1 : ys[j]? = some (ys[j]'(by omega)) := List.getElem?_eq_getElem (by omega)
  rw [hy1] at h3
  obtain ⟨q, hc, hq, _⟩ := DataW.trod_int Tryz.underlying3 h3
  have h4 : (ys.map (·.1))[j]? = some (DataW.lit (.int .i64 q) : DataW Unit) := by simp [hy1, hq]
  rw [← hy.1] at h4
  simp only [List.getElem?_map, Option.map_eq_some_iff, DataW.lit.injEq, Lit.int.injEq, true_and] at h4
  obtain ⟨z', hz', rfl⟩ := h4
  have h5 := congrArg (·[0]?) hc
  simp only [List.getElem?_take, List.getElem?_drop] at h5
  simp [hj] at h5
  have e1 : zs.getD i [] = z := by simp [List.getD, hz]
  rw [h5, e1, List.getD, hz', Option.getD_some]
theorem dirsAt {W : World} {laid : List (String × DataW Unit)} (hp : (laid.all fun x => x.2.handleName?.isNone) = true) (h : laidMetH Tryz.prog laid W)
    (hm : ("loop.example/turtlewalks/impl.directions", Rows.laid_loop_example_turtlewalks_impl_directions) ∈ laid) : DirsAt W := by
  rw [MakeChecks.laidMetH_plain _ _ _ hp] at h
  obtain ⟨_, h, _⟩ := h
  obtain ⟨g, t, cs, fuel, p, h1, h2, h3, h4⟩ := laid_one h hm
  obtain rfl := Option.some.inj (gDirs.symm.trans h1)
  obtain rfl := Option.some.inj (gDirsType.symm.trans h2)
  have hc : ∀ i j, i < 4 → j < 2 → W.cell? ⟨3, i * 2 + j, none⟩ = some (.int .i64 (([[1, 0], [0, 1], [-1, 0], [0, -1]].getD i []).getD j 0)) := fun i j hi hj => by
    rw [World.var?_cell h1 h3 (i * 2 + j)]
    have := cells_of_dirs (zs := [[1, 0], [0, 1], [-1, 0], [0, -1]]) h4 i j hi hj
    rw [← Array.getElem?_toList]
    exact this
  exact ⟨hc 0 0 (by omega) (by omega), hc 0 1 (by omega) (by omega), hc 1 0 (by omega) (by omega), hc 1 1 (by omega) (by omega), hc 2 0 (by omega) (by omega), hc 2 1 (by omega) (by omega), hc 3 0 (by omega) (by omega), hc 3 1 (by omega) (by omega)⟩

end Go.Proofs.YtccdfndnjjjgfaaGreatDoor

namespace Go.Proofs.YtccdfndnjjjgfaaGreatDoor
open Go.ChangeShapes Go.WideShapes Go.ChangeAt Go.RowKit Go.WideMaps Go.WideElems

def wordsList : List (List UInt8) := [[115, 116, 101, 112], [100, 114, 111, 112], [119, 97, 121], [111, 110], [102, 105, 114, 115, 116], [98, 97, 99, 107]]
theorem gWords : Tryz.prog.globalNamed "loop.example/turtlewalks/impl.deedWords" = some 0 := by kernel_rfl
theorem gWordsType : (Tryz.prog.globals[0]?).map (·.type) = some 94 := by kernel_rfl
theorem cellsWord : Tryz.prog.cellsOf 9 = 1 := by kernel_rfl
set_option maxRecDepth 100000 in
theorem wordsAt {W : World} {laid : List (String × DataW Unit)} (hp : (laid.all fun x => x.2.handleName?.isNone) = true) (h : laidMetH Tryz.prog laid W)
    (hm : ("loop.example/turtlewalks/impl.deedWords", Rows.laid_loop_example_turtlewalks_impl_deedWords) ∈ laid) : WordsAt W := by
  rw [MakeChecks.laidMetH_plain _ _ _ hp] at h
  obtain ⟨_, h, _⟩ := h
  obtain ⟨g, t, cs, fuel, p, h1, h2, h3, h4⟩ := laid_one h hm
  obtain rfl := Option.some.inj (gWords.symm.trans h1)
  obtain rfl := Option.some.inj (gWordsType.symm.trans h2)
  intro i hi
  rw [World.var?_cell h1 h3 i]
  have := cells_of_strs (zs := wordsList) Tryz.underlying94 Tryz.underlying9 cellsWord h4 i hi
  rw [← Array.getElem?_toList, this]
  rfl

end Go.Proofs.YtccdfndnjjjgfaaGreatDoor

namespace Go.Proofs.YtccdfndnjjjgfaaGreatDoor
open Go.ChangeShapes Go.WideShapes Go.ChangeAt Go.RowKit Go.WideMaps Go.WideElems

theorem gPow : Tryz.prog.globalNamed "internal/strconv.uint64pow10" = some 4 := by kernel_rfl
theorem gPowType : (Tryz.prog.globals[4]?).map (·.type) = some 179 := by kernel_rfl
theorem cellsPow : Tryz.prog.cellsOf 164 = 1 := by kernel_rfl
theorem cellsPows : Tryz.prog.cellsOf 179 = 20 := by kernel_rfl
theorem powLaid : (Rows.laid_internal_strconv_uint64pow10 : DataW Unit) = Lib.tabData .u64 Lib.pow10Tab := by kernel_rfl
set_option maxRecDepth 100000 in
theorem powAt {W : World} {laid : List (String × DataW Unit)} (hp : (laid.all fun x => x.2.handleName?.isNone) = true) (h : laidMetH Tryz.prog laid W)
    (hm : ("internal/strconv.uint64pow10", Rows.laid_internal_strconv_uint64pow10) ∈ laid) : PowAt W := by
  rw [MakeChecks.laidMetH_plain _ _ _ hp] at h
  obtain ⟨_, h, _⟩ := h
  obtain ⟨g, t, cs, fuel, p, h1, h2, h3, h4⟩ := laid_one h hm
  obtain rfl := Option.some.inj (gPow.symm.trans h1)
  obtain rfl := Option.some.inj (gPowType.symm.trans h2)
  rw [powLaid] at h4
  unfold PowAt Lib.TabIs
  rw [h3, ← Lib.cells_of_tab Tryz.underlying179 Tryz.underlying164 cellsPow cellsPows h4]

end Go.Proofs.YtccdfndnjjjgfaaGreatDoor

namespace Go.Proofs.YtccdfndnjjjgfaaGreatDoor
open Go.ChangeShapes Go.WideShapes Go.ChangeAt Go.RowKit Go.WideMaps Go.WideElems

set_option maxRecDepth 100000 in
theorem open_desk {H : Type} {enc : TypeId × Value → H} {W : World} {base : Nat} {spare : Nat → Bool} {held : Bool} {r : Reach} {b0 : Nat} {v : Value} {d : DataW H} {p : List MemPlace} (hv : Value.okWide Tryz.prog W r b0 24 v) (h : DataW.Trod enc Tryz.prog W base spare held 24 v d p) :
    ∃ (s : ByteArray) (vv : Value) (zs : List ByteArray), v = .agg #[.string s, vv] ∧ StrsAt W vv zs ∧ s.size ≤ 9223372036854775807 ∧ zs.length ≤ 9223372036854775807 ∧ ∀ z ∈ zs, z.size ≤ 9223372036854775807 := by
  obtain ⟨v0, v1, y0, y1, n, rfl, _, _, h0, h1⟩ := Go.Joins.open_agg2 Tryz.underlying24 (by kernel_rfl) (by kernel_rfl) hv h
  obtain ⟨s, hs, _, hs1⟩ := DataW.trod_string Tryz.underlying9 h0
  obtain rfl : v0 = .string s := by simpa using hs
  rcases open_strings Tryz.underlying22 Tryz.underlying9 (by kernel_rfl) h1 with ⟨hv1, _⟩ | ⟨a, len, cap, ss, hv1, _, hl, hm, hlen, _, hc, hss⟩
  · obtain rfl : v1 = .slice none 0 0 := by simpa using hv1
    exact ⟨s, _, [], rfl, .inl ⟨rfl, rfl⟩, by unfold maxLen at hs1; omega, by simp, by simp⟩
  · obtain rfl : v1 = .slice (some a) len cap := by simpa using hv1
    have hle : len ≤ ss.length := by rw [hlen]; split <;> omega
    have hlt : (ss.take len).length = len := by rw [List.length_take]; omega
    refine ⟨s, _, ss.take len, rfl, .inr ⟨a, cap, by rw [hlt], by rw [hlt]; exact hl, fun j z hz => ?_⟩, by unfold maxLen at hs1; omega, by rw [hlt]; unfold maxLen at hm; omega, fun z hz => ?_⟩
    · rw [List.getElem?_take] at hz
      split at hz
      · have hj := (List.getElem?_eq_some_iff.1 hz).1
        have := hc j hj
        rwa [List.getD, hz, Option.getD_some] at this
      · cases hz
    · have := hss z (List.mem_of_mem_take hz)
      unfold maxLen at this
      omega

end Go.Proofs.YtccdfndnjjjgfaaGreatDoor

namespace Go.Proofs.YtccdfndnjjjgfaaGreatDoor.fnExactDeskLine
open Go.ChangeShapes Go.WideShapes Go.ChangeAt Go.RowKit Go.WideMaps Go.WideElems
open Go.ChangeMaps (open_string shut_string)

theorem line_few8 (s : ByteArray) (zs : List ByteArray) (X : ByteArray) : (deskLine s zs X).1.2.length ≤ 8 := by
  unfold deskLine
  split
  · rename_i h
    exact (deskOk_parts (line_ok h X)).2.1
  · exact Nat.zero_le _
def lawBox (w : World) (s : ByteArray) (v : Value) : World := w.alloc (.cells #[.string s, v] 24)
theorem box_in (w : World) (s : ByteArray) (v : Value) : Ext w (lawBox w s v) ∧ (lawBox w s v).heap.size = w.heap.size + 1 ∧ (lawBox w s v).heap[w.heap.size]? = some (.cells #[.string s, v] 24 (0, 0)) := by
  unfold lawBox
  exact ⟨(Ext.refl w).alloc _, by simp, heap_alloc_new _ _⟩

set_option maxRecDepth 100000 in
set_option maxHeartbeats 3200000 in
theorem walk_few (s : ByteArray) (v : Value) (zs : List ByteArray) (X : ByteArray) (w : World) (ht : TabsAt w) (h : StrsAt w v zs) (hs : s.size ≤ 1048576) (L : Nat) (HL : Hid (zs.length = L)) (hn2 : L ≤ 1048576) (HZ : Hid (∀ z ∈ zs, z.size ≤ 1048576)) (hX : X.size ≤ 1048576)
    (r : Int) (hr : 0 ≤ r) (HSZ : Hid (∀ W, StrsAt W v zs → Calls Tryz.prog 8 #[.agg #[.string s, v], .int .i64 1048576] W fun e w' => e = .returned (.int .i64 r) ∧ Below W.heap.size W w')) :
    Calls Tryz.prog 7 #[.agg #[.string s, v], .string X] w fun e w' => e = .returned (.bool true) ∧ Below w.heap.size w w' := by
  obtain ⟨x0, hx0⟩ : ∃ x, (deskLine s zs X).1.1 = x := ⟨_, rfl⟩
  obtain ⟨y0, hy0⟩ : ∃ x, (deskLine s zs X).1.2 = x := ⟨_, rfl⟩
  obtain ⟨t0, ht0⟩ : ∃ x, (deskLine s zs X).2 = x := ⟨_, rfl⟩
  have hdo : ∀ (u : Value) (W : World), StrsAt W u zs → Calls Tryz.prog 22 #[.agg #[.string s, u], .string X] W (LineOut W x0 y0 t0) := fun u W hu => by
    have := specLine s u zs X W hu hs (by rw [HL.out]; exact hn2) HZ.out hX
    rwa [hx0, hy0, ht0] at this
  have hdi : ∀ (u : Value) (W : World), PastAt W u zs → TabsAt W → Calls Tryz.prog 21 #[.agg #[.string s, u], .string X] W (LineOut W x0 y0 t0) := fun u W hu hww => by
    have := implLine s u zs X W hu hs (by rw [HL.out]; exact hn2) HZ.out hX hww
    rwa [hx0, hy0, ht0] at this
  obtain ⟨e0, hW0s, r0⟩ := box_in w s v
  obtain ⟨W0, hW0⟩ : ∃ W0, lawBox w s v = W0 := ⟨_, rfl⟩
  rw [hW0] at e0 hW0s r0
  unfold lawBox at hW0
  have HW0 := Lib.hid hW0
  have HDO := Lib.hid hdo
  have HDI := Lib.hid hdi
  have hst0 := e0.strs h
  have HST0 := Lib.hid hst0
  have R0 := Lib.hid r0
  have c00 := cell_of_row _ _ 0 _ _ _ r0
  have c01 := cell_of_row _ _ 1 _ _ _ r0
  have HT := Lib.hid (ht.below' e0)
  have hy8 : y0.length ≤ 8 := hy0 ▸ line_few8 s zs X
  obtain ⟨M, hM⟩ : ∃ M, y0.length = M := ⟨_, rfl⟩
  rw [hM] at hy8
  have HM := Lib.hid hM
  clear hM hx0 hy0 ht0 hdo hdi hW0 r0 hst0 h ht
  go_enter Tryz.func7, Tryz.ntmps7
  go_wp2_with fail
  rw [HW0.out]
  go_upto_region 5 with (first
    | (go_at_call 8; refine (HSZ.out _ HST0.out).mono ?_; rintro e w1 ⟨rfl, hb1⟩; have e1 : Ext W0 w1 := hb1; have r0 := e1.row R0.out; have hs1 := e1.size; have c10 := cell_of_row _ _ 0 _ _ _ r0; have c11 := cell_of_row _ _ 1 _ _ _ r0; have R01 := Lib.hid r0; clear r0 hb1))
  have HS : Hid (∀ X, Ext w1 X → X.cell? ⟨w.heap.size, 0, none⟩ = some (.string s) ∧ X.cell? ⟨w.heap.size, 1, none⟩ = some v) := fun X hX =>
    ⟨cell_of_row _ _ 0 _ _ _ (hX.row R01.out), cell_of_row _ _ 1 _ _ _ (hX.row R01.out)⟩
  have HST : Hid (∀ X, Ext w1 X → StrsAt X v zs) := fun X hX => (e1.trans hX).strs HST0.out
  have HTX : Hid (∀ X, Ext w1 X → TabsAt X) := fun X hX => HT.out.below' (e1.trans hX)
  go_upto_region 8 with (first
    | (go_at_call 22; refine (HDO.out _ _ PA.out.strs).mono ?_; rintro e wa0 ⟨v0, rfl, hp0, hf0, hb0⟩; obtain ⟨a0, q0, hv0⟩ := past_slice hp0 HM.out; subst hv0; have ea0 : Ext w1 wa0 := Ext.call eA hb0)
    | (go_at_call 11; refine (toDesk_past s v zs _ (HST.out _ (Ext.refl _)) L HL.out hn2).mono ?_; rintro e wA ⟨gA, rfl, hpA, hgA, hbA⟩; have eA : Ext w1 wA := hbA; have PA := Lib.hid hpA; clear hpA hbA))
  have hbo := box_new (x := x0) hp0 (fresh_ext eA hf0) ea0.size
  obtain ⟨wa, hwa⟩ : ∃ wa, wa0.alloc (.cells #[.string x0, .slice a0 M q0] 27) = wa := ⟨_, rfl⟩
  have ea : Ext w1 wa := hwa ▸ ea0.alloc _
  rw [hwa] at hbo ⊢
  obtain ⟨N, hN⟩ : ∃ N, wa0.heap.size = N := ⟨_, rfl⟩
  rw [hN] at hbo ⊢
  have HB0 := Lib.hid hbo
  have sa := ea.size
  obtain ⟨ca0, ca1⟩ := HS.out wa ea
  clear hbo hN hwa hp0 hf0 hb0 PA hgA eA ea0
  go_upto_region 9 with (first
    | (go_at_call 11; refine (toDesk_past s v zs _ (HST.out _ ea) L HL.out hn2).mono ?_; rintro e w2 ⟨g2, rfl, hp2, hg2, hb2⟩; have e2 : Ext wa w2 := hb2; have P2 := Lib.hid hp2; have s2 := e2.size; clear hp2 hb2))
  have hbx := box_new (x := s) P2.out (Fresh.slice hg2) s2
  obtain ⟨w3, hw3⟩ : ∃ w3, w2.alloc (.cells #[.string s, .slice (some ⟨g2, 0, none⟩) L L] 27) = w3 := ⟨_, rfl⟩
  have e3 : Ext wa w3 := hw3 ▸ e2.alloc _
  rw [hw3] at hbx ⊢
  obtain ⟨M2, hM2⟩ : ∃ M2, w2.heap.size = M2 := ⟨_, rfl⟩
  rw [hM2] at hbx ⊢
  have BX := Lib.hid hbx
  have s3 := e3.size
  obtain ⟨bx0, bx1⟩ := hbx.cells
  have HP7 : Hid (∀ X, Ext w3 X → PastAt X (.slice (some ⟨g2, 0, none⟩) L L) zs) := fun X hX => hX.past BX.out.past
  clear hw3 hbx
  go_upto_region 10 with (first
    | (go_at_call 21; refine (HDI.out _ _ BX.out.past (HTX.out _ (ea.trans e3))).mono ?_; rintro e wb0 ⟨v3, rfl, hp3, hf3, hb3⟩; obtain ⟨a3, q3, hv3⟩ := past_slice hp3 HM.out; subst hv3; have eb0 : Ext w3 wb0 := hb3))
  have hbo := box_new (x := x0) hp3 hf3 eb0.size
  obtain ⟨wb, hwb⟩ : ∃ wb, wb0.alloc (.cells #[.string x0, .slice a3 M q3] 27) = wb := ⟨_, rfl⟩
  have eb : Ext w3 wb := hwb ▸ eb0.alloc _
  rw [hwb] at hbo ⊢
  obtain ⟨N3, hN3⟩ : ∃ N3, wb0.heap.size = N3 := ⟨_, rfl⟩
  rw [hN3] at hbo ⊢
  have HB3 := Lib.hid hbo
  clear hbo hN3 hwb hp3 hf3 hb3 eb0
  have eab := e3.trans eb
  have Z0 := Lib.hid (HB0.out.ext eab)
  obtain ⟨zb0, zb1⟩ := Z0.out.cells
  obtain ⟨gb0, gb1⟩ := HB3.out.cells
  have sb := eb.size
  go_upto_region 12 with (first
    | (go_at_call 14; refine (eqDesk_same x0 _ _ y0 _ HB3.out.past.strs Z0.out.past.strs (by rw [HM.out]; omega)).mono ?_; rintro e w5 ⟨rfl, hb5⟩; have e5 : Ext wb w5 := hb5; clear hb5))
  have HS10 : Hid (∀ X, Ext w5 X → X.cell? ⟨M2, 0, none⟩ = some (.string s) ∧ X.cell? ⟨M2, 1, none⟩ = some (.slice (some ⟨g2, 0, none⟩) L L) ∧ X.cell? ⟨w.heap.size, 0, none⟩ = some (.string s) ∧ X.cell? ⟨w.heap.size, 1, none⟩ = some v) := fun X hX =>
    ⟨(BX.out.ext ((eb.trans e5).trans hX)).cells.1, (BX.out.ext ((eb.trans e5).trans hX)).cells.2, (HS.out X (((ea.trans eab).trans e5).trans hX)).1, (HS.out X (((ea.trans eab).trans e5).trans hX)).2⟩
  have HT10 : Hid (∀ X, Ext w5 X → StrsAt X v zs) := fun X hX => HST.out X (((ea.trans eab).trans e5).trans hX)
  have HP10 : Hid (∀ X, Ext w5 X → PastAt X (.slice (some ⟨g2, 0, none⟩) L L) zs) := fun X hX => HP7.out X ((eb.trans e5).trans hX)
  go_cut [52] (fun q wx => q = .bool false ∧ Ext w5 wx)
  case first =>
    go_region_held3 (fun w' => w'.cell? ⟨M2, 0, none⟩ = some (.string s) ∧ w'.cell? ⟨M2, 1, none⟩ = some (.slice (some ⟨g2, 0, none⟩) L L) ∧ w'.cell? ⟨w.heap.size, 0, none⟩ = some (.string s) ∧ w'.cell? ⟨w.heap.size, 1, none⟩ = some v)
      (exact HS10.out _ (by (first | assumption | exact Ext.refl _ | exact (Ext.refl _).drew | (refine Ext.alloc ?_ _; first | assumption | exact Ext.refl _ | exact (Ext.refl _).drew) | (refine Ext.drew ?_; first | assumption | exact Ext.refl _ | exact (Ext.refl _).drew) | (refine Ext.drew ?_; refine Ext.alloc ?_ _; first | assumption | exact Ext.refl _ | exact (Ext.refl _).drew) | (refine Ext.setCell (Ext.setCell ?_ ?_ _) ?_ _ <;> first | assumption | omega | (simp <;> omega)))))
      (first
        | (go_at_call 11; refine (toDesk_past s v zs _ (HT10.out _ (by (first | assumption | exact Ext.refl _ | exact (Ext.refl _).drew | (refine Ext.alloc ?_ _; first | assumption | exact Ext.refl _ | exact (Ext.refl _).drew) | (refine Ext.drew ?_; first | assumption | exact Ext.refl _ | exact (Ext.refl _).drew) | (refine Ext.drew ?_; refine Ext.alloc ?_ _; first | assumption | exact Ext.refl _ | exact (Ext.refl _).drew) | (refine Ext.setCell (Ext.setCell ?_ ?_ _) ?_ _ <;> first | assumption | omega | (simp <;> omega))))) L HL.out hn2).mono ?_; rintro e wA ⟨gA, rfl, hpA, hgA, hbA⟩; have eA : Ext w5 wA := Ext.call (by (first | assumption | exact Ext.refl _ | exact (Ext.refl _).drew | (refine Ext.alloc ?_ _; first | assumption | exact Ext.refl _ | exact (Ext.refl _).drew) | (refine Ext.drew ?_; first | assumption | exact Ext.refl _ | exact (Ext.refl _).drew) | (refine Ext.drew ?_; refine Ext.alloc ?_ _; first | assumption | exact Ext.refl _ | exact (Ext.refl _).drew) | (refine Ext.setCell (Ext.setCell ?_ ?_ _) ?_ _ <;> first | assumption | omega | (simp <;> omega)))) hbA; have PA := Lib.hid hpA; clear hpA hbA)
        | (go_at_call 14; refine (eqDesk_same s _ _ zs _ (HP10.out _ (by (first | assumption | exact Ext.refl _ | exact (Ext.refl _).drew | (refine Ext.alloc ?_ _; first | assumption | exact Ext.refl _ | exact (Ext.refl _).drew) | (refine Ext.drew ?_; first | assumption | exact Ext.refl _ | exact (Ext.refl _).drew) | (refine Ext.drew ?_; refine Ext.alloc ?_ _; first | assumption | exact Ext.refl _ | exact (Ext.refl _).drew) | (refine Ext.setCell (Ext.setCell ?_ ?_ _) ?_ _ <;> first | assumption | omega | (simp <;> omega))))).strs PA.out.strs (by rw [HL.out]; omega)).mono ?_; rintro e wB ⟨rfl, hbB⟩; have eB : Ext w5 wB := Ext.call (by (first | assumption | exact Ext.refl _ | exact (Ext.refl _).drew | (refine Ext.alloc ?_ _; first | assumption | exact Ext.refl _ | exact (Ext.refl _).drew) | (refine Ext.drew ?_; first | assumption | exact Ext.refl _ | exact (Ext.refl _).drew) | (refine Ext.drew ?_; refine Ext.alloc ?_ _; first | assumption | exact Ext.refl _ | exact (Ext.refl _).drew) | (refine Ext.setCell (Ext.setCell ?_ ?_ _) ?_ _ <;> first | assumption | omega | (simp <;> omega)))) hbB; clear hbB))
    all_goals
      go_wp2_with fail
      go_meet
      exact ⟨rfl, by (first | assumption | exact Ext.refl _ | exact (Ext.refl _).drew | (refine Ext.alloc ?_ _; first | assumption | exact Ext.refl _ | exact (Ext.refl _).drew) | (refine Ext.drew ?_; first | assumption | exact Ext.refl _ | exact (Ext.refl _).drew) | (refine Ext.drew ?_; refine Ext.alloc ?_ _; first | assumption | exact Ext.refl _ | exact (Ext.refl _).drew) | (refine Ext.setCell (Ext.setCell ?_ ?_ _) ?_ _ <;> first | assumption | omega | (simp <;> omega)))⟩
  case rest =>
    obtain ⟨wd, rfl⟩ : ∃ wd : World, wd = wc := ⟨_, rfl⟩
    obtain ⟨rfl, ed⟩ := hcut
    have ebd := e5.trans ed
    have X0 := Lib.hid (BX.out.ext (eb.trans ebd))
    obtain ⟨xd0, xd1⟩ := X0.out.cells
    have ed1 := (ea.trans eab).trans ebd
    have sd := ebd.size
    have sd1 := ed1.size
    go_upto_region 26 with (first
      | (go_at_call 16; first
          | (have hq := e7; refine (markDesk_one x0 _ y0 _ G7.out.past M HM.out (by omega)).mono ?_; rintro e w8 ⟨rfl, hp8, hb8⟩; have e8 : Ext w1 w8 := e7.but hb8 G7.out.fresh (by omega); have Z8 := Lib.hid (Z7.out.below (hb8.below G7.out.fresh (by omega)) (by omega)); have G8 := Lib.hid (G7.out.own hb8 hp8); obtain ⟨g80, g81⟩ := G8.out.cells; clear hp8 hb8)
          | (refine (markDesk_one s _ zs _ X0.out.past L HL.out (by omega)).mono ?_; rintro e w6 ⟨rfl, hp6, hb6⟩; have e6 : Ext w1 w6 := ed1.but hb6 X0.out.fresh (by omega); have s6 := hb6.size; have Z6 := Lib.hid ((Z0.out.ext ebd).below (hb6.below X0.out.fresh (by omega)) (by omega)); have G6 := Lib.hid ((HB3.out.ext ebd).but hb6 (fun b hb => X0.out.vlt b hb)); obtain ⟨z60, z61⟩ := Z6.out.cells; obtain ⟨g60, g61⟩ := G6.out.cells; clear hp6 hb6))
      | (go_at_call 14; refine (eqDesk_same x0 _ _ y0 _ G6.out.past.strs Z6.out.past.strs (by rw [HM.out]; omega)).mono ?_; rintro e w7 ⟨rfl, hb7⟩; have e7 : Ext w1 w7 := Ext.call e6 hb7; have s7 := hb7.size; have Z7 := Lib.hid (Z6.out.ext hb7); have G7 := Lib.hid (G6.out.ext hb7); obtain ⟨g70, g71⟩ := G7.out.cells; clear hb7)
      | (go_at_call 18; refine (heldDesk_one x0 _ M _ G8.out.past (by omega)).mono ?_; rintro e w9 ⟨rfl, hb9⟩; have e9 : Ext w1 w9 := Ext.call e8 hb9; have Z9 := Lib.hid (Z8.out.ext hb9); have G9 := Lib.hid (G8.out.ext hb9); obtain ⟨ce0, ce1⟩ := HS.out w9 e9; clear hb9))
    go_upto_region 27 with (first
      | (go_at_call 21; refine (HDI.out _ _ PE.out (HTX.out _ (e9.trans eE))).mono ?_; rintro e we0 ⟨v4, rfl, hp4, hf4, hb4⟩; obtain ⟨a4, q4, hv4⟩ := past_slice hp4 HM.out; subst hv4; have ee0 : Ext w9 we0 := Ext.call eE hb4)
      | (go_at_call 11; refine (toDesk_past s v zs _ (HST.out _ e9) L HL.out hn2).mono ?_; rintro e wE ⟨gE, rfl, hpE, hgE, hbE⟩; have eE : Ext w9 wE := hbE; have PE := Lib.hid hpE; clear hpE hbE))
    have hbo := box_new (x := x0) hp4 (fresh_ext eE hf4) ee0.size
    obtain ⟨we, hwe⟩ : ∃ we, we0.alloc (.cells #[.string x0, .slice a4 M q4] 27) = we := ⟨_, rfl⟩
    have ee : Ext w9 we := hwe ▸ ee0.alloc _
    rw [hwe] at hbo ⊢
    obtain ⟨N4, hN4⟩ : ∃ N4, we0.heap.size = N4 := ⟨_, rfl⟩
    rw [hN4] at hbo ⊢
    have HB4 := Lib.hid hbo
    clear hbo hN4 hwe hp4 hf4 hb4 ee0 eE
    have Ze := Lib.hid (Z9.out.ext ee)
    have Ge := Lib.hid (G9.out.ext ee)
    obtain ⟨ze0, ze1⟩ := Ze.out.cells
    obtain ⟨he0, he1⟩ := HB4.out.cells
    go_wp2_with (first
      | (go_at_call 14; refine (eqDesk_same x0 _ _ y0 _ HB4.out.past.strs Ze.out.past.strs (by rw [HM.out]; omega)).mono ?_; rintro e wf ⟨rfl, hbf⟩; have ef : Ext w1 wf := Ext.call (e9.trans ee) hbf; have Gf := Lib.hid (Ge.out.ext hbf); obtain ⟨gf0, gf1⟩ := Gf.out.cells; clear hbf)
      | (go_at_call 18; refine (heldDesk_one x0 _ M _ Gf.out.past (by omega)).mono ?_; rintro e wg ⟨rfl, hbg⟩; have eg : Ext w1 wg := Ext.call ef hbg; clear hbg))
    go_ret
    exact ⟨rfl, e0.trans (e1.trans eg)⟩

set_option maxRecDepth 100000 in
set_option maxHeartbeats 800000 in
theorem walk (s : ByteArray) (v : Value) (zs : List ByteArray) (X : ByteArray) (w : World) (hw : WaysAt w) (hd : DirsAt w) (hwd : WordsAt w) (hmx : MaxAt w) (hpw : PowAt w) (h : StrsAt w v zs) (hs : s.size ≤ 9223372036854775807) (hn : zs.length ≤ 9223372036854775807) (hz : ∀ z ∈ zs, z.size ≤ 9223372036854775807) :
    Calls Tryz.prog 7 #[.agg #[.string s, v], .string X] w fun e w' => e = .returned (.bool true) ∧ Below w.heap.size w w' := by
  have HSZ : Hid (∀ W, StrsAt W v zs → Calls Tryz.prog 8 #[.agg #[.string s, v], .int .i64 1048576] W fun e w' => e = .returned (.int .i64 (szDeskLeft 1048576 s zs)) ∧ Below W.heap.size W w') := fun W hW => szDesk_any s v zs 1048576 W hW (by omega) (by omega) hs hn hz
  obtain ⟨r, hr⟩ : ∃ r, szDeskLeft 1048576 s zs = r := ⟨_, rfl⟩
  rw [hr] at HSZ
  obtain ⟨e0, _, r0⟩ := box_in w s v
  by_cases hX : X.size ≤ 1048576
  · by_cases h0 : 0 ≤ r
    · have hfew := szDesk_few (hr ▸ h0)
      have hbn := bulk_nonneg zs
      refine walk_few s v zs X w ⟨hw, hd, hwd, hmx, hpw⟩ h (by omega) zs.length (Lib.hid rfl) (by omega) (Lib.hid (fun z hz' => ?_)) hX r h0 HSZ
      have := bulk_mem hz'
      omega
    · have hr0 : r < 0 := by omega
      obtain ⟨W0, hW0⟩ : ∃ W0, lawBox w s v = W0 := ⟨_, rfl⟩
      rw [hW0] at e0 r0
      unfold lawBox at hW0
      have HW0 := Lib.hid hW0
      have HST0 := Lib.hid (e0.strs h)
      have c00 := cell_of_row _ _ 0 _ _ _ r0
      have c01 := cell_of_row _ _ 1 _ _ _ r0
      clear hW0 r0 h hr
      go_enter Tryz.func7, Tryz.ntmps7
      go_wp2_with fail
      rw [HW0.out]
      go_wp2_with (first
        | (go_at_call 8; refine (HSZ.out _ HST0.out).mono ?_; rintro e w1 ⟨rfl, hb1⟩))
      go_ret
      exact ⟨rfl, e0.call hb1⟩
  · have hX2 : (1048576 : Int) < (X.size : Int) := by omega
    obtain ⟨a, c, rfl⟩ := strs_value h
    clear h hr HSZ
    go_enter Tryz.func7, Tryz.ntmps7
    go_wp2
    go_ret
    exact ⟨rfl, (Below.refl _ _).alloc (Nat.le_refl _) _⟩

set_option maxRecDepth 100000 in
theorem own : ownKnob Tryz.prog.godebug = none := by kernel_rfl
set_option maxRecDepth 100000 in
theorem laidOut : laidOutB Tryz.prog = true := by kernel_rfl
set_option maxRecDepth 100000 in
theorem rowed : rowsOk Tryz.prog Tryz.f7.params.toList = true := by kernel_rfl
set_option maxRecDepth 100000 in
theorem varred : varsOk Tryz.prog Rows.fnExactDeskLineSpec.vars = true := by kernel_rfl
set_option maxRecDepth 100000 in
theorem resType : Tryz.f7.resultTypes = #[4] := by kernel_rfl

set_option maxRecDepth 100000 in
theorem contract (H : Type) (enc : TypeId × Value → H) (W : World) (base : Nat) (args : Array Value) (ds gs : List (DataW H)) (before : List MemPlace)
    (hval : ∀ (j : Nat) t v, Tryz.f7.params[j]? = some t → args[j]? = some v → Value.okWide Tryz.prog W .any base t v)
    (hW : DataW.Whole enc Tryz.prog Tryz.f7.params.toList Rows.fnExactDeskLineSpec.vars false W args.toList ds gs before) (hL : laidMetH Tryz.prog Rows.fnExactDeskLineRow.laid W) (hSh : W.ShapedOpen Tryz.prog) :
    Calls Tryz.prog 7 args W fun e W' => ∃ v, e = .returned v ∧ Rows.fnExactDeskLineSpec.post enc Tryz.prog Tryz.f7 false true false false W args v W' := by
  have hW' := hW
  obtain ⟨p, q, hA0, hV, rfl, hfz, hnd⟩ := hW
  have hA : DataW.TrodAll enc Tryz.prog W 0 (fun _ => true) true Tryz.f7.params.toList args.toList ds p := hA0
  rw [Tryz.params7] at hA hval
  obtain ⟨v0, vs0, d0, ds0, p0, q0, hargs, rfl, rfl, h0, r0⟩ := trodAll_cons hA
  obtain ⟨v1, vs1, d1, ds1, p1, q1, rfl, rfl, rfl, h1, r1⟩ := trodAll_cons r0
  obtain ⟨rfl, rfl, rfl⟩ := trodAll_nil r1
  obtain rfl : args = #[v0, v1] := by cases args; simp_all
  obtain ⟨g0, g1, g2, rfl⟩ := trodVars_len3 hV
  obtain ⟨s0, vv0, zs0, rfl, hst0, hss0, hnn0, hzz0⟩ := open_desk (hval 0 24 v0 rfl rfl) h0
  obtain ⟨s1, rfl, rfl, rfl, z1⟩ := open_string Tryz.underlying9 (hval 1 9 v1 rfl rfl) h1
  have t_ways : WaysAt W := waysAt (by kernel_rfl) hL (by simp [Rows.fnExactDeskLineRow])
  have t_dirs : DirsAt W := dirsAt (by kernel_rfl) hL (by simp [Rows.fnExactDeskLineRow])
  have t_words : WordsAt W := wordsAt (by kernel_rfl) hL (by simp [Rows.fnExactDeskLineRow])
  have t_max : MaxAt W := maxAt hSh
  have t_pow : PowAt W := powAt (by kernel_rfl) hL (by simp [Rows.fnExactDeskLineRow])
  refine (walk s0 vv0 zs0 s1 W t_ways t_dirs t_words t_max t_pow hst0 hss0 hnn0 hzz0).mono fun e W' ⟨he, hb⟩ => ?_
  subst he
  exact ⟨_, rfl, law_post laidOut rowed varred resType Tryz.underlying4 hW' ⟨rfl, rfl, rfl⟩ hb⟩

/-- A world for the witness: the settled one, the listed variables holding what their initialisers lay. -/
noncomputable def laidWorld (os : Os) : World := { World.holding Tryz.prog os ⟨#[], #[], []⟩ with heap := (((((((((World.holding Tryz.prog os ⟨#[], #[], []⟩).heap.modify 5 fun
      | .cells _ t frozen => .cells #[.int .u8 0, .int .u8 1, .int .u8 28, .int .u8 2, .int .u8 29, .int .u8 14, .int .u8 24, .int .u8 3, .int .u8 30, .int .u8 22, .int .u8 20, .int .u8 15, .int .u8 25, .int .u8 17, .int .u8 4, .int .u8 8, .int .u8 31, .int .u8 27, .int .u8 13, .int .u8 23, .int .u8 21, .int .u8 19, .int .u8 16, .int .u8 7, .int .u8 26, .int .u8 12, .int .u8 18, .int .u8 6, .int .u8 11, .int .u8 5, .int .u8 10, .int .u8 9] t frozen
      | o => o).modify 6 fun
      | .cells _ t frozen => .cells #[.int .u8 0, .int .u8 1, .int .u8 56, .int .u8 2, .int .u8 57, .int .u8 49, .int .u8 28, .int .u8 3, .int .u8 61, .int .u8 58, .int .u8 42, .int .u8 50, .int .u8 38, .int .u8 29, .int .u8 17, .int .u8 4, .int .u8 62, .int .u8 47, .int .u8 59, .int .u8 36, .int .u8 45, .int .u8 43, .int .u8 51, .int .u8 22, .int .u8 53, .int .u8 39, .int .u8 33, .int .u8 30, .int .u8 24, .int .u8 18, .int .u8 12, .int .u8 5, .int .u8 63, .int .u8 55, .int .u8 48, .int .u8 27, .int .u8 60, .int .u8 41, .int .u8 37, .int .u8 16, .int .u8 46, .int .u8 35, .int .u8 44, .int .u8 21, .int .u8 52, .int .u8 32, .int .u8 23, .int .u8 11, .int .u8 54, .int .u8 26, .int .u8 40, .int .u8 15, .int .u8 34, .int .u8 20, .int .u8 31, .int .u8 10, .int .u8 25, .int .u8 14, .int .u8 19, .int .u8 9, .int .u8 13, .int .u8 8, .int .u8 7, .int .u8 6] t frozen
      | o => o).modify 4 fun
      | .cells _ t frozen => .cells #[.int .u64 1, .int .u64 10, .int .u64 100, .int .u64 1000, .int .u64 10000, .int .u64 100000, .int .u64 1000000, .int .u64 10000000, .int .u64 100000000, .int .u64 1000000000, .int .u64 10000000000, .int .u64 100000000000, .int .u64 1000000000000, .int .u64 10000000000000, .int .u64 100000000000000, .int .u64 1000000000000000, .int .u64 10000000000000000, .int .u64 100000000000000000, .int .u64 1000000000000000000, .int .u64 10000000000000000000] t frozen
      | o => o).modify 8 fun
      | .cells _ t frozen => .cells #[.int .u8 128, .int .u8 191, .int .u8 160, .int .u8 191, .int .u8 128, .int .u8 159, .int .u8 144, .int .u8 191, .int .u8 128, .int .u8 143, .int .u8 0, .int .u8 0, .int .u8 0, .int .u8 0, .int .u8 0, .int .u8 0, .int .u8 0, .int .u8 0, .int .u8 0, .int .u8 0, .int .u8 0, .int .u8 0, .int .u8 0, .int .u8 0, .int .u8 0, .int .u8 0, .int .u8 0, .int .u8 0, .int .u8 0, .int .u8 0, .int .u8 0, .int .u8 0] t frozen
      | o => o).modify 1 fun
      | .cells _ t frozen => .cells #[.string ⟨#[101, 110, 119, 115]⟩, .string ⟨#[110, 119, 115, 101]⟩, .string ⟨#[119, 115, 101, 110]⟩, .string ⟨#[115, 101, 110, 119]⟩, .string ⟨#[101, 115, 119, 110]⟩, .string ⟨#[110, 101, 115, 119]⟩, .string ⟨#[119, 110, 101, 115]⟩, .string ⟨#[115, 119, 110, 101]⟩] t frozen
      | o => o).modify 0 fun
      | .cells _ t frozen => .cells #[.string ⟨#[115, 116, 101, 112]⟩, .string ⟨#[100, 114, 111, 112]⟩, .string ⟨#[119, 97, 121]⟩, .string ⟨#[111, 110]⟩, .string ⟨#[102, 105, 114, 115, 116]⟩, .string ⟨#[98, 97, 99, 107]⟩] t frozen
      | o => o).modify 3 fun
      | .cells _ t frozen => .cells #[.int .i64 1, .int .i64 0, .int .i64 0, .int .i64 1, .int .i64 (-1), .int .i64 0, .int .i64 0, .int .i64 (-1)] t frozen
      | o => o).modify 7 fun
      | .cells _ t frozen => .cells (Go.Pinned.utf8FirstZ.map fun (n : Nat) => Value.int .u8 n).toArray t frozen
      | o => o) }
set_option maxRecDepth 100000 in
theorem laid_met (os : Os) : laidMet Tryz.prog Rows.fnExactDeskLineRow.laid ((laidWorld os).forCall (fun _ _ => 0) ⟨#[], #[.agg #[.string ByteArray.empty, .slice none 0 0], .string ByteArray.empty], []⟩).memory := laidMet_of_run' 8 (by kernel_rfl) (by kernel_rfl)
set_option maxRecDepth 100000 in
theorem reads (os : Os) {H : Type} (enc : TypeId × Value → H) : ∃ places, DataW.whole enc Tryz.prog ((laidWorld os).forCall (fun _ _ => 0) ⟨#[], #[.agg #[.string ByteArray.empty, .slice none 0 0], .string ByteArray.empty], []⟩).memory Tryz.f7.params.toList Rows.fnExactDeskLineSpec.vars false (#[.agg #[.string ByteArray.empty, .slice none 0 0], .string ByteArray.empty] : Array Value).toList 8 = some ([.agg [.lit (.string []), .nil], .lit (.string [])], [Rows.laid_loop_example_turtlewalks_impl_deedWords, Rows.laid_loop_example_turtlewalks_impl_wayLetters, Rows.laid_loop_example_turtlewalks_impl_directions], places) := ⟨MemPlace.row ⟨0, 0, none⟩ 6 ++ MemPlace.row ⟨1, 0, none⟩ 8 ++ MemPlace.row ⟨3, 0, none⟩ 8, by kernel_rfl⟩

set_option maxRecDepth 100000 in
theorem lifted (os : Os) (started : os.Started) (H : Type) (enc : TypeId × Value → H) (F : Stop.Interp) :
    ReturnsInHanded {} Tryz.checked os 7 .any ((OpenSpec.ofChange Rows.fnExactDeskLineSpec).preRow enc Tryz.prog Tryz.f7 Rows.fnExactDeskLineRow.domain false Rows.fnExactDeskLineRow.laid) (((OpenSpec.ofChange Rows.fnExactDeskLineSpec).at F).post enc Tryz.prog Tryz.f7 false true false false) := by
  obtain ⟨places, hx⟩ := reads os enc
  refine returnsInHanded_of_row (C := Tryz.checked) (s := OpenSpec.ofChange Rows.fnExactDeskLineSpec) own started (by kernel_rfl) Tryz.func7
    (witness_row_at (enc := enc) (C := Tryz.checked) false (laidWorld os) #[.agg #[.string ByteArray.empty, .slice none 0 0], .string ByteArray.empty] rfl (by kernel_rfl) (by kernel_rfl) (by kernel_rfl)
      (OpenSpec.preRow_of_cond 8 hx (by kernel_rfl) (fun k hk => by cases hk) (by kernel_rfl) (laid_met os))) ?_
  intro W base args ds gs before hval hW _ _ _ hL hSh _
  exact contract H enc W base args ds gs before hval hW hL hSh

set_option maxRecDepth 100000 in
theorem said : Rows.FnExactDeskLineSaid :=
  OpenClaim.holds_of_cond 7 Tryz.f7 rfl rfl rfl rfl rfl rfl rfl ⟨rfl, rfl, rfl, rfl, rfl⟩ rfl rfl rfl rfl rfl (by kernel_rfl) Tryz.func7 (by kernel_rfl)
    (of_decide_eq_true (by kernel_rfl)) (by unfold Func.isWrapper; first | (rw [if_pos (by decide +kernel)]; kernel_rfl) | (rw [if_neg (by decide +kernel)]; exact ⟨rfl, rfl⟩))
    (fun os started H enc _ F => by rw [OpenClaim.pre_eq_preRow]; exact lifted os started H enc F)

set_option maxRecDepth 100000 in
theorem plain (f : FuncId) (fn : Func) (hf : Tryz.pinned.checked.prog.funcNamed "loop.example/turtlewalks/laws.FnExactDeskLine" = some f) (hfn : Tryz.pinned.checked.prog.funcs[f]? = some fn) :
    false = Tryz.pinned.checked.prog.looks [] ∧ ∀ (j : Nat) t, fn.params[j]? = some t → Tryz.pinned.checked.prog.wantsStandIn t = false := by
  obtain rfl : f = 7 := Option.some.inj ((show Tryz.prog.funcNamed "loop.example/turtlewalks/laws.FnExactDeskLine" = some 7 by kernel_rfl).symm.trans hf) |>.symm
  obtain rfl : fn = Tryz.f7 := (Option.some.inj (Tryz.func7.symm.trans hfn)).symm
  refine ⟨by kernel_rfl, fun j t ht => ?_⟩
  rw [Tryz.params7] at ht
  have hm : t ∈ [24, 9] := by simpa using Array.mem_of_getElem? ht
  have hall : ([24, 9].all fun u => !Tryz.prog.wantsStandIn u) = true := by kernel_rfl
  exact (show Tryz.prog.wantsStandIn t = false by simpa using List.all_eq_true.1 hall t hm)

set_option maxRecDepth 100000 in
theorem card : Rows.FnExactDeskLineCardSaid :=
  Claim7.holds_tied_plain_at .later [] _ _ _ _ said (fun _ h => by cases h) (by kernel_rfl) (fun _ h => by cases h) fnExactDeskLine_row_tie rfl ⟨rfl, rfl⟩ (by kernel_rfl) rfl plain (by kernel_rfl)

end Go.Proofs.YtccdfndnjjjgfaaGreatDoor.fnExactDeskLine
