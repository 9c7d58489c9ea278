/-
  From a call's contract to a law's statement, for whatever law of this seat: the arguments and the listed variables read behind the call as before, because nothing that was there has turned.
-/
import Derived.Test.YtjcagkpolfacpaaDoorPure
import Derived.Test.YtjcagkpolfacpaaDoorTabs
import Derived.Test.YtjcagkpolfacpaaDoorRows
import Derived.WalkKit
import Derived.ProofKit
import Derived.OpenShut
import Derived.Carry
import Derived.WalkSmall
import Derived.MakeChecks
import Derived.Deep.DeepHandedRow
import Derived.Lib.LaidTab
namespace Go.Proofs.YtjcagkpolfacpaaDoor
open Go.ChangeShapes Go.WideShapes Go.ChangeAt Go.RowKit Go.WideMaps Go.WideElems
open Go.ChangeMaps (open_string shut_string)

section
variable {H : Type} {enc : TypeId × Value → H} {P : Program}

theorem trodAll_stays (hl : laidOutB P = true) {W W' : World} {sp' : Nat → Bool} : ∀ {ts : List TypeId} {vs : List Value} {ds : List (DataW H)} {ps : List MemPlace},
    (∀ t ∈ ts, P.readableRec t = true ∧ t < P.types.size) → DataW.TrodAll enc P W 0 (fun _ => true) true ts vs ds ps → (∀ p ∈ ps, W.sameAt W' p) → (∀ p ∈ ps, sp' p.block = true) → DataW.TrodAll enc P W' 0 sp' true ts vs ds ps
  | [], _, _, _, _, h, _, _ => by
    obtain ⟨rfl, rfl, rfl⟩ := trodAll_nil h
    exact trodAll_mk0
  | t :: ts, _, _, _, hr, h, hsame, hs => by
    obtain ⟨v, vs', d, ds', p, q, rfl, rfl, rfl, h1, h2⟩ := trodAll_cons h
    exact trodAll_cons_mk (WideElems.Trod_stays hl (hr t (by simp)).1 (hr t (by simp)).2 h1 (fun x hx => hsame x (by simp [hx])) (fun x hx => hs x (by simp [hx])))
      (trodAll_stays hl (fun u hu => hr u (by simp [hu])) h2 (fun x hx => hsame x (by simp [hx])) (fun x hx => hs x (by simp [hx])))

theorem trodVars_stays (hl : laidOutB P = true) {W W' : World} {sp' : Nat → Bool} (hb : Below W.heap.size W W') : ∀ {ns : List String} {ds : List (DataW H)} {ps : List MemPlace},
    (∀ n ∈ ns, ∀ g t, P.globalNamed n = some g → (P.globals[g]?).map (·.type) = some t → P.readableRec t = true ∧ t < P.types.size) → DataW.TrodVars enc P W (fun _ => true) ns ds ps → (∀ p ∈ ps, W.sameAt W' p) → (∀ p ∈ ps, sp' p.block = true) →
    DataW.TrodVars enc P W' sp' ns ds ps
  | [], ds, _, _, h, _, _ => by
    cases ds with
    | nil => exact h
    | cons _ _ => exact h.elim
  | n :: ns, [], _, _, h, _, _ => h.elim
  | n :: ns, d :: ds, _, hr, h, hsame, hs => by
    obtain ⟨g, t, cs, fuel, p, q, h1, h2, h3, h4, h5, rfl⟩ := h
    have hg : g < W.heap.size := by
      have h3' := h3
      unfold World.var? at h3'
      rw [h1, Option.bind_some] at h3'
      rcases Nat.lt_or_ge g W.heap.size with hlt | hge
      · exact hlt
      · rw [Array.getElem?_eq_none hge] at h3'
        cases h3'
    obtain ⟨hr1, hr2⟩ := hr n (by simp) g t h1 h2
    have h4' := DataW.trod_stays (sp' := sp') (kids_book hl hr1) (book_sized hr1) (fun h => by cases h) ⟨hr2, book_self t⟩ h4 (fun x hx => hsame x (by simp [hx])) (fun x hx => hs x (by simp [hx]))
    exact ⟨g, t, cs, fuel, p, q, h1, h2, var?_below hb h1 hg h3, h4', trodVars_stays hl hb (fun m hm => hr m (by simp [hm])) h5 (fun x hx => hsame x (by simp [hx])) (fun x hx => hs x (by simp [hx])), rfl⟩

section
variable {H : Type} {enc : TypeId × Value → H} {P : Program} {W : World} {sp : Nat → Bool}
theorem trodVars_len0 {gs : List (DataW H)} {q : List MemPlace} (h : DataW.TrodVars enc P W sp [] gs q) : gs = [] := (trodVars_none h).1
theorem trodVars_len1 {n0 : String} {gs : List (DataW H)} {q : List MemPlace} (h : DataW.TrodVars enc P W sp [n0] gs q) : ∃ g0, gs = [g0] := by
  cases gs with
  | nil => exact h.elim
  | cons g0 gs =>
    obtain ⟨_, _, _, _, _, _, _, _, _, _, h', _⟩ := h
    exact ⟨g0, by rw [trodVars_len0 h']⟩
theorem trodVars_len2 {n0 n1 : String} {gs : List (DataW H)} {q : List MemPlace} (h : DataW.TrodVars enc P W sp [n0, n1] gs q) : ∃ g0 g1, gs = [g0, g1] := by
  cases gs with
  | nil => exact h.elim
  | cons g0 gs =>
    obtain ⟨_, _, _, _, _, _, _, _, _, _, h', _⟩ := h
    obtain ⟨g1, rfl⟩ := trodVars_len1 h'
    exact ⟨g0, g1, rfl⟩
theorem trodVars_len3 {n0 n1 n2 : String} {gs : List (DataW H)} {q : List MemPlace} (h : DataW.TrodVars enc P W sp [n0, n1, n2] gs q) : ∃ g0 g1 g2, gs = [g0, g1, g2] := by
  cases gs with
  | nil => exact h.elim
  | cons g0 gs =>
    obtain ⟨_, _, _, _, _, _, _, _, _, _, h', _⟩ := h
    obtain ⟨g1, g2, rfl⟩ := trodVars_len2 h'
    exact ⟨g0, g1, g2, rfl⟩
theorem trodVars_len4 {n0 n1 n2 n3 : String} {gs : List (DataW H)} {q : List MemPlace} (h : DataW.TrodVars enc P W sp [n0, n1, n2, n3] gs q) : ∃ g0 g1 g2 g3, gs = [g0, g1, g2, g3] := by
  cases gs with
  | nil => exact h.elim
  | cons g0 gs =>
    obtain ⟨_, _, _, _, _, _, _, _, _, _, h', _⟩ := h
    obtain ⟨g1, g2, g3, rfl⟩ := trodVars_len3 h'
    exact ⟨g0, g1, g2, g3, rfl⟩
end

/-- What a law's specification says: the call returns true, and all reads as before. -/
structure Plain (s : ChangeSpec) (ds gs : List (DataW H)) : Prop where
  res : (s.fn H (ds ++ gs)).results = [.lit (.bool true)]
  args : (s.fn H (ds ++ gs)).args = ds
  vars : (s.fn H (ds ++ gs)).vars = gs

def rowsOk (P : Program) (ts : List TypeId) : Bool := ts.all fun t => P.readableRec t && decide (t < P.types.size)
def varsOk (P : Program) (ns : List String) : Bool := ns.all fun n => ((P.globalNamed n).bind (P.globals[·]?)).all fun gl => P.readableRec gl.type && decide (gl.type < P.types.size)

theorem law_post {f : Func} {s : ChangeSpec} {W W' : World} {args : Array Value} {ds gs : List (DataW H)} {before : List MemPlace} (hl : laidOutB P = true) (ht : rowsOk P f.params.toList = true) (hv : varsOk P s.vars = true)
    {tb : TypeId} (hb1 : f.resultTypes = #[tb]) (hb2 : P.underlying tb = some .bool)
    (hW : DataW.Whole enc P f.params.toList s.vars false W args.toList ds gs before) (hs : Plain s ds gs) (hb : Below W.heap.size W W') :
    s.post enc P f false true false false W args (.bool true) W' := by
  have hlt : ∀ p ∈ before, p.block < W.heap.size := fun p hp => hW.lt p hp
  have hold : ∀ p ∈ before, (fun b => decide (b < W.heap.size)) p.block = true := fun p hp => by simpa using hlt p hp
  have hW' := hW
  obtain ⟨pa, pv, hA, hV, rfl, hz, hn⟩ := hW
  have hsame : ∀ p ∈ pa ++ pv, W.sameAt W' p := fun p hp => hb.same (hlt p hp)
  have htr : ∀ t ∈ f.params.toList, P.readableRec t = true ∧ t < P.types.size := fun t h => by
    have := List.all_eq_true.1 ht t h
    simpa using this
  have hvr : ∀ n ∈ s.vars, ∀ g t, P.globalNamed n = some g → (P.globals[g]?).map (·.type) = some t → P.readableRec t = true ∧ t < P.types.size := fun n h g t h1 h2 => by
    have := List.all_eq_true.1 hv n h
    rw [h1] at this
    cases hg : P.globals[g]? with
    | none => rw [hg] at h2; cases h2
    | some gl =>
      rw [hg] at h2
      obtain rfl : gl.type = t := Option.some.inj h2
      simpa [hg] using this
  have hargs : ∀ sp : Nat → Bool, (∀ p ∈ pa ++ pv, sp p.block = true) → DataW.TrodAll enc P W' 0 sp true f.params.toList args.toList (s.fn H (ds ++ gs)).args pa := fun sp hsp => by
    rw [hs.args]
    exact trodAll_stays hl htr hA (fun x hx => hsame x (by simp [hx])) (fun x hx => hsp x (by simp [hx]))
  have hvars : ∀ sp : Nat → Bool, (∀ p ∈ pa ++ pv, sp p.block = true) → DataW.TrodVars enc P W' sp s.vars (s.fn H (ds ++ gs)).vars pv := fun sp hsp => by
    rw [hs.vars]
    exact trodVars_stays hl hb hvr hV (fun x hx => hsame x (by simp [hx])) (fun x hx => hsp x (by simp [hx]))
  have hres : ∀ (b : Nat) (sp : Nat → Bool) (hd : Bool), DataW.TrodAll enc P W' b sp hd f.resultTypes.toList ((Value.bool true).resultList f.resultTypes.size) (s.fn H (ds ++ gs)).results [] := fun b sp hd => by
    rw [hs.res, hb1]
    exact trodAll_cons_mk (shut_bool hb2 _) trodAll_mk0
  refine ⟨ds, gs, pa ++ pv, [], pa, pv, hW', hres _ _ _, hargs _ hold, hvars _ hold, World.keptBut_mono (fun p hp => ⟨hp, ?_⟩) (hb.frame (· ∈ pa ++ pv)), fun h => by cases h⟩
  rw [List.mem_append] at hp
  exact Or.inr hp

/-- Out of the list of variables with what they hold: one of them. -/
theorem laid_one {W : World} {n : String} {d : DataW Unit} : ∀ {laid : List (String × DataW Unit)} {ps : List MemPlace}, DataW.LaidVars P W laid ps → (n, d) ∈ laid →
    ∃ g t cs fuel p, P.globalNamed n = some g ∧ (P.globals[g]?).map (·.type) = some t ∧ W.var? P n = some cs ∧ DataW.trod (fun _ => ()) P W 0 (fun _ => true) false fuel t cs.toList = some (d, p)
  | [], _, _, hm => by cases hm
  | (n', d') :: r, _, h, hm => by
    obtain ⟨g, t, cs, fuel, p, q, h1, h2, h3, h4, h5, _⟩ := h
    rcases List.mem_cons.1 hm with e | hm
    · cases e
      exact ⟨g, t, cs, fuel, p, h1, h2, h3, h4⟩
    · exact laid_one h5 hm

/-- An array of strings, cell for cell. -/
theorem cells_of_strs {w : World} {base : Nat} {sp : Nat → Bool} {held : Bool} {fuel : Nat} {t e : TypeId} {n : Nat} {cs : List Value} {zs : List (List UInt8)} {p : List MemPlace}
    (ht : P.underlying t = some (.array n e)) (he : P.underlying e = some .string) (hce : P.cellsOf e = 1)
    (h : DataW.trod enc P w base sp held fuel t cs = some (.agg (zs.map fun z => .lit (.string z)), p)) : ∀ i, i < n → cs[i]? = some (.string (Tw.str (zs.getD i []))) := by
  obtain ⟨xs, m, _, hx, _, hxl, hel⟩ := DataW.trod_array ht h
  simp only [Prod.mk.injEq, DataW.agg.injEq] at hx
  intro i hi
  have h1 := hel i hi
  rw [hce, Nat.mul_one] at h1
  have hx1 : xs[i]? = some (xs[i]'(by omega)) := List.getElem?_eq_getElem (by omega)
  rw [hx1] at h1
  obtain ⟨s, hc, hy, _⟩ := DataW.trod_string he h1
  have h2 : (xs.map (·.1))[i]? = some (DataW.lit (.string s.data.toList) : DataW H) := by simp [hx1, hy]
  rw [← hx.1] at h2
  simp only [List.getElem?_map, Option.map_eq_some_iff, DataW.lit.injEq, Lit.string.injEq] at h2
  obtain ⟨z, hz, rfl⟩ := h2
  have h3 := congrArg (·[0]?) hc
  simp only [List.getElem?_take, List.getElem?_drop] at h3
  simp at h3
  rw [h3, List.getD, hz, Option.getD_some, Tw.str_of]

end

theorem gWays : Tryd.prog.globalNamed "loop.example/turtlewalks/impl.wayLetters" = some 0 := by kernel_rfl
theorem gWaysType : (Tryd.prog.globals[0]?).map (·.type) = some 62 := by kernel_rfl
theorem cellsString : Tryd.prog.cellsOf 9 = 1 := by kernel_rfl
theorem waysAt {W : World} {laid : List (String × DataW Unit)} (hp : (laid.all fun x => x.2.handleName?.isNone) = true) (h : laidMetH Tryd.prog laid W)
    (hm : ("loop.example/turtlewalks/impl.wayLetters", Rows.laid_loop_example_turtlewalks_impl_wayLetters) ∈ laid) : WaysAt W := by
  rw [MakeChecks.laidMetH_plain _ _ _ hp] at h
  obtain ⟨_, h, _⟩ := h
  obtain ⟨g, t, cs, fuel, p, h1, h2, h3, h4⟩ := laid_one h hm
  obtain rfl := Option.some.inj (gWays.symm.trans h1)
  obtain rfl := Option.some.inj (gWaysType.symm.trans h2)
  intro i hi
  rw [World.var?_cell h1 h3 i]
  have := cells_of_strs (zs := wayList) Tryd.underlying62 Tryd.underlying9 cellsString h4 i hi
  simpa using this

theorem gDirs : Tryd.prog.globalNamed "loop.example/turtlewalks/impl.directions" = some 1 := by kernel_rfl
theorem gDirsType : (Tryd.prog.globals[1]?).map (·.type) = some 71 := by kernel_rfl
theorem cellsPair : Tryd.prog.cellsOf 53 = 2 := by kernel_rfl
theorem cellsInt : Tryd.prog.cellsOf 3 = 1 := by kernel_rfl
theorem cells_of_dirs {w : World} {base : Nat} {sp : Nat → Bool} {held : Bool} {fuel : Nat} {cs : List Value} {zs : List (List Int)} {p : List MemPlace}
    (h : DataW.trod (fun _ => ()) Tryd.prog w base sp held fuel 71 cs = some (.agg (zs.map fun z => .agg (z.map fun y => .lit (.int .i64 y))), p)) :
    ∀ i j, i < 4 → j < 2 → cs[i * 2 + j]? = some (.int .i64 ((zs.getD i []).getD j 0)) := by
  obtain ⟨xs, m, _, hx, _, hxl, hel⟩ := DataW.trod_array Tryd.underlying71 h
  simp only [Prod.mk.injEq, DataW.agg.injEq] at hx
  intro i j hi hj
  have h1 := hel i hi
  rw [cellsPair] at h1
  have hx1 : xs[i]? = some (xs[i]'(by omega)) := List.getElem?_eq_getElem (by omega)
  rw [hx1] at h1
  have h2 : (xs.map (·.1))[i]? = some (xs[i]'(by omega)).1 := by simp [hx1]
  rw [← hx.1] at h2
  simp only [List.getElem?_map, Option.map_eq_some_iff] at h2
  obtain ⟨z, hz, hz1⟩ := h2
  have h1' : DataW.trod (fun _ => ()) Tryd.prog w base sp held m 53 ((cs.drop (i * 2)).take 2) = some (.agg (z.map fun y => .lit (.int .i64 y)), (xs[i]'(by omega)).2) := by rw [h1, hz1]
  obtain ⟨ys, m2, _, hy, _, hyl, hel2⟩ := DataW.trod_array Tryd.underlying53 h1'
  simp only [Prod.mk.injEq, DataW.agg.injEq] at hy
  have h3 := hel2 j hj
  rw [cellsInt, Nat.mul_one] at h3
  have hy1 : ys[j]? = some (ys[j]'(by omega)) := List.getElem?_eq_getElem (by omega)
  rw [hy1] at h3
  obtain ⟨q, hc, hq, _⟩ := DataW.trod_int Tryd.underlying3 h3
  have h4 : (ys.map (·.1))[j]? = some (DataW.lit (.int .i64 q) : DataW Unit) := by simp [hy1, hq]
  rw [← hy.1] at h4
  simp only [List.getElem?_map, Option.map_eq_some_iff, DataW.lit.injEq, Lit.int.injEq, true_and] at h4
  obtain ⟨z', hz', rfl⟩ := h4
  have h5 := congrArg (·[0]?) hc
  simp only [List.getElem?_take, List.getElem?_drop] at h5
  simp [hj] at h5
  have e1 : zs.getD i [] = z := by simp [List.getD, hz]
  rw [h5, e1, List.getD, hz', Option.getD_some]
theorem dirsAt {W : World} {laid : List (String × DataW Unit)} (hp : (laid.all fun x => x.2.handleName?.isNone) = true) (h : laidMetH Tryd.prog laid W)
    (hm : ("loop.example/turtlewalks/impl.directions", Rows.laid_loop_example_turtlewalks_impl_directions) ∈ laid) : DirsAt W := by
  rw [MakeChecks.laidMetH_plain _ _ _ hp] at h
  obtain ⟨_, h, _⟩ := h
  obtain ⟨g, t, cs, fuel, p, h1, h2, h3, h4⟩ := laid_one h hm
  obtain rfl := Option.some.inj (gDirs.symm.trans h1)
  obtain rfl := Option.some.inj (gDirsType.symm.trans h2)
  have hc : ∀ i j, i < 4 → j < 2 → W.cell? ⟨1, i * 2 + j, none⟩ = some (.int .i64 (([[1, 0], [0, 1], [-1, 0], [0, -1]].getD i []).getD j 0)) := fun i j hi hj => by
    rw [World.var?_cell h1 h3 (i * 2 + j)]
    have := cells_of_dirs (zs := [[1, 0], [0, 1], [-1, 0], [0, -1]]) h4 i j hi hj
    rw [← Array.getElem?_toList]
    exact this
  exact ⟨hc 0 0 (by omega) (by omega), hc 0 1 (by omega) (by omega), hc 1 0 (by omega) (by omega), hc 1 1 (by omega) (by omega), hc 2 0 (by omega) (by omega), hc 2 1 (by omega) (by omega), hc 3 0 (by omega) (by omega), hc 3 1 (by omega) (by omega)⟩

end Go.Proofs.YtjcagkpolfacpaaDoor
