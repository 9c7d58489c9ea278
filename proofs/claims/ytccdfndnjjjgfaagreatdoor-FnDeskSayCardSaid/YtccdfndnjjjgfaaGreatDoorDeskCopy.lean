/-
  Contract of the reference's l12Copy: the same desk in new memory.
-/
import Derived.Test.YtccdfndnjjjgfaaGreatDoorStrs
import Derived.Deep.RegionHeld3
import Derived.Deep.AppendLies
import Derived.Laws.OwnMore
namespace Go.Proofs.YtccdfndnjjjgfaaGreatDoor
open Go.RowKit

/-- At a step of a region: append to a slice of the call's own, of a slice that is nil or lies as told. -/
theorem step_append_src {P : Program} {w : World} {ops : Array Oper} {o : Oper} {a : Act} {K : Act → World → Prop} {Q : Exit → Act → World → Prop} {E : Prop}
    (hg : o.guard = none) (s x : Operand) (t : TypeId) (hop : o.op = Op.call { callee := Callee.builtin Builtin.append, args := #[s, x], argTypes := #[t, t] })
    (base : Nat) (e : TypeId) (i : TypeInfo) (z : Value) (size bytes : Nat) (ht : P.underlying t = some (.slice e)) (hi : P.info? e = some i) (hz : i.zero = some z)
    (hsize : i.size = size) (hby : i.bytes = bytes) (hzs : z.cells.size = size) (hsz : 0 < size)
    (v : Value) (n : Nat) (xs : List Value) (hs : a.eval s = v) (hown : w.ownsRow base e size v n xs) (hv : v ≠ .slice none 0 0)
    (u : Value) (m : Nat) (news : List Value) (hx : a.eval x = u) (hsrc : (u = .slice none 0 0 ∧ m = 0 ∧ news = []) ∨ ∃ ad c, u = .slice (some ad) m c ∧ news.length = m * size ∧ ∀ j u, news[j]? = some u → w.cell? (ad.add j) = some u)
    (h1 : ∀ u ∈ news, u.oneCell' = true) (h63 : n + m ≤ maxLen) (hbytes : (n + m) * bytes ≤ 140737488355328) (hbase : base ≤ w.heap.size)
    (h : ∀ v' w', w'.ownsRow base e size v' (n + m) (xs ++ news) → w.grownBy w' v.ownBlock → v' ≠ .slice none 0 0 → K (a.put o.dst v') w') :
    if Region.wanted o (yielded ops a.tmps) = true then Oper.wp P o a w K Q else E := by
  have hw : Region.wanted o (yielded ops a.tmps) = true := by simp [Region.wanted, hg]
  rw [if_pos hw]
  rcases hsrc with ⟨rfl, rfl, rfl⟩ | ⟨ad, c, rfl, hl, hnews⟩
  · have hrun := run_append_owned_none (P := P) (w := w) base t o.type e i size ht hi v n xs hown
    unfold Oper.wp
    simp [execOp, hop, resolve, invoke, builtin, hs, hx, hrun, Result.andThen]
    exact h v w (by simpa using hown) ⟨rfl, rfl, rfl, Nat.le_refl _, fun _ _ _ => rfl⟩ hv
  · exact wp_append_own w s x t hop base e i z size bytes ht hi hz hsize hby hzs hsz v n xs hs hown ad m c news hx hl hnews h1 h63 hbytes hbase (fun v' w' h2 h3 h4 => h v' w' h2 h3 (fun e => hv (h4.1 e).1))
theorem own_none (W : World) (t : TypeId) (base : Nat) (hb : base ≤ W.heap.size) : (W.alloc (.cells #[] t)).ownsRow base t 1 (.slice (some ⟨W.heap.size, 0, none⟩) 0 0) 0 [] :=
  ⟨rfl, .inr ⟨W.heap.size, 0, #[], rfl, hb, heap_alloc_new W _, Nat.le_refl _, by decide, rfl, rfl⟩⟩
theorem own_slice {w : World} {base n : Nat} {e : TypeId} {size : Nat} {v : Value} {xs : List Value} (h : w.ownsRow base e size v n xs) (hne : v ≠ .slice none 0 0) : ∃ g cap, v = .slice (some ⟨g, 0, none⟩) n cap := by
  rcases h.2 with ⟨h0, _⟩ | ⟨g, cap, _, he, _⟩
  · exact absurd h0 hne
  · exact ⟨g, cap, he⟩
theorem cell_older {w : World} {b j : Nat} (h : b < w.heap.size) (o : Obj) : (w.alloc o).cell? ⟨b, j, none⟩ = w.cell? ⟨b, j, none⟩ := ((Below.refl w.heap.size w).alloc (Nat.le_refl _) o).cell (p := ⟨b, j, none⟩) h
theorem other_cells {W : World} {N A : Nat} {u v x y : Value} (h : A ≠ N) (c0 : W.cell? ⟨A, 0, none⟩ = some x) (c1 : W.cell? ⟨A, 1, none⟩ = some y) :
    ((W.setCell ⟨N, 0, none⟩ u).setCell ⟨N, 1, none⟩ v).cell? ⟨A, 0, none⟩ = some x ∧ ((W.setCell ⟨N, 0, none⟩ u).setCell ⟨N, 1, none⟩ v).cell? ⟨A, 1, none⟩ = some y := by
  constructor
  · rw [World.cell?_setCell_far _ _ _ _ (fun e => h e.symm), World.cell?_setCell_far _ _ _ _ (fun e => h e.symm), c0]
  · rw [World.cell?_setCell_far _ _ _ _ (fun e => h e.symm), World.cell?_setCell_far _ _ _ _ (fun e => h e.symm), c1]
theorem own_put {w : World} {base : Nat} {e : TypeId} {size : Nat} {v : Value} {n : Nat} {xs : List Value} (h : w.ownsRow base e size v n xs) (a : Addr) (u : Value) (hne : v.ownBlock ≠ some a.block) : (w.setCell a u).ownsRow base e size v n xs :=
  h.kept (row := some a.block) ⟨rfl, rfl, rfl, by simp, fun k _ hk => heap_setCell_other w a k _ (fun e => hk (by rw [e]))⟩ (.inr hne)
theorem pair_put {w : World} {b : Nat} {x y : Value} {t : TypeId} (h : w.heap[b]? = some (.cells #[x, y] t (0, 0))) (u v : Value) : ((w.setCell ⟨b, 0, none⟩ u).setCell ⟨b, 1, none⟩ v).heap[b]? = some (.cells #[u, v] t (0, 0)) := by
  simp [World.setCell, Array.getElem?_modify, h]
theorem src_of {w : World} {v : Value} {zs : List ByteArray} (h : StrsAt w v zs) : (v = .slice none 0 0 ∧ zs.length = 0 ∧ strVals zs = []) ∨ ∃ ad c, v = .slice (some ad) zs.length c ∧ (strVals zs).length = zs.length * 1 ∧ ∀ j u, (strVals zs)[j]? = some u → w.cell? (ad.add j) = some u := by
  rcases h with ⟨rfl, rfl⟩ | ⟨a, cap, rfl, hl, hc⟩
  · exact .inl ⟨rfl, rfl, rfl⟩
  · refine .inr ⟨a, cap, rfl, by rw [strVals_len, Nat.mul_one], fun j u hu => ?_⟩
    unfold strVals at hu
    rw [List.getElem?_map] at hu
    cases hz : zs[j]? with
    | none => simp [hz] at hu
    | some z =>
      rw [hz] at hu
      obtain rfl := Option.some.inj hu
      exact hc j z hz
theorem one_strs (zs : List ByteArray) : ∀ u ∈ strVals zs, u.oneCell' = true := by
  intro u hu
  obtain ⟨z, _, rfl⟩ := List.mem_map.1 hu
  rfl

set_option maxRecDepth 100000 in
set_option maxHeartbeats 1600000 in
theorem copy_any (s : ByteArray) (v : Value) (zs : List ByteArray) (w : World) (h : StrsAt w v zs) (hn : zs.length ≤ 1048576) :
    Calls Tryz.prog 38 #[.agg #[.string s, v]] w fun e w' => ∃ v', e = .returned (.agg #[.string s, v']) ∧ w'.ownsRow (w.heap.size + 2) 9 1 v' zs.length (strVals zs) ∧ v' ≠ .slice none 0 0 ∧ Below w.heap.size w w' := by
  obtain ⟨i0, hi0, hz0, hz1, hz2⟩ := info_parts stringInfo
  obtain ⟨W, hW⟩ : ∃ W, W = (w.alloc (.cells #[.string s, v] 27)).alloc (.cells #[.string ⟨#[]⟩, .slice none 0 0] 27) := ⟨_, rfl⟩
  have hWs : W.heap.size = w.heap.size + 2 := by rw [hW]; simp
  have hb : Below w.heap.size w W := by rw [hW]; exact ((Below.refl _ _).alloc (Nat.le_refl _) _).alloc (by simp) _
  have hrow : W.heap[w.heap.size]? = some (.cells #[.string s, v] 27 (0, 0)) := by rw [hW]; exact heap_alloc2_old _ _ _
  have hres : W.heap[w.heap.size + 1]? = some (.cells #[.string ⟨#[]⟩, .slice none 0 0] 27 (0, 0)) := by rw [hW]; exact heap_alloc2_new _ _ _
  have hv : ∃ a m c, v = .slice a m c := by
    rcases h with ⟨rfl, _⟩ | ⟨a, cap, rfl, _⟩
    · exact ⟨_, _, _, rfl⟩
    · exact ⟨_, _, _, rfl⟩
  have hst := h.below' hb
  have c0 := cell_of_row _ _ 0 _ _ _ hrow
  have c1 := cell_of_row _ _ 1 _ _ _ hrow
  have hlt0 : w.heap.size < W.heap.size := by omega
  have HW := Lib.hid hW
  have HRES := Lib.hid hres
  have HROW := Lib.hid hrow
  have HST := Lib.hid hst
  clear hres hst h hW hrow
  have hown0 : (W.alloc (.cells #[] 9)).ownsRow (w.heap.size + 2) 9 1 (.slice (some ⟨w.heap.size + 2, 0, none⟩) 0 0) 0 [] := by
    have := own_none W 9 (w.heap.size + 2) (by omega)
    rwa [hWs] at this
  obtain ⟨a, m, c, rfl⟩ := hv
  go_enter Tryz.func38, Tryz.ntmps38
  go_wp2_with fail
  rw [← HW.out]
  go_region_held3 (fun w' => w'.cell? ⟨w.heap.size, 0, none⟩ = some (.string s) ∧ w'.cell? ⟨w.heap.size, 1, none⟩ = some (.slice a m c))
    (first
      | exact ⟨c0, c1⟩
      | exact ⟨(cell_older hlt0 _).trans c0, (cell_older hlt0 _).trans c1⟩
      | exact ⟨k0, k1⟩
      | exact other_cells (by omega) k0 k1)
    (first
      | (refine step_append_src (by rfl) _ _ _ (by rfl) (w.heap.size + 2) 9 i0 _ 1 16 Tryz.underlying22 hi0 hz0 hz1 hz2 rfl (by omega) _ 0 [] (by rfl) hown0.drew (by simp) _ zs.length (strVals zs) (by rfl) (src_of (HST.out.below' (((Below.refl W.heap.size W).alloc (Nat.le_refl _) _).drew))) (one_strs zs) (by unfold maxLen; omega) (by omega) (by simp; omega) ?_; intro v' w2 hown2 hgrow2 hne2; obtain ⟨g2, cap2, rfl⟩ := own_slice hown2 hne2; have hk2 : ∀ b, b < W.heap.size → w2.heap[b]? = W.heap[b]? := fun b hb => (hgrow2.block b (by simp; omega) (by simp only [Value.ownBlock, ne_eq, Option.some.injEq]; omega)).trans ((((Below.refl W.heap.size W).alloc (Nat.le_refl _) _).drew).block b hb); have r2 := (hk2 _ hlt0).trans HROW.out; have k0 := cell_of_row _ _ 0 _ _ _ r2; have k1 := cell_of_row _ _ 1 _ _ _ r2; have s2 := (hk2 (w.heap.size + 1) (by omega)).trans HRES.out; have m0 := cell_of_row _ _ 0 _ _ _ s2; have m1 := cell_of_row _ _ 1 _ _ _ s2; have f0 := frozen_of_row _ _ 0 _ _ s2; have f1 := frozen_of_row _ _ 1 _ _ s2; have S2 := Lib.hid s2; clear r2 s2))
  have hown3 : w2.ownsRow (w.heap.size + 2) 9 1 (.slice (some ⟨g2, 0, none⟩) zs.length cap2) zs.length (strVals zs) := by simpa using hown2
  have hg2 := (hown3.lt g2 rfl).1
  have hne3 : (Value.slice (some ⟨g2, 0, none⟩) zs.length cap2).ownBlock ≠ some (w.heap.size + 1) := by
    show some g2 ≠ some (w.heap.size + 1)
    intro e
    cases e
    omega
  have hb2 : Below w.heap.size w w2 := ((hb.alloc (by omega) _).drew).grown hgrow2 (by simp; omega) (fun j hj => by cases hj; show w.heap.size ≤ w.heap.size + 2; omega)
  have q := pair_put S2.out (.string s) (.slice (some ⟨g2, 0, none⟩) zs.length cap2)
  have q0 := cell_of_row _ _ 0 _ _ _ q
  have q1 := cell_of_row _ _ 1 _ _ _ q
  simp at q0 q1
  go_wp2
  refine bodyPost_ret (v := .agg #[.string s, .slice (some ⟨g2, 0, none⟩) zs.length cap2]) (by simp [results, Tryz.results38, go_sem, q0, q1]) rfl ⟨_, rfl, ?_, by simp, ?_⟩
  · exact own_put (own_put hown3 _ _ hne3) _ _ hne3
  · exact (hb2.setCell (by show w.heap.size ≤ w.heap.size + 1; omega) _).setCell (by show w.heap.size ≤ w.heap.size + 1; omega) _

end Go.Proofs.YtccdfndnjjjgfaaGreatDoor
