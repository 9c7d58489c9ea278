/-
  A range over a function whose iterator writes memory of its own between two rounds: an own law. The caller's own blocks: those below B, and r (a row that it has made itself); the iterator leaves these alone, a round leaves all others alone.
-/
import Derived.RangeFuncNested
import Derived.RangeFuncBound
import Derived.RangeFuncCalls
import Derived.RangeFuncLeaves
import Derived.Below
namespace Go.Proofs.YtjcagkpolfacpaaDoor
open Go Go.RowKit

/-- The caller's own blocks lie as they lay. -/
structure SameOwn (B : Nat) (r : Option Nat) (W W' : World) : Prop where
  os : W'.os = W.os
  tape : W'.tape = W.tape
  output : W'.output = W.output
  size : W.heap.size ≤ W'.heap.size
  block : ∀ k, k < B ∨ r = some k → W'.heap[k]? = W.heap[k]?
/-- All other blocks lie as they lay. -/
structure SameOther (B : Nat) (r : Option Nat) (W W' : World) : Prop where
  os : W'.os = W.os
  tape : W'.tape = W.tape
  output : W'.output = W.output
  size : W.heap.size ≤ W'.heap.size
  block : ∀ k, B ≤ k → k < W.heap.size → r ≠ some k → W'.heap[k]? = W.heap[k]?
/-- The caller's row: the one of before, or a new one. -/
def NextRow (W : World) (r r' : Option Nat) : Prop := r' = r ∨ ∃ k, r' = some k ∧ W.heap.size ≤ k

theorem SameOwn.refl (B : Nat) (r : Option Nat) (W : World) : SameOwn B r W W := ⟨rfl, rfl, rfl, Nat.le_refl _, fun _ _ => rfl⟩
theorem SameOwn.trans {B : Nat} {r : Option Nat} {X Y Z : World} (h : SameOwn B r X Y) (k : SameOwn B r Y Z) : SameOwn B r X Z :=
  ⟨k.os.trans h.os, k.tape.trans h.tape, k.output.trans h.output, Nat.le_trans h.size k.size, fun i hi => (k.block i hi).trans (h.block i hi)⟩
theorem SameOwn.mono {B B' : Nat} {r : Option Nat} {X Y : World} (h : SameOwn B r X Y) (hB : B' ≤ B) : SameOwn B' r X Y :=
  ⟨h.os, h.tape, h.output, h.size, fun i hi => h.block i (hi.imp (fun h9 => Nat.lt_of_lt_of_le h9 hB) id)⟩
/-- What keeps all that lay keeps the caller's own. -/
theorem SameOwn.of_below {B : Nat} {r : Option Nat} {X Y : World} (h : Below X.heap.size X Y) (hB : B ≤ X.heap.size) (hr : ∀ k, r = some k → k < X.heap.size) : SameOwn B r X Y :=
  ⟨h.os, h.tape, h.output, h.size, fun i hi => h.block i (hi.elim (fun h9 => Nat.lt_of_lt_of_le h9 hB) (hr i))⟩
theorem SameOwn.below {B : Nat} {r : Option Nat} {X Y : World} (h : SameOwn B r X Y) : Below B X Y := ⟨h.os, h.tape, h.output, h.size, fun i hi => h.block i (.inl hi)⟩
/-- A block of the iterator's own is turned. -/
theorem SameOwn.grown {B : Nat} {r : Option Nat} {X Y : World} {row : Option Nat} (h : X.grownBy Y row) (hB : B ≤ X.heap.size) (hr : ∀ k, r = some k → k < X.heap.size) (hrow : ∀ k, row = some k → B ≤ k ∧ r ≠ some k) : SameOwn B r X Y :=
  ⟨h.os, h.tape, h.output, h.size, fun i hi => by
    have h1 : i < X.heap.size := hi.elim (fun h9 => Nat.lt_of_lt_of_le h9 hB) (hr i)
    refine h.block i h1 (fun e => ?_)
    have := hrow i e.symm
    rcases hi with h9 | h9
    · omega
    · exact this.2 h9⟩
theorem SameOther.refl (B : Nat) (r : Option Nat) (W : World) : SameOther B r W W := ⟨rfl, rfl, rfl, Nat.le_refl _, fun _ _ _ _ => rfl⟩
theorem SameOther.of_below {B : Nat} {r : Option Nat} {X Y : World} (h : Below X.heap.size X Y) : SameOther B r X Y := ⟨h.os, h.tape, h.output, h.size, fun i _ hi _ => h.block i hi⟩
theorem SameOther.trans {B : Nat} {r : Option Nat} {X Y Z : World} (h : SameOther B r X Y) (k : SameOther B r Y Z) : SameOther B r X Z :=
  ⟨k.os.trans h.os, k.tape.trans h.tape, k.output.trans h.output, Nat.le_trans h.size k.size, fun i h1 h2 h3 => (k.block i h1 (Nat.lt_of_lt_of_le h2 h.size) h3).trans (h.block i h1 h2 h3)⟩
/-- A block of the caller's own is turned. -/
theorem SameOther.grown {B : Nat} {r : Option Nat} {X Y : World} {row : Option Nat} (h : X.grownBy Y row) (hrow : ∀ k, row = some k → k < B ∨ r = some k) : SameOther B r X Y :=
  ⟨h.os, h.tape, h.output, h.size, fun i h1 h2 h3 => h.block i h2 (fun e => by
    rcases hrow i e.symm with h9 | h9
    · omega
    · exact h3 h9)⟩
theorem SameOther.setCell {B : Nat} {r : Option Nat} {X : World} {p : Addr} (hp : p.block < B) (u : Value) : SameOther B r X (X.setCell p u) :=
  ⟨rfl, rfl, rfl, by show X.heap.size ≤ (X.heap.modify _ _).size; rw [Array.size_modify]; exact Nat.le_refl _, fun i h1 _ _ => Below.heap_setCell _ _ _ _ (by omega)⟩
theorem NextRow.refl (W : World) (r : Option Nat) : NextRow W r r := .inl rfl
theorem NextRow.trans {W W' : World} {r r' r'' : Option Nat} (h : NextRow W r r') (hs : W.heap.size ≤ W'.heap.size) (k : NextRow W' r' r'') : NextRow W r r'' := by
  rcases k with rfl | ⟨i, rfl, hi⟩
  · exact h
  · exact .inr ⟨i, rfl, by omega⟩
theorem NextRow.mono {W W' : World} {r r' : Option Nat} (h : NextRow W' r r') (hs : W.heap.size ≤ W'.heap.size) : NextRow W r r' := (NextRow.refl W r).trans hs h
/-- A block that lay and was not the row is not the next row. -/
theorem NextRow.ne {W : World} {r r' : Option Nat} (h : NextRow W r r') {k : Nat} (hk : k < W.heap.size) (hr : r ≠ some k) : r' ≠ some k := by
  rcases h with rfl | ⟨i, rfl, hi⟩
  · exact hr
  · intro h9
    have := Option.some.inj h9
    omega

variable {F : Fence} {n : Nat} {P : Program}

/-- What a round of the caller's does at a call of yield. -/
def RoundsOwn {α : Type} (F : Fence) (m : Nat) (P : Program) (l B : Nat) (encs : α → Array Value) (xs : List α) (J : List α → Option Nat → World → Prop) : Prop :=
  ∀ pre x r W, J pre r W → pre ++ [x] <+: xs → YieldAt F m P l (encs x) W fun e W' =>
    e = .returned (.bool true) ∧ ∃ r', J (pre ++ [x]) r' W' ∧ SameOther B r W W' ∧ NextRow W r r'
/-- What the caller's invariant abides. -/
def AbidesOwn {α : Type} (B : Nat) (J : List α → Option Nat → World → Prop) : Prop :=
  (∀ pre r W W', J pre r W → SameOwn B r W W' → J pre r W') ∧ ∀ pre r W, J pre r W → B ≤ W.heap.size ∧ ∀ k, r = some k → B ≤ k ∧ k < W.heap.size

/-- The caller's statement: each of xs comes once, in order; no round leaves the loop. -/
theorem wpIn_rangeOwn {α : Type} {g : Operand} {ps : Array Tmp} {assign body : Code} {Q : Exit → Act → World → Prop} {a : Act} {w : World}
    (hro : F.round = none) (h1 : 1 ≤ n) {gf : Nat} {lb : Array Value} (hg : a.eval g = .func (.func gf) #[] lb) (hFg : F.fn gf) (eg : ∀ args w, (callFunc gf args).run P w = .ok (.enter gf args) w)
    {encs : α → Array Value} {xs : List α}
    {C : World → Prop}
    (hseq : ∀ (l : Nat) (J : List α → Option Nat → World → Prop) (W : World), Below w.heap.size w W → W.heap.size = w.heap.size + 2 → AbidesOwn (w.heap.size + 2) J → (∀ pre r W, J pre r W → C W) → RoundsOwn F (n - 1 - 1) P l (w.heap.size + 2) encs xs J → J [] none W →
      CallsIn F (n - 1) P gf (#[.func (.yield l) #[] #[]] ++ lb) W fun e W' => (∃ v, e = .returned v) ∧ ∃ r, J xs r W')
    (hps : ∀ x, (encs x).size = ps.size)
    (I : List α → Option Nat → World → Prop) (hI : ∀ pre r W W', I pre r W → SameOwn w.heap.size r W W' → I pre r W') (hC : ∀ pre r W, I pre r W → C W) (h0 : I [] none w) (a₁ : α → Act)
    (hassign : ∀ (l : Nat) (x : α) (W : World) (K : Act → World → Prop), K (a₁ x) W →
      assign.wpIn (F.inRound l) (n - 1 - 1) P (Exit.then K (fun _ _ _ => False)) { tmps := (ps.zip (encs x)).foldl (fun t (p, v) => t.setIfInBounds p v) a.tmps, defers := [] } W)
    (hbody : ∀ (l : Nat) (pre : List α) (x : α) (r : Option Nat) (W : World), I pre r W → pre ++ [x] <+: xs → w.heap.size + 2 ≤ W.heap.size → (∀ k, r = some k → w.heap.size + 2 ≤ k ∧ k < W.heap.size) →
      body.wpIn (F.inRound l) (n - 1 - 1) P (Exit.then (fun _ W' => ∃ r', I (pre ++ [x]) r' W' ∧ SameOther w.heap.size r W W' ∧ NextRow W r r' ∧ ∀ k, r' = some k → k < W'.heap.size) (fun _ _ _ => False)) (a₁ x) W)
    (hdone : ∀ (r : Option Nat) (W : World), I xs r W → w.heap.size + 2 ≤ W.heap.size → W.heap[w.heap.size]? = some (.deferred (some [])) → Q .normal { a with defers := { target := .collected w.heap.size, args := #[] } :: a.defers } W) :
    (Code.rangeFunc g ps assign body).wpIn F n P Q a w := by
  refine wpIn_rangeFunc ?_
  intro fn hfn
  rw [hro]
  obtain ⟨rec, hrec⟩ : ∃ rec : LoopState → Option Code → Loop, rec = fun st pe => { state := st, pending := pe, fn, tmps := a.tmps, params := ps, assign, body, defers := w.heap.size } := ⟨_, rfl⟩
  obtain ⟨B, hB⟩ : ∃ B, w.heap.size = B := ⟨_, rfl⟩
  obtain ⟨W1, hW1⟩ : ∃ W1, (w.alloc (.deferred (some []))).alloc (.loop (rec .ready none)) = W1 := ⟨_, rfl⟩
  have hs1 : W1.heap.size = w.heap.size + 2 := by rw [← hW1]; simp
  have hb1 : Below w.heap.size w W1 := by
    rw [← hW1]; exact ((Below.refl _ w).alloc (Nat.le_refl _) _).alloc (by simp) _
  have hL1 : W1.heap[B + 1]? = some (.loop (rec .ready none)) := by
    rw [← hW1, ← hB]
    have := World.alloc_heap_new (w.alloc (.deferred (some []))) (.loop (rec .ready none))
    rwa [World.size_alloc] at this
  have hK1 : W1.heap[B]? = some (.deferred (some [])) := by
    rw [← hW1, ← hB]
    exact (Below.heap_alloc _ _ _ (by simp)).trans (World.alloc_heap_new w _)
  have hI1 : I [] none W1 := hI _ _ _ _ h0 (SameOwn.of_below hb1 (Nat.le_refl _) (fun k e => by cases e))
  refine ⟨w.heap.size + 1, [{ target := .collected w.heap.size, args := #[] }], W1, { target := .fn (.func gf) lb, args := #[.func (.yield (w.heap.size + 1)) #[] #[]] }, W1, gf,
    #[.func (.yield (w.heap.size + 1)) #[] #[]] ++ lb, W1, ?_, ?_, ?_, ?_, fun _ => h1, ?_⟩
  · rw [← hW1, hrec]; exact run_enterLoop_outer _ _ _ _ _
  · simp only [resolve, hg]
    simp [go_sem]
  · intro f' hf'; simp [Target.leads] at hf'; subst hf'; exact hFg
  · simp [invoke, go_sem, eg]
  · rw [hB] at hseq hI hbody hdone hb1 hs1 ⊢
    refine (hseq (B + 1)
      (fun pre r W => I pre r W ∧ B + 2 ≤ W.heap.size ∧ (∀ k, r = some k → B + 2 ≤ k ∧ k < W.heap.size) ∧ W.heap[B + 1]? = some (.loop (rec .ready none)) ∧ W.heap[B]? = some (.deferred (some [])))
      W1 hb1 hs1 ⟨fun pre r W W' ⟨hi, hz, hr, hl, hk⟩ hs => ⟨hI _ _ _ _ hi (hs.mono (by omega)), Nat.le_trans hz hs.size, fun k e => ⟨(hr k e).1, Nat.lt_of_lt_of_le (hr k e).2 hs.size⟩, (hs.block _ (.inl (by omega))).trans hl, (hs.block _ (.inl (by omega))).trans hk⟩, fun pre r W ⟨_, hz, hr, _, _⟩ => ⟨hz, hr⟩⟩ (fun pre r W ⟨hi, _⟩ => hC pre r W hi)
      ?_ ⟨hI1, by omega, fun k e => (by cases e), hL1, hK1⟩).mono ?_
    · rintro pre x r W ⟨hi, hz, hr, hl, hk⟩ hpre
      have hy := run_yield (P := P) (args := encs x) hl (by rw [hrec]; exact hps x)
      rw [hrec] at hy
      have hlt : B + 1 < W.heap.size := by omega
      refine ⟨fn, _, assign, body, hy, roundIn_of_wpIn hfn (hassign _ x W _ ⟨_, run_beginRound hl (by rw [hrec]), ?_⟩)⟩
      obtain ⟨W2, hW2⟩ : ∃ W2, W.putObj (B + 1) (.loop { rec .ready none with state := .busy }) = W2 := ⟨_, rfl⟩
      have hz2 : W2.heap.size = W.heap.size := by rw [← hW2]; simp
      have hl2 : W2.heap[B + 1]? = some (.loop { rec .ready none with state := .busy }) := by rw [← hW2]; exact World.putObj_heap_same hlt
      have ho2 : ∀ k, k ≠ B + 1 → W2.heap[k]? = W.heap[k]? := fun k h9 => by rw [← hW2]; exact World.putObj_heap_other h9
      have hown2 : SameOwn B r W W2 := ⟨by rw [← hW2]; rfl, by rw [← hW2]; rfl, by rw [← hW2]; rfl, by omega, fun k hk9 => ho2 k (by
        rcases hk9 with h9 | h9
        · omega
        · have := hr k h9; omega)⟩
      have hk2 : W2.heap[B]? = some (.deferred (some [])) := (ho2 B (by omega)).trans hk
      rw [hW2]
      refine wpIn_mono (hbody _ pre x r W2 (hI _ _ _ _ hi hown2) hpre (by omega) (fun k e => by have := hr k e; omega)) ?_
      rintro e a3 W3 hp
      cases e with
      | normal =>
        obtain ⟨r', hi3, hoth, hnext, hlt3⟩ := hp
        have hrl : ∀ k, k = B + 1 ∨ k = B → r ≠ some k := fun k h9 e => by have := hr k e; omega
        have hl3 := (hoth.block (B + 1) (by omega) (by omega) (hrl _ (.inl rfl))).trans hl2
        have hk3 := (hoth.block B (by omega) (by omega) (hrl _ (.inr rfl))).trans hk2
        have hr' : ∀ k, r' = some k → B + 2 ≤ k := fun k e => by
          rcases hnext with h9 | ⟨i, h9, h8⟩
          · exact (hr k (h9 ▸ e)).1
          · rw [h9] at e
            have := Option.some.inj e
            omega
        have hend := run_endRound (P := P) none hl3
        obtain ⟨W4, hW4⟩ : ∃ W4, W3.putObj (B + 1) (.loop (rec .ready none)) = W4 := ⟨_, rfl⟩
        have hend' : (Instr.endRound (B + 1) none).run P W3 = .ok (.bool true) W4 := by rw [hend, ← hW4, hrec]; rfl
        have hlt4 : B + 1 < W3.heap.size := (Array.getElem?_eq_some_iff.1 hl3).1
        have hz4 : W4.heap.size = W3.heap.size := by rw [← hW4]; simp
        have ho4 : ∀ k, k ≠ B + 1 → W4.heap[k]? = W3.heap[k]? := fun k h9 => by rw [← hW4]; exact World.putObj_heap_other h9
        have hl4 : W4.heap[B + 1]? = some (.loop (rec .ready none)) := by rw [← hW4]; exact World.putObj_heap_same hlt4
        have hs3 := hoth.size
        refine ⟨_, W4, hend', rfl, r', ⟨hI _ _ _ _ hi3 ⟨by rw [← hW4]; rfl, by rw [← hW4]; rfl, by rw [← hW4]; rfl, by omega, fun k hk9 => ho4 k ?_⟩, by omega, fun k e => ⟨hr' k e, ?_⟩, hl4, (ho4 B (by omega)).trans hk3⟩, ⟨?_, ?_, ?_, by omega, fun k h9 h8 h7 => ?_⟩, ?_⟩
        · rcases hk9 with h9 | h9
          · omega
          · have := hr' k h9; omega
        · have := hlt3 k e; omega
        · rw [← hW4]; exact hoth.os.trans hown2.os
        · rw [← hW4]; exact hoth.tape.trans hown2.tape
        · rw [← hW4]; exact hoth.output.trans hown2.output
        · exact (ho4 k (by omega)).trans ((hoth.block k (by omega) (by omega) h7).trans (ho2 k (by omega)))
        · exact NextRow.mono hnext (by omega)
      | ret => exact hp.elim
      | exit id => exact hp.elim
      | goto t => exact hp.elim
      | panic ch => exact hp.elim
      | outgrown => exact hp.elim
    · rintro e W2 ⟨⟨v, rfl⟩, r, hi, hz, hr, hl, hk⟩
      have hend := run_endLoop (P := P) hl (by rw [hrec]; simp)
      have hlt : B + 1 < W2.heap.size := by omega
      obtain ⟨W3, hW3⟩ : ∃ W3, W2.putObj (B + 1) (.loop { rec .ready none with state := .exhausted }) = W3 := ⟨_, rfl⟩
      have hend' : (Instr.endLoop (B + 1)).run P W2 = .ok none W3 := by rw [hend, ← hW3, hrec]
      have hz3 : W3.heap.size = W2.heap.size := by rw [← hW3]; simp
      have ho3 : ∀ k, k ≠ B + 1 → W3.heap[k]? = W2.heap[k]? := fun k h9 => by rw [← hW3]; exact World.putObj_heap_other h9
      refine ⟨none, W3, hend', hdone r W3 (hI _ _ _ _ hi ⟨by rw [← hW3]; rfl, by rw [← hW3]; rfl, by rw [← hW3]; rfl, by omega, fun k hk9 => ho3 k ?_⟩) (by omega) ((ho3 B (by omega)).trans hk)⟩
      rcases hk9 with h9 | h9
      · omega
      · have := hr k h9; omega

end Go.Proofs.YtjcagkpolfacpaaDoor
