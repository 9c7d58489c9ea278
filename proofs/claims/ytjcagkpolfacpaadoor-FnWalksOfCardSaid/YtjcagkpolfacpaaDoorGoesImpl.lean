/-
  Contracts of the program's GoesOn and CaughtOk.
-/
import Derived.Test.YtjcagkpolfacpaaDoorGoes
import Derived.Test.YtjcagkpolfacpaaDoorEnd
import Derived.Test.YtjcagkpolfacpaaDoorBuilder
import Derived.Test.YtjcagkpolfacpaaDoorShelf
import Derived.Deep.RegionHeld3
namespace Go.Proofs.YtjcagkpolfacpaaDoor
open Go.RowKit Go.Maps Go.WideMaps

theorem has_place {ps : List (Int × Int)} {q : Int × Int} (h : ∀ p ∈ ps, near p) (hq : near q) : Maps.has (placeSet ps) (placeKey q) = ps.contains q := by
  unfold placeSet
  rw [has_setOf _ _ _ (fun x hx => by
    obtain ⟨p, _, rfl⟩ := List.mem_map.1 hx
    exact isKey_place p), Bool.eq_iff_iff, any_same _ _ (isKey_place q), List.mem_map, List.contains_iff_mem]
  constructor
  · rintro ⟨p, hp, e⟩
    rwa [← placeKey_inj (h p hp) hq e]
  · intro hm
    exact ⟨q, hm, rfl⟩
theorem zeroUnit (W : World) : (zeroValue 55).run Tryd.prog W = .ok (.agg #[]) W := by kernel_rfl
theorem look_run {W : World} {m k : Nat} {D : DataW Unit} {key : Value} {kl : Lit} {b : Bool} (h : W.ownsMap Tryd.prog 54 unitElem m k D) (hkey : keyOf Tryd.prog 54 key = some kl) (hb : Maps.has D kl = b) :
    (Instr.lookup 56 (.map (some m)) key true).run Tryd.prog W = .ok (.tuple #[.agg #[], .bool b]) W := by
  obtain ⟨v, ps, hrun, hv⟩ := h.look_ok placeLaw Tryd.underlying56 (zeroUnit W) unitElem_mk hkey
  obtain ⟨rfl, _⟩ := unitElem_inv hv
  rw [hrun, hb]
theorem goesTo_more {l : List UInt8} {k : Nat} {c : UInt8} (hc : Tw.order[k]? = some c) (h : Tw.avoids (l ++ [c]) = true) : Tw.goesTo l (k + 1) = Tw.goesTo l k ++ [c] := by
  obtain ⟨hk, e⟩ := List.getElem?_eq_some_iff.1 hc
  have hk4 : k < 4 := hk
  rw [Tw.goesTo_succ l k hk4]
  simp [e, h]
theorem bytes_snoc (l : List UInt8) (c : UInt8) : Lib.byteCells (l ++ [c]) = Lib.byteCells l ++ [.int .u8 c.toNat] := by simp [Lib.byteCells]

theorem cell_alloc_old {w : World} {b j : Nat} (h : b < w.heap.size) (o : Obj) : (w.alloc o).cell? ⟨b, j, none⟩ = w.cell? ⟨b, j, none⟩ := ((Below.refl w.heap.size w).alloc (Nat.le_refl _) o).cell (p := ⟨b, j, none⟩) h




end Go.Proofs.YtjcagkpolfacpaaDoor
