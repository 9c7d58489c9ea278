/-
  The contract of the program's InWay.
-/
import Derived.Test.YtjcagkpolfacpaaWays
import Derived.Test.YtjcagkpolfacpaaTabs
import Derived.Laws.BytesArg
import Derived.Maps.AppendAt
import Derived.Deep.RegionHeld3
import Derived.Deep.AppendLies
import Derived.Deep.DeepMust
namespace Go.Proofs.Ytjcagkpolfacpaa
open Go.RowKit

theorem u8info : (Try.prog.info? 5).map (fun i => (i.zero, i.size, i.bytes)) = some (some (.int .u8 0), 1, 1) := by kernel_rfl

/-- What is held of a text of bytes that grows. -/
def bytesOf (l : List UInt8) : List Value := l.map fun b => .int .u8 b.toNat

theorem conv_own {w : World} {base g k cap : Nat} {l : List UInt8} (h : w.ownsRow base 5 1 (.slice (some ⟨g, 0, none⟩) k cap) k (bytesOf l)) :
    (convert 24 9 (.slice (some ⟨g, 0, none⟩) k cap)).run Try.prog w = .ok (.string (Tw.str l)) w := by
  have hl : l.length = k := by have := h.1; simpa [bytesOf] using this
  have e : Tw.str l = strOfNums (l.map fun b => (b.toNat : Int)) := by
    unfold Tw.str strOfNums
    congr 2
    rw [List.map_map]
    exact (List.map_id l).symm.trans (List.map_congr_left fun b _ => by simp)
  rw [e]
  refine run_convert_bytes_arg w 24 5 Try.underlying24 Try.underlying5 g 0 k cap _ (by simpa using hl) (fun i hi => ?_) 9 Try.underlying9
  have hc := h.cells (g := g) rfl i (.int .u8 (l[i]'(by omega)).toNat) (by simp [bytesOf, List.getElem?_eq_getElem (show i < l.length by omega)])
  have ha : (⟨g, 0, none⟩ : Addr).add i = ⟨g, 0 + i, none⟩ := by unfold Addr.add; split <;> simp_all
  rw [ha] at hc
  rw [hc]
  simp [List.getD, List.getElem?_eq_getElem (show i < l.length by omega)]





end Go.Proofs.Ytjcagkpolfacpaa
