/- The handle of the type 'error' in its variable. -/
import Derived.Test.YtlecpekgnlaneaaDoorProg
import Derived.WalkKit
namespace Go.Proofs.YtlecpekgnlaneaaDoor
open Go.RowKit
/-- the handle of the type 'error' lies in its variable -/
def Hdl (w : World) : Prop := w.cell? ⟨0, 0, none⟩ = some (.iface 99 (.agg #[.pointer (some ⟨1, 25, none⟩)]))
theorem Hdl.lt {w : World} (h : Hdl w) : 0 < w.heap.size := by
  rcases Nat.eq_zero_or_pos w.heap.size with h0 | h'
  · simp [Hdl, World.cell?, h0] at h
  · exact h'
theorem Hdl.below {w w' : World} {B : Nat} (h : Hdl w) (hb : Below B w w') (hB : 0 < B) : Hdl w' := (hb.cell (p := ⟨0, 0, none⟩) hB).trans h
end Go.Proofs.YtlecpekgnlaneaaDoor
