/- Boxes known whole; faults. -/
import Derived.Test.YtlecpekgnlaneaaDoorProg
import Derived.WalkKit
import Derived.WalkLawsBesides
import Derived.WalkSpells
import Derived.Deep.Draws
import Derived.Lib.Hide
namespace Nac
open Go Go.RowKit
/-- an int -/
structure I64 (z : Int) : Prop where
  lo : -9223372036854775808 ≤ z
  hi : z ≤ 9223372036854775807
theorem I64.of {z : Int} (h : (Lit.int .i64 z).wf) : I64 z := by
  have : -9223372036854775808 ≤ z ∧ z ≤ 9223372036854775807 := by simpa [Lit.wf, IntKind.min, IntKind.max, IntKind.signed, IntKind.bits] using h
  exact ⟨this.1, this.2⟩
theorem below_drewN {B : Nat} {a w : World} (h : Below B a w) (n : Nat) : Below B a (w.drewN n) := ⟨h.os, h.tape, h.output, h.size, h.block⟩
/-- some one-cell and two-cell boxes, known whole -/
def Box (w : World) (b : Nat) (cs : List Value) : Prop := ∃ t, w.heap[b]? = some (.cells cs.toArray t (0, 0))
section
variable {w w' : World} {b : Nat} {cs : List Value}
theorem Box.lt (h : Box w b cs) : b < w.heap.size := by
  obtain ⟨t, h⟩ := h
  exact (Array.getElem?_eq_some_iff.1 h).1
theorem Box.cell (h : Box w b cs) {j : Nat} {v : Value} (hj : cs[j]? = some v) : w.cell? ⟨b, j, none⟩ = some v := by
  obtain ⟨t, h⟩ := h
  rw [cell_of_row w b j _ t (0, 0) h]
  simpa using hj
theorem Box.below {B : Nat} (h : Box w b cs) (hb : Below B w w') (hB : b < B) : Box w' b cs := by
  obtain ⟨t, h⟩ := h
  exact ⟨t, (hb.block b hB).trans h⟩
theorem Box.new (w : World) (cs : List Value) (t : TypeId) : Box (w.alloc (.cells cs.toArray t)) w.heap.size cs := ⟨t, heap_alloc_new w _⟩
end
end Nac
namespace Go.Proofs.YtlecpekgnlaneaaDoor
open Go.RowKit Nac
/-- what a check comes to: nil, or a fault -/
def ErrV (R : Option (Nat × Nat)) (v : Value) (w : World) : Prop :=
  match R with
  | none => v = .nilIface
  | some (c, i) => ∃ g, v = .iface 58 (.pointer (some ⟨g, 0, none⟩)) ∧ Box w g [.int .i64 c, .int .i64 i, .nilIface]
def RetErr (w : World) (R : Option (Nat × Nat)) (e : Ending) (w' : World) : Prop := (∃ v, e = .returned v ∧ ErrV R v w') ∧ Below w.heap.size w w'
theorem fault_new (w : World) (c i : Nat) (hc : 1 ≤ c) :
    Calls Tryd.prog 14 #[.int .i64 c, .int .i64 i] w (RetErr w (some (c, i))) := by
  go_enter Tryd.func14, Tryd.ntmps14
  go_wp2
  go_ret
  exact ⟨⟨_, rfl, w.heap.size, rfl, Box.new w _ _⟩, (Below.refl _ _).alloc (Nat.le_refl _) _⟩
end Go.Proofs.YtlecpekgnlaneaaDoor
