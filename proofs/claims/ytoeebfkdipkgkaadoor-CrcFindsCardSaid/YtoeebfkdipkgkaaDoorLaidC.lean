/- The table of crc, listed and tied: what the row's condition gives; a world for the witness. -/
import Derived.Test.YtoeebfkdipkgkaaDoorCards
import Derived.Test.YtoeebfkdipkgkaaDoorTie
import Derived.Test.YtoeebfkdipkgkaaDoorCrcOn
import Derived.Test.YtoeebfkdipkgkaaDoorOpenB
import Derived.Deep.DeepHandedRow
import Derived.Lib.LaidTab
namespace Go.Proofs.YtoeebfkdipkgkaaDoor
open Go.ChangeShapes Go.WideShapes Go.ChangeAt Go.RowKit Nac Nac.Crc
theorem own : ownKnob Tryd.prog.godebug = none := by kernel_rfl
theorem gTab : Tryd.prog.globalNamed "nacelle/crc.nibbles" = some 0 := by kernel_rfl
theorem gTabType : (Tryd.prog.globals[0]?).map (·.type) = some 42 := by kernel_rfl
theorem cellsTab : Tryd.prog.cellsOf 42 = 16 := by kernel_rfl
theorem cellsWord : Tryd.prog.cellsOf 22 = 1 := by kernel_rfl
def nibI : List Int := [0, 274646895, 549293790, 820201905, 1098587580, 1361435347, 1640403810, 1905808397, 2197175160, 2460548119, 2722870694, 2987750089, 3280807620, 3553878443, 3811616794, 4084100981]
theorem nibI_eq : ∀ j : Fin 16, nibI.getD j.val 0 = ((table.getD j.val 0 : Nat) : Int) := by decide
theorem nib_met {W : World} (h : laidMetH Tryd.prog [("nacelle/crc.nibbles", Rows.laid_nacelle_crc_nibbles)] W) : Nib W := by
  have t : Lib.TabIs Tryd.prog W "nacelle/crc.nibbles" .u32 nibI :=
    Lib.tabIs_of_head (rest := []) gTab gTabType Tryd.underlying42 Tryd.underlying22 cellsWord cellsTab h
  intro j hj
  have := t.cell gTab j (by simpa [nibI] using hj)
  rw [this]
  have e := nibI_eq ⟨j, hj⟩
  simp only at e
  rw [e]
theorem nib_lt {W : World} (h : Nib W) : 0 < W.heap.size := block_lt_of_cell (h 0 (by decide))
/-- A WORLD FOR THE WITNESS: the settled one, the table holding what its initialiser lays. -/
noncomputable def laidWorld (os : Os) : World :=
  { World.holding Tryd.prog os ⟨#[], #[], []⟩ with heap := (World.holding Tryd.prog os ⟨#[], #[], []⟩).heap.modify 0 fun
      | .cells _ t frozen => .cells (nibI.map (Value.int .u32)).toArray t frozen
      | o => o }
theorem laidOut_ok : laidOutB Tryd.prog = true := by kernel_rfl
end Go.Proofs.YtoeebfkdipkgkaaDoor
