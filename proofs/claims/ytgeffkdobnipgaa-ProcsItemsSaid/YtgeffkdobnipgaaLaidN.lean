/- No table is laid in this seat: a world for the witness. -/
import Derived.Test.YtgeffkdobnipgaaRows
import Derived.Test.YtgeffkdobnipgaaPost
import Derived.Deep.DeepHandedRow
import Derived.Lib.LaidTab
import Derived.SizedLaws
namespace Go.Proofs.Ytgeffkdobnipgaa
open Go.ChangeShapes Go.WideShapes Go.ChangeAt Go.RowKit Nac
theorem own : ownKnob Try.prog.godebug = none := by kernel_rfl
/-- A WORLD FOR THE WITNESS: the settled one. -/
noncomputable def laidWorld (os : Os) : World := World.holding Try.prog os ⟨#[], #[], []⟩
theorem laidOut_ok : laidOutB Try.prog = true := by kernel_rfl
end Go.Proofs.Ytgeffkdobnipgaa
