/- The handle of the type 'error', listed and tied: what the row's condition gives; a world for the witness. -/
import Derived.Test.YtlecpekgnlaneaaDoorCards
import Derived.Test.YtlecpekgnlaneaaDoorTie
import Derived.Test.YtlecpekgnlaneaaDoorAs
import Derived.Test.YtlecpekgnlaneaaDoorPost
import Derived.Test.YtlecpekgnlaneaaDoorHdl
import Derived.Deep.DeepHandedRow
import Derived.Lib.LaidTab
import Derived.LaidHandle
import Derived.Stop.Joined
import Derived.SizedLaws
namespace Go.Proofs.YtlecpekgnlaneaaDoor
open Go.ChangeShapes Go.WideShapes Go.ChangeAt Go.RowKit Nac
theorem own : ownKnob Tryd.prog.godebug = none := by kernel_rfl
theorem laidOut_ok : laidOutB Tryd.prog = true := by kernel_rfl
theorem hEt : Tryd.prog.globalNamed "errors.errorType" = some 0 := by kernel_rfl
theorem hRt : (Tryd.prog.cutTypes.find? (·.1 == "internal/reflectlite.rtype")).map (·.2) = some 99 := by kernel_rfl
theorem hOneRow : ((List.range Tryd.prog.types.size).filter fun t => Tryd.prog.rowNamed t [101, 114, 114, 111, 114]) = [25] := by kernel_rfl
theorem hdl_of_laid {W : World} (h : laidMetH Tryd.prog [("errors.errorType", Rows.laid_errors_errorType)] W) : Hdl W := by
  have h' : laidMet Tryd.prog [] W ∧ handlesMet Tryd.prog [("errors.errorType", Rows.laid_errors_errorType)] W := h
  obtain ⟨name, u, ty, e1, e2, e3, e4, e5⟩ := h'.2 _ (List.mem_singleton.2 rfl)
  have en : name = [101, 114, 114, 111, 114] := (Option.some.inj e1).symm
  subst en
  obtain rfl := Option.some.inj (hRt.symm.trans e2)
  have hm : ty ∈ (List.range Tryd.prog.types.size).filter fun t => Tryd.prog.rowNamed t [101, 114, 114, 111, 114] := List.mem_filter.2 ⟨List.mem_range.2 e3, e4⟩
  rw [hOneRow] at hm
  obtain rfl := List.mem_singleton.1 hm
  have hh : typeHandle Tryd.prog 25 = .pointer (some ⟨1, 25, none⟩) := by kernel_rfl
  rw [hh] at e5
  unfold Hdl
  simpa using World.var?_cell hEt e5 0
/-- A WORLD FOR THE WITNESS: the settled one, the variable's cell laid. -/
noncomputable def laidWorld (os : Os) : World :=
  { World.holding Tryd.prog os ⟨#[], #[], []⟩ with heap := (World.holding Tryd.prog os ⟨#[], #[], []⟩).heap.modify 0 fun
      | .cells _ t frozen => .cells #[.iface 99 (.agg #[.pointer (some ⟨1, 25, none⟩)])] t frozen
      | o => o }
end Go.Proofs.YtlecpekgnlaneaaDoor
