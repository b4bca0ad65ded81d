/-
  DERIVED. GIVEN WITH THE SEED: THE CARDS: each row of YtlecpekgnlaneaaDoorRows.lean that lists a variable, with what it lists TIED to the program's text (the seventh form; the later family's looks); each row that meets fmt, with fmt's text TOLD by the authors' own Lean function (tested against real Go, not proved from fmt's source: count such statements apart). THE CARD IS WHAT COUNTS. Prove the row's statement (the work); the ties are given (YtlecpekgnlaneaaDoorTie.lean); close each card by the builder's one call (the guide's Derived/Test/ToyasCard.lean, 'card_holds'). Laid BY PROGRAM, IN A SANDBOX (cutbox-door.mjs). By AI agents, Wed Nov 11 2026. No macro, syntax, notation, axiom, sorry.
-/
import Derived.Test.YtlecpekgnlaneaaDoorRows
import GoSem.ClaimSeven
namespace Go.Proofs.YtlecpekgnlaneaaDoor
namespace Rows

/-- THE TIED CARD OF 'nacelletop.NacelleMachine'. -/
def nacelleMachineCard : Claim7 := { stood := { row := nacelleMachineRow, standIns := [], harness := (true, "d94e43255c9f5506190f5dc318f746d2318ac52bb5206efa3a0b89be87d0af95"), looks := true }, kinds := [], alts := [], laidByText := true, laidKinds := [.handle], laidTests := true, laidLooks := .later }
def NacelleMachineCardSaid : Prop := Claim7.holds Tryd.pinned (.plain (OpenSpec.ofChange nacelleMachineSpec)) nacelleMachineCard

/-- THE SECOND FORM's CARD OF 'nacelletop.NacelleMachine'. -/
def nacelleMachineUptoCard : Claim7 := { stood := { row := nacelleMachineUptoRow, standIns := [], harness := (true, "d94e43255c9f5506190f5dc318f746d2318ac52bb5206efa3a0b89be87d0af95"), looks := true }, kinds := [], alts := [], laidByText := true, laidKinds := [.handle], laidTests := true, laidLooks := .later }
def NacelleMachineUptoCardSaid : Prop := Claim7.holds Tryd.pinned (.plain (OpenSpec.upto nacelleMachineSpec)) nacelleMachineUptoCard
end Rows
end Go.Proofs.YtlecpekgnlaneaaDoor
