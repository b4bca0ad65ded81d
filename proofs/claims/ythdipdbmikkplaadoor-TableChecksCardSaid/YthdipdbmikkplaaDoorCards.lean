/-
  DERIVED. GIVEN WITH THE SEED: THE CARDS: each row of YthdipdbmikkplaaDoorRows.lean that lists a variable, with what it lists TIED to the program's text (the seventh form; the later family's looks); each row that meets fmt, with fmt's text TOLD by the authors' own Lean function (tested against real Go, not proved from fmt's source: count such statements apart). THE CARD IS WHAT COUNTS. Prove the row's statement (the work); the ties are given (YthdipdbmikkplaaDoorTie.lean); close each card by the builder's one call (the guide's Derived/Test/ToyasCard.lean, 'card_holds'). Laid BY PROGRAM, IN A SANDBOX (cutbox-door.mjs). By AI agents, Wed Nov 11 2026. No macro, syntax, notation, axiom, sorry.
-/
import Derived.Test.YthdipdbmikkplaaDoorRows
import GoSem.ClaimSeven
namespace Go.Proofs.YthdipdbmikkplaaDoor
namespace Rows

/-- THE TIED CARD OF 'nacellelaw11.TableChecks'. -/
def tableChecksCard : Claim7 := { stood := { row := tableChecksRow, standIns := [], harness := (true, "e8453fb6141d7a1ac32c8b1a286267bd950a5d28f56630b7b62d51d9a46ae925"), looks := true }, kinds := [], alts := [], laidByText := true, laidKinds := [.handle], laidTests := true, laidLooks := .later }
def TableChecksCardSaid : Prop := Claim7.holds Tryd.pinned (.plain (OpenSpec.ofChange tableChecksSpec)) tableChecksCard

/-- THE SECOND FORM's CARD OF 'nacellelaw11.TableChecks'. -/
def tableChecksUptoCard : Claim7 := { stood := { row := tableChecksUptoRow, standIns := [], harness := (true, "e8453fb6141d7a1ac32c8b1a286267bd950a5d28f56630b7b62d51d9a46ae925"), looks := true }, kinds := [], alts := [], laidByText := true, laidKinds := [.handle], laidTests := true, laidLooks := .later }
def TableChecksUptoCardSaid : Prop := Claim7.holds Tryd.pinned (.plain (OpenSpec.upto tableChecksSpec)) tableChecksUptoCard
end Rows
end Go.Proofs.YthdipdbmikkplaaDoor
