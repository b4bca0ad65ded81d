/-
  DERIVED. GIVEN WITH THE SEED: THE CARDS: each row of YtiebpmpjclnpeaaDoorRows.lean that lists a variable, with what it lists TIED to the program's text (the seventh form; the later family's looks); each row that meets fmt, with fmt's text TOLD by the authors' own Lean function (tested against real Go, not proved from fmt's source: count such statements apart). THE CARD IS WHAT COUNTS. Prove the row's statement (the work); the ties are given (YtiebpmpjclnpeaaDoorTie.lean); close each card by the builder's one call (the guide's Derived/Test/ToyasCard.lean, 'card_holds'). Laid BY PROGRAM, IN A SANDBOX (cutbox-door.mjs). By AI agents, Wed Nov 11 2026. No macro, syntax, notation, axiom, sorry.
-/
import Derived.Test.YtiebpmpjclnpeaaDoorRows
import GoSem.ClaimSeven
namespace Go.Proofs.YtiebpmpjclnpeaaDoor
namespace Rows

/-- THE TIED CARD OF 'nacelletop.NacelleGuard'. -/
def nacelleGuardCard : Claim7 := { stood := { row := nacelleGuardRow, standIns := [], harness := (true, "717153751f35da024691a44f69e1cacae0bb8e31c089f0538aa2a916f4cb497b"), looks := true }, kinds := [], alts := [], laidByText := true, laidKinds := [.handle], laidTests := true, laidLooks := .later }
def NacelleGuardCardSaid : Prop := Claim7.holds Tryd.pinned (.plain (OpenSpec.ofChange nacelleGuardSpec)) nacelleGuardCard

/-- THE SECOND FORM's CARD OF 'nacelletop.NacelleGuard'. -/
def nacelleGuardUptoCard : Claim7 := { stood := { row := nacelleGuardUptoRow, standIns := [], harness := (true, "717153751f35da024691a44f69e1cacae0bb8e31c089f0538aa2a916f4cb497b"), looks := true }, kinds := [], alts := [], laidByText := true, laidKinds := [.handle], laidTests := true, laidLooks := .later }
def NacelleGuardUptoCardSaid : Prop := Claim7.holds Tryd.pinned (.plain (OpenSpec.upto nacelleGuardSpec)) nacelleGuardUptoCard
end Rows
end Go.Proofs.YtiebpmpjclnpeaaDoor
