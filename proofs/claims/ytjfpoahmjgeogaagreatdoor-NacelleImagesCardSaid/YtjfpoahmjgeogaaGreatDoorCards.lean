/-
  DERIVED. GIVEN WITH THE SEED: THE CARDS: each row of YtjfpoahmjgeogaaGreatDoorRows.lean that lists a variable, with what it lists TIED to the program's text (the seventh form; the later family's looks); each row that meets fmt, with fmt's text TOLD by the authors' own Lean function (tested against real Go, not proved from fmt's source: count such statements apart). THE CARD IS WHAT COUNTS. Prove the row's statement (the work); the ties are given (YtjfpoahmjgeogaaGreatDoorTie.lean); close each card by the builder's one call (the guide's Derived/Test/ToyasCard.lean, 'card_holds'). Laid BY PROGRAM, IN A SANDBOX (cutbox-door.mjs). By AI agents, Wed Nov 11 2026. No macro, syntax, notation, axiom, sorry.
-/
import Derived.Test.YtjfpoahmjgeogaaGreatDoorRows
import GoSem.ClaimSeven
namespace Go.Proofs.YtjfpoahmjgeogaaGreatDoor
namespace Rows

/-- THE TIED CARD OF 'nacelletop.NacelleImages'. -/
def nacelleImagesCard : Claim7 := { stood := { row := nacelleImagesRow, standIns := [], harness := (true, "10cc12717c72365821789580405bc4a560c0bb696b6f2370a46b62a6164d0b92"), looks := true }, kinds := [], alts := [], laidByText := true, laidKinds := [.data, .data, .handle, .data], laidTests := true, laidLooks := .later }
def NacelleImagesCardSaid : Prop := Claim7.holds Tryz.pinned (.plain (OpenSpec.ofChange nacelleImagesSpec)) nacelleImagesCard

/-- THE SECOND FORM's CARD OF 'nacelletop.NacelleImages'. -/
def nacelleImagesUptoCard : Claim7 := { stood := { row := nacelleImagesUptoRow, standIns := [], harness := (true, "10cc12717c72365821789580405bc4a560c0bb696b6f2370a46b62a6164d0b92"), looks := true }, kinds := [], alts := [], laidByText := true, laidKinds := [.data, .data, .handle, .data], laidTests := true, laidLooks := .later }
def NacelleImagesUptoCardSaid : Prop := Claim7.holds Tryz.pinned (.plain (OpenSpec.upto nacelleImagesSpec)) nacelleImagesUptoCard
end Rows
end Go.Proofs.YtjfpoahmjgeogaaGreatDoor
