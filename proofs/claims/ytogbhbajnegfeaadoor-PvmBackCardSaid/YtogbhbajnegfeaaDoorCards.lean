/-
  DERIVED. GIVEN WITH THE SEED: THE CARDS: each row of YtogbhbajnegfeaaDoorRows.lean that lists a variable, with what it lists TIED to the program's text (the seventh form; the later family's looks); each row that meets fmt, with fmt's text TOLD by the authors' own Lean function (tested against real Go, not proved from fmt's source: count such statements apart). THE CARD IS WHAT COUNTS. Prove the row's statement (the work); the ties are given (YtogbhbajnegfeaaDoorTie.lean); close each card by the builder's one call (the guide's Derived/Test/ToyasCard.lean, 'card_holds'). Laid BY PROGRAM, IN A SANDBOX (cutbox-door.mjs). By AI agents, Wed Nov 11 2026. No macro, syntax, notation, axiom, sorry.
-/
import Derived.Test.YtogbhbajnegfeaaDoorRows
import GoSem.ClaimSeven
namespace Go.Proofs.YtogbhbajnegfeaaDoor
namespace Rows

/-- THE TIED CARD OF 'nacellelaw08.PvmNames'. -/
def pvmNamesCard : Claim7 := { stood := { row := pvmNamesRow, standIns := [], harness := (true, "63f3b639ac30f1880a7c9e30146930cf5f79f7bf5cbd29fb3d34649bc987b51c"), looks := true }, kinds := [], alts := [], laidByText := true, laidKinds := [.handle], laidTests := true, laidLooks := .later }
def PvmNamesCardSaid : Prop := Claim7.holds Tryd.pinned (.plain (OpenSpec.ofChange pvmNamesSpec)) pvmNamesCard

/-- THE TIED CARD OF 'nacellelaw08.PvmConfined'. -/
def pvmConfinedCard : Claim7 := { stood := { row := pvmConfinedRow, standIns := [], harness := (true, "63f3b639ac30f1880a7c9e30146930cf5f79f7bf5cbd29fb3d34649bc987b51c"), looks := true }, kinds := [], alts := [], laidByText := true, laidKinds := [.handle], laidTests := true, laidLooks := .later }
def PvmConfinedCardSaid : Prop := Claim7.holds Tryd.pinned (.plain (OpenSpec.ofChange pvmConfinedSpec)) pvmConfinedCard

/-- THE TIED CARD OF 'nacellelaw08.PvmChecked'. -/
def pvmCheckedCard : Claim7 := { stood := { row := pvmCheckedRow, standIns := [], harness := (true, "63f3b639ac30f1880a7c9e30146930cf5f79f7bf5cbd29fb3d34649bc987b51c"), looks := true }, kinds := [], alts := [], laidByText := true, laidKinds := [.handle], laidTests := true, laidLooks := .later }
def PvmCheckedCardSaid : Prop := Claim7.holds Tryd.pinned (.plain (OpenSpec.ofChange pvmCheckedSpec)) pvmCheckedCard

/-- THE TIED CARD OF 'nacellelaw08.PvmBack'. -/
def pvmBackCard : Claim7 := { stood := { row := pvmBackRow, standIns := [], harness := (true, "63f3b639ac30f1880a7c9e30146930cf5f79f7bf5cbd29fb3d34649bc987b51c"), looks := true }, kinds := [], alts := [], laidByText := true, laidKinds := [.handle], laidTests := true, laidLooks := .later }
def PvmBackCardSaid : Prop := Claim7.holds Tryd.pinned (.plain (OpenSpec.ofChange pvmBackSpec)) pvmBackCard

/-- THE SECOND FORM's CARD OF 'nacellelaw08.PvmNames'. -/
def pvmNamesUptoCard : Claim7 := { stood := { row := pvmNamesUptoRow, standIns := [], harness := (true, "63f3b639ac30f1880a7c9e30146930cf5f79f7bf5cbd29fb3d34649bc987b51c"), looks := true }, kinds := [], alts := [], laidByText := true, laidKinds := [.handle], laidTests := true, laidLooks := .later }
def PvmNamesUptoCardSaid : Prop := Claim7.holds Tryd.pinned (.plain (OpenSpec.upto pvmNamesSpec)) pvmNamesUptoCard

/-- THE SECOND FORM's CARD OF 'nacellelaw08.PvmConfined'. -/
def pvmConfinedUptoCard : Claim7 := { stood := { row := pvmConfinedUptoRow, standIns := [], harness := (true, "63f3b639ac30f1880a7c9e30146930cf5f79f7bf5cbd29fb3d34649bc987b51c"), looks := true }, kinds := [], alts := [], laidByText := true, laidKinds := [.handle], laidTests := true, laidLooks := .later }
def PvmConfinedUptoCardSaid : Prop := Claim7.holds Tryd.pinned (.plain (OpenSpec.upto pvmConfinedSpec)) pvmConfinedUptoCard

/-- THE SECOND FORM's CARD OF 'nacellelaw08.PvmChecked'. -/
def pvmCheckedUptoCard : Claim7 := { stood := { row := pvmCheckedUptoRow, standIns := [], harness := (true, "63f3b639ac30f1880a7c9e30146930cf5f79f7bf5cbd29fb3d34649bc987b51c"), looks := true }, kinds := [], alts := [], laidByText := true, laidKinds := [.handle], laidTests := true, laidLooks := .later }
def PvmCheckedUptoCardSaid : Prop := Claim7.holds Tryd.pinned (.plain (OpenSpec.upto pvmCheckedSpec)) pvmCheckedUptoCard

/-- THE SECOND FORM's CARD OF 'nacellelaw08.PvmBack'. -/
def pvmBackUptoCard : Claim7 := { stood := { row := pvmBackUptoRow, standIns := [], harness := (true, "63f3b639ac30f1880a7c9e30146930cf5f79f7bf5cbd29fb3d34649bc987b51c"), looks := true }, kinds := [], alts := [], laidByText := true, laidKinds := [.handle], laidTests := true, laidLooks := .later }
def PvmBackUptoCardSaid : Prop := Claim7.holds Tryd.pinned (.plain (OpenSpec.upto pvmBackSpec)) pvmBackUptoCard
end Rows
end Go.Proofs.YtogbhbajnegfeaaDoor
