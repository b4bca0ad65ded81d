/-
  DERIVED. GIVEN WITH THE SEED: THE CARDS: each row of YtpbalgnfeabhgaaDoorRows.lean that lists a variable, with what it lists TIED to the program's text (the seventh form; the later family's looks); each row that meets fmt, with fmt's text TOLD by the authors' own Lean function (tested against real Go, not proved from fmt's source: count such statements apart). THE CARD IS WHAT COUNTS. Prove the row's statement (the work); the ties are given (YtpbalgnfeabhgaaDoorTie.lean); close each card by the builder's one call (the guide's Derived/Test/ToyasCard.lean, 'card_holds'). Laid BY PROGRAM, IN A SANDBOX (cutbox-door.mjs). By AI agents, Wed Nov 11 2026. No macro, syntax, notation, axiom, sorry.
-/
import Derived.Test.YtpbalgnfeabhgaaDoorRows
import GoSem.ClaimSeven
namespace Go.Proofs.YtpbalgnfeabhgaaDoor
namespace Rows

/-- THE TIED CARD OF 'nacellelaw02.OctetPuts'. -/
def octetPutsCard : Claim7 := { stood := { row := octetPutsRow, standIns := [], harness := (true, "c7fe89163f075e20cf084e7f3ac7a4f666e1a6b6dbde107e2975a9a151752bb1"), looks := true }, kinds := [], alts := [], laidByText := true, laidKinds := [.handle], laidTests := true, laidLooks := .later }
def OctetPutsCardSaid : Prop := Claim7.holds Tryd.pinned (.plain (OpenSpec.ofChange octetPutsSpec)) octetPutsCard

/-- THE TIED CARD OF 'nacellelaw02.OctetGets'. -/
def octetGetsCard : Claim7 := { stood := { row := octetGetsRow, standIns := [], harness := (true, "c7fe89163f075e20cf084e7f3ac7a4f666e1a6b6dbde107e2975a9a151752bb1"), looks := true }, kinds := [], alts := [], laidByText := true, laidKinds := [.handle], laidTests := true, laidLooks := .later }
def OctetGetsCardSaid : Prop := Claim7.holds Tryd.pinned (.plain (OpenSpec.ofChange octetGetsSpec)) octetGetsCard

/-- THE TIED CARD OF 'nacellelaw02.OctetUnlike'. -/
def octetUnlikeCard : Claim7 := { stood := { row := octetUnlikeRow, standIns := [], harness := (true, "c7fe89163f075e20cf084e7f3ac7a4f666e1a6b6dbde107e2975a9a151752bb1"), looks := true }, kinds := [], alts := [], laidByText := true, laidKinds := [.handle], laidTests := true, laidLooks := .later }
def OctetUnlikeCardSaid : Prop := Claim7.holds Tryd.pinned (.plain (OpenSpec.ofChange octetUnlikeSpec)) octetUnlikeCard

/-- THE TIED CARD OF 'nacellelaw02.OctetOwn'. -/
def octetOwnCard : Claim7 := { stood := { row := octetOwnRow, standIns := [], harness := (true, "c7fe89163f075e20cf084e7f3ac7a4f666e1a6b6dbde107e2975a9a151752bb1"), looks := true }, kinds := [], alts := [], laidByText := true, laidKinds := [.handle], laidTests := true, laidLooks := .later }
def OctetOwnCardSaid : Prop := Claim7.holds Tryd.pinned (.plain (OpenSpec.ofChange octetOwnSpec)) octetOwnCard

/-- THE TIED CARD OF 'nacellelaw02.OctetBack'. -/
def octetBackCard : Claim7 := { stood := { row := octetBackRow, standIns := [], harness := (true, "c7fe89163f075e20cf084e7f3ac7a4f666e1a6b6dbde107e2975a9a151752bb1"), looks := true }, kinds := [], alts := [], laidByText := true, laidKinds := [.handle], laidTests := true, laidLooks := .later }
def OctetBackCardSaid : Prop := Claim7.holds Tryd.pinned (.plain (OpenSpec.ofChange octetBackSpec)) octetBackCard

/-- THE SECOND FORM's CARD OF 'nacellelaw02.OctetPuts'. -/
def octetPutsUptoCard : Claim7 := { stood := { row := octetPutsUptoRow, standIns := [], harness := (true, "c7fe89163f075e20cf084e7f3ac7a4f666e1a6b6dbde107e2975a9a151752bb1"), looks := true }, kinds := [], alts := [], laidByText := true, laidKinds := [.handle], laidTests := true, laidLooks := .later }
def OctetPutsUptoCardSaid : Prop := Claim7.holds Tryd.pinned (.plain (OpenSpec.upto octetPutsSpec)) octetPutsUptoCard

/-- THE SECOND FORM's CARD OF 'nacellelaw02.OctetGets'. -/
def octetGetsUptoCard : Claim7 := { stood := { row := octetGetsUptoRow, standIns := [], harness := (true, "c7fe89163f075e20cf084e7f3ac7a4f666e1a6b6dbde107e2975a9a151752bb1"), looks := true }, kinds := [], alts := [], laidByText := true, laidKinds := [.handle], laidTests := true, laidLooks := .later }
def OctetGetsUptoCardSaid : Prop := Claim7.holds Tryd.pinned (.plain (OpenSpec.upto octetGetsSpec)) octetGetsUptoCard

/-- THE SECOND FORM's CARD OF 'nacellelaw02.OctetUnlike'. -/
def octetUnlikeUptoCard : Claim7 := { stood := { row := octetUnlikeUptoRow, standIns := [], harness := (true, "c7fe89163f075e20cf084e7f3ac7a4f666e1a6b6dbde107e2975a9a151752bb1"), looks := true }, kinds := [], alts := [], laidByText := true, laidKinds := [.handle], laidTests := true, laidLooks := .later }
def OctetUnlikeUptoCardSaid : Prop := Claim7.holds Tryd.pinned (.plain (OpenSpec.upto octetUnlikeSpec)) octetUnlikeUptoCard

/-- THE SECOND FORM's CARD OF 'nacellelaw02.OctetOwn'. -/
def octetOwnUptoCard : Claim7 := { stood := { row := octetOwnUptoRow, standIns := [], harness := (true, "c7fe89163f075e20cf084e7f3ac7a4f666e1a6b6dbde107e2975a9a151752bb1"), looks := true }, kinds := [], alts := [], laidByText := true, laidKinds := [.handle], laidTests := true, laidLooks := .later }
def OctetOwnUptoCardSaid : Prop := Claim7.holds Tryd.pinned (.plain (OpenSpec.upto octetOwnSpec)) octetOwnUptoCard

/-- THE SECOND FORM's CARD OF 'nacellelaw02.OctetBack'. -/
def octetBackUptoCard : Claim7 := { stood := { row := octetBackUptoRow, standIns := [], harness := (true, "c7fe89163f075e20cf084e7f3ac7a4f666e1a6b6dbde107e2975a9a151752bb1"), looks := true }, kinds := [], alts := [], laidByText := true, laidKinds := [.handle], laidTests := true, laidLooks := .later }
def OctetBackUptoCardSaid : Prop := Claim7.holds Tryd.pinned (.plain (OpenSpec.upto octetBackSpec)) octetBackUptoCard
end Rows
end Go.Proofs.YtpbalgnfeabhgaaDoor
