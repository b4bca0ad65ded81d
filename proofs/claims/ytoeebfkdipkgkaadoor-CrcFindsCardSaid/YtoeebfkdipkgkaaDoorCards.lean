/-
  DERIVED. GIVEN WITH THE SEED: THE CARDS: each row of YtoeebfkdipkgkaaDoorRows.lean that lists a variable, with what it lists TIED to the program's text (the seventh form; the later family's looks); each row that meets fmt, with fmt's text TOLD by the authors' own Lean function (tested against real Go, not proved from fmt's source: count such statements apart). THE CARD IS WHAT COUNTS. Prove the row's statement (the work); the ties are given (YtoeebfkdipkgkaaDoorTie.lean); close each card by the builder's one call (the guide's Derived/Test/ToyasCard.lean, 'card_holds'). Laid BY PROGRAM, IN A SANDBOX (cutbox-door.mjs). By AI agents, Wed Nov 11 2026. No macro, syntax, notation, axiom, sorry.
-/
import Derived.Test.YtoeebfkdipkgkaaDoorRows
import GoSem.ClaimSeven
namespace Go.Proofs.YtoeebfkdipkgkaaDoor
namespace Rows

/-- THE TIED CARD OF 'nacellelaw03.CrcTells'. -/
def crcTellsCard : Claim7 := { stood := { row := crcTellsRow, standIns := [], harness := (true, "95cae4aaa7878d49f14c79de40ab5d2de1f4e769420e43c9c7b3f35041a59791"), looks := false }, kinds := [], alts := [], laidByText := true, laidKinds := [.data], laidTests := true, laidLooks := .later }
def CrcTellsCardSaid : Prop := Claim7.holds Tryd.pinned (.plain (OpenSpec.ofChange crcTellsSpec)) crcTellsCard

/-- THE TIED CARD OF 'nacellelaw03.CrcOpens'. -/
def crcOpensCard : Claim7 := { stood := { row := crcOpensRow, standIns := [], harness := (true, "95cae4aaa7878d49f14c79de40ab5d2de1f4e769420e43c9c7b3f35041a59791"), looks := false }, kinds := [], alts := [], laidByText := true, laidKinds := [.data], laidTests := true, laidLooks := .later }
def CrcOpensCardSaid : Prop := Claim7.holds Tryd.pinned (.plain (OpenSpec.ofChange crcOpensSpec)) crcOpensCard

/-- THE TIED CARD OF 'nacellelaw03.CrcPieces'. -/
def crcPiecesCard : Claim7 := { stood := { row := crcPiecesRow, standIns := [], harness := (true, "95cae4aaa7878d49f14c79de40ab5d2de1f4e769420e43c9c7b3f35041a59791"), looks := false }, kinds := [], alts := [], laidByText := true, laidKinds := [.data], laidTests := true, laidLooks := .later }
def CrcPiecesCardSaid : Prop := Claim7.holds Tryd.pinned (.plain (OpenSpec.ofChange crcPiecesSpec)) crcPiecesCard

/-- THE TIED CARD OF 'nacellelaw03.CrcLies'. -/
def crcLiesCard : Claim7 := { stood := { row := crcLiesRow, standIns := [], harness := (true, "95cae4aaa7878d49f14c79de40ab5d2de1f4e769420e43c9c7b3f35041a59791"), looks := false }, kinds := [], alts := [], laidByText := true, laidKinds := [.data], laidTests := true, laidLooks := .later }
def CrcLiesCardSaid : Prop := Claim7.holds Tryd.pinned (.plain (OpenSpec.ofChange crcLiesSpec)) crcLiesCard

/-- THE TIED CARD OF 'nacellelaw03.CrcFinds'. -/
def crcFindsCard : Claim7 := { stood := { row := crcFindsRow, standIns := [], harness := (true, "95cae4aaa7878d49f14c79de40ab5d2de1f4e769420e43c9c7b3f35041a59791"), looks := false }, kinds := [], alts := [], laidByText := true, laidKinds := [.data], laidTests := true, laidLooks := .later }
def CrcFindsCardSaid : Prop := Claim7.holds Tryd.pinned (.plain (OpenSpec.ofChange crcFindsSpec)) crcFindsCard

/-- THE TIED CARD OF 'nacellelaw03.CrcOwn'. -/
def crcOwnCard : Claim7 := { stood := { row := crcOwnRow, standIns := [], harness := (true, "95cae4aaa7878d49f14c79de40ab5d2de1f4e769420e43c9c7b3f35041a59791"), looks := false }, kinds := [], alts := [], laidByText := true, laidKinds := [.data], laidTests := true, laidLooks := .later }
def CrcOwnCardSaid : Prop := Claim7.holds Tryd.pinned (.plain (OpenSpec.ofChange crcOwnSpec)) crcOwnCard

/-- THE SECOND FORM's CARD OF 'nacellelaw03.CrcTells'. -/
def crcTellsUptoCard : Claim7 := { stood := { row := crcTellsUptoRow, standIns := [], harness := (true, "95cae4aaa7878d49f14c79de40ab5d2de1f4e769420e43c9c7b3f35041a59791"), looks := false }, kinds := [], alts := [], laidByText := true, laidKinds := [.data], laidTests := true, laidLooks := .later }
def CrcTellsUptoCardSaid : Prop := Claim7.holds Tryd.pinned (.plain (OpenSpec.upto crcTellsSpec)) crcTellsUptoCard

/-- THE SECOND FORM's CARD OF 'nacellelaw03.CrcOpens'. -/
def crcOpensUptoCard : Claim7 := { stood := { row := crcOpensUptoRow, standIns := [], harness := (true, "95cae4aaa7878d49f14c79de40ab5d2de1f4e769420e43c9c7b3f35041a59791"), looks := false }, kinds := [], alts := [], laidByText := true, laidKinds := [.data], laidTests := true, laidLooks := .later }
def CrcOpensUptoCardSaid : Prop := Claim7.holds Tryd.pinned (.plain (OpenSpec.upto crcOpensSpec)) crcOpensUptoCard

/-- THE SECOND FORM's CARD OF 'nacellelaw03.CrcPieces'. -/
def crcPiecesUptoCard : Claim7 := { stood := { row := crcPiecesUptoRow, standIns := [], harness := (true, "95cae4aaa7878d49f14c79de40ab5d2de1f4e769420e43c9c7b3f35041a59791"), looks := false }, kinds := [], alts := [], laidByText := true, laidKinds := [.data], laidTests := true, laidLooks := .later }
def CrcPiecesUptoCardSaid : Prop := Claim7.holds Tryd.pinned (.plain (OpenSpec.upto crcPiecesSpec)) crcPiecesUptoCard

/-- THE SECOND FORM's CARD OF 'nacellelaw03.CrcLies'. -/
def crcLiesUptoCard : Claim7 := { stood := { row := crcLiesUptoRow, standIns := [], harness := (true, "95cae4aaa7878d49f14c79de40ab5d2de1f4e769420e43c9c7b3f35041a59791"), looks := false }, kinds := [], alts := [], laidByText := true, laidKinds := [.data], laidTests := true, laidLooks := .later }
def CrcLiesUptoCardSaid : Prop := Claim7.holds Tryd.pinned (.plain (OpenSpec.upto crcLiesSpec)) crcLiesUptoCard

/-- THE SECOND FORM's CARD OF 'nacellelaw03.CrcFinds'. -/
def crcFindsUptoCard : Claim7 := { stood := { row := crcFindsUptoRow, standIns := [], harness := (true, "95cae4aaa7878d49f14c79de40ab5d2de1f4e769420e43c9c7b3f35041a59791"), looks := false }, kinds := [], alts := [], laidByText := true, laidKinds := [.data], laidTests := true, laidLooks := .later }
def CrcFindsUptoCardSaid : Prop := Claim7.holds Tryd.pinned (.plain (OpenSpec.upto crcFindsSpec)) crcFindsUptoCard

/-- THE SECOND FORM's CARD OF 'nacellelaw03.CrcOwn'. -/
def crcOwnUptoCard : Claim7 := { stood := { row := crcOwnUptoRow, standIns := [], harness := (true, "95cae4aaa7878d49f14c79de40ab5d2de1f4e769420e43c9c7b3f35041a59791"), looks := false }, kinds := [], alts := [], laidByText := true, laidKinds := [.data], laidTests := true, laidLooks := .later }
def CrcOwnUptoCardSaid : Prop := Claim7.holds Tryd.pinned (.plain (OpenSpec.upto crcOwnSpec)) crcOwnUptoCard
end Rows
end Go.Proofs.YtoeebfkdipkgkaaDoor
