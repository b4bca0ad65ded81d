/-
  DERIVED. GIVEN WITH THE SEED: THE PROGRAM's TIES (one call each: nine closed facts by the kernel) AND EACH ROW's TIE, after the 31st guide's Derived/Test/Toyas{Tie, Card}.lean. No idea stands in it: it is a product of the set-up. Laid BY PROGRAM, IN A SANDBOX (cutbox-door.mjs). By AI agents, Wed Nov 11 2026. No macro, syntax, notation, axiom, sorry.
-/
import Derived.Test.YtjfpoahmjgeogaaGreatDoorRows
import Derived.LaidByTextLater
import Derived.SevenTiedAt
import Derived.LaidSub
import Derived.LaidOnce
namespace Go.Proofs.YtjfpoahmjgeogaaGreatDoor
open Go
set_option maxRecDepth 100000
theorem seatTie1 : Tryz.prog.laidByTextLater [("nacelle/sha.initial", Rows.laid_nacelle_sha_initial), ("nacelle/sha.constants", Rows.laid_nacelle_sha_constants), ("errors.errorType", Rows.laid_errors_errorType), ("nacelle/crc.nibbles", Rows.laid_nacelle_crc_nibbles)] [.data, .data, .handle, .data] true :=
  Program.laidByTextLater_by_one 31 8 65 (by kernel_rfl) (by kernel_rfl) (by kernel_rfl) (by kernel_rfl) (by kernel_rfl) (by kernel_rfl) (fun _ _ => by kernel_rfl)
theorem noOwnUnsafe : Tryz.pinned.checked.prog.headLifts.contains "ownunsafe" = false := by kernel_rfl
theorem tie : Tryz.prog.laidByTextLater [("nacelle/sha.initial", Rows.laid_nacelle_sha_initial), ("nacelle/sha.constants", Rows.laid_nacelle_sha_constants), ("errors.errorType", Rows.laid_errors_errorType), ("nacelle/crc.nibbles", Rows.laid_nacelle_crc_nibbles)] [.data, .data, .handle, .data] true :=
  Program.laidByTextLater.sub seatTie1 ["nacelle/sha.initial", "nacelle/sha.constants", "errors.errorType", "nacelle/crc.nibbles"] (by kernel_rfl) (by kernel_rfl)
theorem nacelleImages_row_tie : Rows.nacelleImagesRow.laidByTextAt .later Tryz.pinned [.data, .data, .handle, .data] true :=
  OpenClaim.laidByTextAt_later rfl rfl tie noOwnUnsafe
theorem nacelleImagesUpto_row_tie : Rows.nacelleImagesUptoRow.laidByTextAt .later Tryz.pinned [.data, .data, .handle, .data] true :=
  OpenClaim.laidByTextAt_later rfl rfl tie noOwnUnsafe
end Go.Proofs.YtjfpoahmjgeogaaGreatDoor
