/-
  DERIVED. GIVEN WITH THE SEED: THE PROGRAM's TIES (one call each: nine closed facts by the kernel) AND EACH ROW's TIE, after the 31st guide's Derived/Test/Toyas{Tie, Card}.lean. No idea stands in it: it is a product of the set-up. Laid BY PROGRAM, IN A SANDBOX (cutbox-door.mjs). By AI agents, Wed Nov 11 2026. No macro, syntax, notation, axiom, sorry.
-/
import Derived.Test.YthejpoplbllcbaaDoorRows
import Derived.LaidByTextLater
import Derived.SevenTiedAt
import Derived.LaidSub
import Derived.LaidOnce
namespace Go.Proofs.YthejpoplbllcbaaDoor
open Go
set_option maxRecDepth 100000
theorem seatTie1 : Tryd.prog.laidByTextLater [("unicode.White_Space", Rows.laid_unicode_White_Space), ("strings.asciiSpace", Rows.laid_strings_asciiSpace), ("mortise/bin.bytesOf", Rows.laid_mortise_bin_bytesOf), ("mortise/bin.plain", Rows.laid_mortise_bin_plain), ("mortise/bin.numbered", Rows.laid_mortise_bin_numbered)] [.listed, .data, .data, .mappedDeep, .mappedDeep] true :=
  Program.laidByTextLater_by_one 168 8 257 (by kernel_rfl) (by kernel_rfl) (by kernel_rfl) (by kernel_rfl) (by kernel_rfl) (by kernel_rfl) (fun _ _ => by kernel_rfl)
theorem noOwnUnsafe : Tryd.pinned.checked.prog.headLifts.contains "ownunsafe" = false := by kernel_rfl
theorem tie : Tryd.prog.laidByTextLater [("unicode.White_Space", Rows.laid_unicode_White_Space), ("strings.asciiSpace", Rows.laid_strings_asciiSpace), ("mortise/bin.bytesOf", Rows.laid_mortise_bin_bytesOf), ("mortise/bin.plain", Rows.laid_mortise_bin_plain), ("mortise/bin.numbered", Rows.laid_mortise_bin_numbered)] [.listed, .data, .data, .mappedDeep, .mappedDeep] true :=
  Program.laidByTextLater.sub seatTie1 ["unicode.White_Space", "strings.asciiSpace", "mortise/bin.bytesOf", "mortise/bin.plain", "mortise/bin.numbered"] (by kernel_rfl) (by kernel_rfl)
theorem binForms_row_tie : Rows.binFormsRow.laidByTextAt .later Tryd.pinned [.listed, .data, .data, .mappedDeep, .mappedDeep] true :=
  OpenClaim.laidByTextAt_later rfl rfl tie noOwnUnsafe
theorem binFormsUpto_row_tie : Rows.binFormsUptoRow.laidByTextAt .later Tryd.pinned [.listed, .data, .data, .mappedDeep, .mappedDeep] true :=
  OpenClaim.laidByTextAt_later rfl rfl tie noOwnUnsafe
end Go.Proofs.YthejpoplbllcbaaDoor
