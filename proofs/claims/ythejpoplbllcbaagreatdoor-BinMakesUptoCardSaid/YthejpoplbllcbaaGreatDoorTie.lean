/-
  DERIVED. GIVEN WITH THE SEED: THE PROGRAM's TIES (one call each: nine closed facts by the kernel) AND EACH ROW's TIE, after the 31st guide's Derived/Test/Toyas{Tie, Card}.lean. No idea stands in it: it is a product of the set-up. Laid BY PROGRAM, IN A SANDBOX (cutbox-door.mjs). By AI agents, Wed Nov 11 2026. No macro, syntax, notation, axiom, sorry.
-/
import Derived.Test.YthejpoplbllcbaaGreatDoorRows
import Derived.LaidByTextLater
import Derived.SevenTiedAt
import Derived.LaidSub
import Derived.LaidOnce
namespace Go.Proofs.YthejpoplbllcbaaGreatDoor
open Go
set_option maxRecDepth 100000
theorem seatTie1 : Tryz.prog.laidByTextLater [("unicode.White_Space", Rows.laid_unicode_White_Space), ("strings.asciiSpace", Rows.laid_strings_asciiSpace), ("mortise/bin.bytesOf", Rows.laid_mortise_bin_bytesOf), ("mortise/bin.plain", Rows.laid_mortise_bin_plain), ("mortise/bin.numbered", Rows.laid_mortise_bin_numbered)] [.listed, .data, .data, .mappedDeep, .mappedDeep] true :=
  Program.laidByTextLater_by_one 189 8 257 (by kernel_rfl) (by kernel_rfl) (by kernel_rfl) (by kernel_rfl) (by kernel_rfl) (by kernel_rfl) (fun _ _ => by kernel_rfl)
theorem seatTie2 : Tryz.prog.laidByTextLater [("unicode.White_Space", Rows.laid_unicode_White_Space), ("strings.asciiSpace", Rows.laid_strings_asciiSpace), ("mortise/bin.bytesOf", Rows.laid_mortise_bin_bytesOf), ("mortise/bin.plain", Rows.laid_mortise_bin_plain), ("mortise/bin.numbered", Rows.laid_mortise_bin_numbered), ("mortise/wasm.signs", Rows.laid_mortise_wasm_signs)] [.listed, .data, .data, .mappedDeep, .mappedDeep, .data] true :=
  Program.laidByTextLater_by_one 189 8 257 (by kernel_rfl) (by kernel_rfl) (by kernel_rfl) (by kernel_rfl) (by kernel_rfl) (by kernel_rfl) (fun _ _ => by kernel_rfl)
theorem noOwnUnsafe : Tryz.pinned.checked.prog.headLifts.contains "ownunsafe" = false := by kernel_rfl
theorem tie : Tryz.prog.laidByTextLater [("unicode.White_Space", Rows.laid_unicode_White_Space), ("strings.asciiSpace", Rows.laid_strings_asciiSpace), ("mortise/bin.bytesOf", Rows.laid_mortise_bin_bytesOf), ("mortise/bin.plain", Rows.laid_mortise_bin_plain), ("mortise/bin.numbered", Rows.laid_mortise_bin_numbered)] [.listed, .data, .data, .mappedDeep, .mappedDeep] true :=
  Program.laidByTextLater.sub seatTie1 ["unicode.White_Space", "strings.asciiSpace", "mortise/bin.bytesOf", "mortise/bin.plain", "mortise/bin.numbered"] (by kernel_rfl) (by kernel_rfl)
theorem binReads_row_tie : Rows.binReadsRow.laidByTextAt .later Tryz.pinned [.listed, .data, .data, .mappedDeep, .mappedDeep] true :=
  OpenClaim.laidByTextAt_later rfl rfl tie noOwnUnsafe
theorem binKnown_row_tie : Rows.binKnownRow.laidByTextAt .later Tryz.pinned [.listed, .data, .data, .mappedDeep, .mappedDeep] true :=
  OpenClaim.laidByTextAt_later rfl rfl tie noOwnUnsafe
theorem tie2 : Tryz.prog.laidByTextLater [("unicode.White_Space", Rows.laid_unicode_White_Space), ("strings.asciiSpace", Rows.laid_strings_asciiSpace), ("mortise/bin.bytesOf", Rows.laid_mortise_bin_bytesOf), ("mortise/bin.plain", Rows.laid_mortise_bin_plain), ("mortise/bin.numbered", Rows.laid_mortise_bin_numbered), ("mortise/wasm.signs", Rows.laid_mortise_wasm_signs)] [.listed, .data, .data, .mappedDeep, .mappedDeep, .data] true :=
  Program.laidByTextLater.sub seatTie2 ["unicode.White_Space", "strings.asciiSpace", "mortise/bin.bytesOf", "mortise/bin.plain", "mortise/bin.numbered", "mortise/wasm.signs"] (by kernel_rfl) (by kernel_rfl)
theorem binMakes_row_tie : Rows.binMakesRow.laidByTextAt .later Tryz.pinned [.listed, .data, .data, .mappedDeep, .mappedDeep, .data] true :=
  OpenClaim.laidByTextAt_later rfl rfl tie2 noOwnUnsafe
theorem binReadsUpto_row_tie : Rows.binReadsUptoRow.laidByTextAt .later Tryz.pinned [.listed, .data, .data, .mappedDeep, .mappedDeep] true :=
  OpenClaim.laidByTextAt_later rfl rfl tie noOwnUnsafe
theorem binKnownUpto_row_tie : Rows.binKnownUptoRow.laidByTextAt .later Tryz.pinned [.listed, .data, .data, .mappedDeep, .mappedDeep] true :=
  OpenClaim.laidByTextAt_later rfl rfl tie noOwnUnsafe
theorem binMakesUpto_row_tie : Rows.binMakesUptoRow.laidByTextAt .later Tryz.pinned [.listed, .data, .data, .mappedDeep, .mappedDeep, .data] true :=
  OpenClaim.laidByTextAt_later rfl rfl tie2 noOwnUnsafe
end Go.Proofs.YthejpoplbllcbaaGreatDoor
