/-
  DERIVED. GIVEN WITH THE SEED: THE CARDS: each row of YthifgodgfhbnfaaGreatDoorRows.lean that lists a variable, with what it lists TIED to the program's text (the seventh form; the later family's looks); each row that meets fmt, with fmt's text TOLD by the authors' own Lean function (tested against real Go, not proved from fmt's source: count such statements apart). THE CARD IS WHAT COUNTS. Prove the row's statement (the work); the ties are given (YthifgodgfhbnfaaGreatDoorTie.lean); close each card by the builder's one call (the guide's Derived/Test/ToyasCard.lean, 'card_holds'). Laid BY PROGRAM, IN A SANDBOX (cutbox-door.mjs). By AI agents, Wed Nov 11 2026. No macro, syntax, notation, axiom, sorry.
-/
import Derived.Test.YthifgodgfhbnfaaGreatDoorRows
import GoSem.ClaimSeven
namespace Go.Proofs.YthifgodgfhbnfaaGreatDoor
namespace Rows

/-- THE TIED CARD OF 'mortiselaw12.WasmRuns'. -/
def wasmRunsCard : Claim7 := { stood := { row := wasmRunsRow, standIns := [], harness := (true, "c11307b39661da631c89236aba4b5da7ddb3e2052b2cfcb1199ec5ff3029c21f"), looks := true }, kinds := [], alts := [], laidByText := true, laidKinds := [.data], laidTests := true, laidLooks := .later }
def WasmRunsCardSaid : Prop := Claim7.holds Tryz.pinned (.plain (OpenSpec.ofChange wasmRunsSpec)) wasmRunsCard

/-- THE SECOND FORM's CARD OF 'mortiselaw12.WasmRuns'. -/
def wasmRunsUptoCard : Claim7 := { stood := { row := wasmRunsUptoRow, standIns := [], harness := (true, "c11307b39661da631c89236aba4b5da7ddb3e2052b2cfcb1199ec5ff3029c21f"), looks := true }, kinds := [], alts := [], laidByText := true, laidKinds := [.data], laidTests := true, laidLooks := .later }
def WasmRunsUptoCardSaid : Prop := Claim7.holds Tryz.pinned (.plain (OpenSpec.upto wasmRunsSpec)) wasmRunsUptoCard
end Rows
end Go.Proofs.YthifgodgfhbnfaaGreatDoor
