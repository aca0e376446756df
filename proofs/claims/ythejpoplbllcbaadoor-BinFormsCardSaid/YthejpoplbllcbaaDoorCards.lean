/-
  DERIVED. GIVEN WITH THE SEED: THE CARDS: each row of YthejpoplbllcbaaDoorRows.lean that lists a variable, with what it lists TIED to the program's text (the seventh form; the later family's looks); each row that meets fmt, with fmt's text TOLD by the authors' own Lean function (tested against real Go, not proved from fmt's source: count such statements apart). THE CARD IS WHAT COUNTS. Prove the row's statement (the work); the ties are given (YthejpoplbllcbaaDoorTie.lean); close each card by the builder's one call (the guide's Derived/Test/ToyasCard.lean, 'card_holds'). Laid BY PROGRAM, IN A SANDBOX (cutbox-door.mjs). By AI agents, Wed Nov 11 2026. No macro, syntax, notation, axiom, sorry.
-/
import Derived.Test.YthejpoplbllcbaaDoorRows
import GoSem.ClaimSeven
namespace Go.Proofs.YthejpoplbllcbaaDoor
namespace Rows

/-- THE TIED CARD OF 'mortiselaw20.BinForms'. -/
def binFormsCard : Claim7 := { stood := { row := binFormsRow, standIns := [], harness := (true, "a32a00f9b413678070fa368f96e5ab0d6d85bd408132f7e1bd5e8cc9a44d8d70"), looks := true }, kinds := [], alts := [], laidByText := true, laidKinds := [.listed, .data, .data, .mappedDeep, .mappedDeep], laidTests := true, laidLooks := .later }
def BinFormsCardSaid : Prop := Claim7.holds Tryd.pinned (.plain (OpenSpec.ofChange binFormsSpec)) binFormsCard

/-- THE SECOND FORM's CARD OF 'mortiselaw20.BinForms'. -/
def binFormsUptoCard : Claim7 := { stood := { row := binFormsUptoRow, standIns := [], harness := (true, "a32a00f9b413678070fa368f96e5ab0d6d85bd408132f7e1bd5e8cc9a44d8d70"), looks := true }, kinds := [], alts := [], laidByText := true, laidKinds := [.listed, .data, .data, .mappedDeep, .mappedDeep], laidTests := true, laidLooks := .later }
def BinFormsUptoCardSaid : Prop := Claim7.holds Tryd.pinned (.plain (OpenSpec.upto binFormsSpec)) binFormsUptoCard
end Rows
end Go.Proofs.YthejpoplbllcbaaDoor
