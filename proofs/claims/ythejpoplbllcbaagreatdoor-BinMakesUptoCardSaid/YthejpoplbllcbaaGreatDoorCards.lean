/-
  DERIVED. GIVEN WITH THE SEED: THE CARDS: each row of YthejpoplbllcbaaGreatDoorRows.lean that lists a variable, with what it lists TIED to the program's text (the seventh form; the later family's looks); each row that meets fmt, with fmt's text TOLD by the authors' own Lean function (tested against real Go, not proved from fmt's source: count such statements apart). THE CARD IS WHAT COUNTS. Prove the row's statement (the work); the ties are given (YthejpoplbllcbaaGreatDoorTie.lean); close each card by the builder's one call (the guide's Derived/Test/ToyasCard.lean, 'card_holds'). Laid BY PROGRAM, IN A SANDBOX (cutbox-door.mjs). By AI agents, Wed Nov 11 2026. No macro, syntax, notation, axiom, sorry.
-/
import Derived.Test.YthejpoplbllcbaaGreatDoorRows
import GoSem.ClaimSeven
namespace Go.Proofs.YthejpoplbllcbaaGreatDoor
namespace Rows

/-- THE TIED CARD OF 'mortiselaw20.BinReads'. -/
def binReadsCard : Claim7 := { stood := { row := binReadsRow, standIns := [], harness := (true, "445729ff8aa8e71605d2e105179fae2b768fba4087b05746054bcd38906fb4db"), looks := true }, kinds := [], alts := [], laidByText := true, laidKinds := [.listed, .data, .data, .mappedDeep, .mappedDeep], laidTests := true, laidLooks := .later }
def BinReadsCardSaid : Prop := Claim7.holds Tryz.pinned (.plain (OpenSpec.ofChange binReadsSpec)) binReadsCard

/-- THE TIED CARD OF 'mortiselaw20.BinKnown'. -/
def binKnownCard : Claim7 := { stood := { row := binKnownRow, standIns := [], harness := (true, "445729ff8aa8e71605d2e105179fae2b768fba4087b05746054bcd38906fb4db"), looks := true }, kinds := [], alts := [], laidByText := true, laidKinds := [.listed, .data, .data, .mappedDeep, .mappedDeep], laidTests := true, laidLooks := .later }
def BinKnownCardSaid : Prop := Claim7.holds Tryz.pinned (.plain (OpenSpec.ofChange binKnownSpec)) binKnownCard

/-- THE TIED CARD OF 'mortiselaw20.BinMakes'. -/
def binMakesCard : Claim7 := { stood := { row := binMakesRow, standIns := [], harness := (true, "445729ff8aa8e71605d2e105179fae2b768fba4087b05746054bcd38906fb4db"), looks := true }, kinds := [], alts := [], laidByText := true, laidKinds := [.listed, .data, .data, .mappedDeep, .mappedDeep, .data], laidTests := true, laidLooks := .later }
def BinMakesCardSaid : Prop := Claim7.holds Tryz.pinned (.plain (OpenSpec.ofChange binMakesSpec)) binMakesCard

/-- THE SECOND FORM's CARD OF 'mortiselaw20.BinReads'. -/
def binReadsUptoCard : Claim7 := { stood := { row := binReadsUptoRow, standIns := [], harness := (true, "445729ff8aa8e71605d2e105179fae2b768fba4087b05746054bcd38906fb4db"), looks := true }, kinds := [], alts := [], laidByText := true, laidKinds := [.listed, .data, .data, .mappedDeep, .mappedDeep], laidTests := true, laidLooks := .later }
def BinReadsUptoCardSaid : Prop := Claim7.holds Tryz.pinned (.plain (OpenSpec.upto binReadsSpec)) binReadsUptoCard

/-- THE SECOND FORM's CARD OF 'mortiselaw20.BinKnown'. -/
def binKnownUptoCard : Claim7 := { stood := { row := binKnownUptoRow, standIns := [], harness := (true, "445729ff8aa8e71605d2e105179fae2b768fba4087b05746054bcd38906fb4db"), looks := true }, kinds := [], alts := [], laidByText := true, laidKinds := [.listed, .data, .data, .mappedDeep, .mappedDeep], laidTests := true, laidLooks := .later }
def BinKnownUptoCardSaid : Prop := Claim7.holds Tryz.pinned (.plain (OpenSpec.upto binKnownSpec)) binKnownUptoCard

/-- THE SECOND FORM's CARD OF 'mortiselaw20.BinMakes'. -/
def binMakesUptoCard : Claim7 := { stood := { row := binMakesUptoRow, standIns := [], harness := (true, "445729ff8aa8e71605d2e105179fae2b768fba4087b05746054bcd38906fb4db"), looks := true }, kinds := [], alts := [], laidByText := true, laidKinds := [.listed, .data, .data, .mappedDeep, .mappedDeep, .data], laidTests := true, laidLooks := .later }
def BinMakesUptoCardSaid : Prop := Claim7.holds Tryz.pinned (.plain (OpenSpec.upto binMakesSpec)) binMakesUptoCard
end Rows
end Go.Proofs.YthejpoplbllcbaaGreatDoor
