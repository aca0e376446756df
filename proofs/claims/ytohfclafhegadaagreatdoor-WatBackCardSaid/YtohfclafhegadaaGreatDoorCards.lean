/-
  DERIVED. GIVEN WITH THE SEED: THE CARDS: each row of YtohfclafhegadaaGreatDoorRows.lean that lists a variable, with what it lists TIED to the program's text (the seventh form; the later family's looks); each row that meets fmt, with fmt's text TOLD by the authors' own Lean function (tested against real Go, not proved from fmt's source: count such statements apart). THE CARD IS WHAT COUNTS. Prove the row's statement (the work); the ties are given (YtohfclafhegadaaGreatDoorTie.lean); close each card by the builder's one call (the guide's Derived/Test/ToyasCard.lean, 'card_holds'). Laid BY PROGRAM, IN A SANDBOX (cutbox-door.mjs). By AI agents, Wed Nov 11 2026. No macro, syntax, notation, axiom, sorry.
-/
import Derived.Test.YtohfclafhegadaaGreatDoorRows
import GoSem.ClaimSeven
namespace Go.Proofs.YtohfclafhegadaaGreatDoor
namespace Rows

/-- THE TIED CARD OF 'mortiselaw13.WatKnown'. -/
def watKnownCard : Claim7 := { stood := { row := watKnownRow, standIns := [], harness := (true, "3fe6757c82f83ae2052f10886500311cf9a7054ab0b935ae62bac0aa1c5cc9e2"), looks := true }, kinds := [], alts := [], laidByText := true, laidKinds := [.data, .data, .data, .data, .sentinel, .sentinel, .listed, .data, .data, .pinned], laidTests := true, laidLooks := .later }
def WatKnownCardSaid : Prop := Claim7.holds Tryz.pinned (.plain (OpenSpec.ofChange watKnownSpec)) watKnownCard

/-- THE TIED CARD OF 'mortiselaw20.BinAgain'. -/
def binAgainCard : Claim7 := { stood := { row := binAgainRow, standIns := [], harness := (true, "3fe6757c82f83ae2052f10886500311cf9a7054ab0b935ae62bac0aa1c5cc9e2"), looks := true }, kinds := [], alts := [], laidByText := true, laidKinds := [.data, .data, .data, .data, .sentinel, .sentinel, .listed, .data, .data, .mappedDeep, .mappedDeep, .data, .pinned], laidTests := true, laidLooks := .later }
def BinAgainCardSaid : Prop := Claim7.holds Tryz.pinned (.plain (OpenSpec.ofChange binAgainSpec)) binAgainCard

/-- THE TIED CARD OF 'mortiselaw13.WatParses'. -/
def watParsesCard : Claim7 := { stood := { row := watParsesRow, standIns := [], harness := (true, "3fe6757c82f83ae2052f10886500311cf9a7054ab0b935ae62bac0aa1c5cc9e2"), looks := true }, kinds := [], alts := [], laidByText := true, laidKinds := [.data, .data, .data, .data, .sentinel, .sentinel, .listed, .data, .pinned], laidTests := true, laidLooks := .later }
def WatParsesCardSaid : Prop := Claim7.holds Tryz.pinned (.plain (OpenSpec.ofChange watParsesSpec)) watParsesCard

/-- THE TIED CARD OF 'mortiselaw20.BinBack'. -/
def binBackCard : Claim7 := { stood := { row := binBackRow, standIns := [], harness := (true, "3fe6757c82f83ae2052f10886500311cf9a7054ab0b935ae62bac0aa1c5cc9e2"), looks := true }, kinds := [], alts := [], laidByText := true, laidKinds := [.data, .data, .data, .listed, .data, .data, .mappedDeep, .mappedDeep, .data], laidTests := true, laidLooks := .later }
def BinBackCardSaid : Prop := Claim7.holds Tryz.pinned (.plain (OpenSpec.ofChange binBackSpec)) binBackCard

/-- THE TIED CARD OF 'mortiselaw13.WatPrints'. -/
def watPrintsCard : Claim7 := { stood := { row := watPrintsRow, standIns := [], harness := (true, "3fe6757c82f83ae2052f10886500311cf9a7054ab0b935ae62bac0aa1c5cc9e2"), looks := true }, kinds := [], alts := [], laidByText := true, laidKinds := [.data, .data, .data, .data, .sentinel, .sentinel, .listed, .data, .data, .pinned], laidTests := true, laidLooks := .later }
def WatPrintsCardSaid : Prop := Claim7.holds Tryz.pinned (.plain (OpenSpec.ofChange watPrintsSpec)) watPrintsCard

/-- THE TIED CARD OF 'mortiselaw13.WatAgain'. -/
def watAgainCard : Claim7 := { stood := { row := watAgainRow, standIns := [], harness := (true, "3fe6757c82f83ae2052f10886500311cf9a7054ab0b935ae62bac0aa1c5cc9e2"), looks := true }, kinds := [], alts := [], laidByText := true, laidKinds := [.data, .data, .data, .data, .sentinel, .sentinel, .listed, .data, .data, .pinned], laidTests := true, laidLooks := .later }
def WatAgainCardSaid : Prop := Claim7.holds Tryz.pinned (.plain (OpenSpec.ofChange watAgainSpec)) watAgainCard

/-- THE TIED CARD OF 'mortiselaw13.WatBack'. -/
def watBackCard : Claim7 := { stood := { row := watBackRow, standIns := [], harness := (true, "3fe6757c82f83ae2052f10886500311cf9a7054ab0b935ae62bac0aa1c5cc9e2"), looks := true }, kinds := [], alts := [], laidByText := true, laidKinds := [.data, .data, .data, .data, .sentinel, .sentinel, .listed, .data, .data, .pinned], laidTests := true, laidLooks := .later }
def WatBackCardSaid : Prop := Claim7.holds Tryz.pinned (.plain (OpenSpec.ofChange watBackSpec)) watBackCard

/-- THE SECOND FORM's CARD OF 'mortiselaw13.WatKnown'. -/
def watKnownUptoCard : Claim7 := { stood := { row := watKnownUptoRow, standIns := [], harness := (true, "3fe6757c82f83ae2052f10886500311cf9a7054ab0b935ae62bac0aa1c5cc9e2"), looks := true }, kinds := [], alts := [], laidByText := true, laidKinds := [.data, .data, .data, .data, .sentinel, .sentinel, .listed, .data, .data, .pinned], laidTests := true, laidLooks := .later }
def WatKnownUptoCardSaid : Prop := Claim7.holds Tryz.pinned (.plain (OpenSpec.upto watKnownSpec)) watKnownUptoCard

/-- THE SECOND FORM's CARD OF 'mortiselaw20.BinAgain'. -/
def binAgainUptoCard : Claim7 := { stood := { row := binAgainUptoRow, standIns := [], harness := (true, "3fe6757c82f83ae2052f10886500311cf9a7054ab0b935ae62bac0aa1c5cc9e2"), looks := true }, kinds := [], alts := [], laidByText := true, laidKinds := [.data, .data, .data, .data, .sentinel, .sentinel, .listed, .data, .data, .mappedDeep, .mappedDeep, .data, .pinned], laidTests := true, laidLooks := .later }
def BinAgainUptoCardSaid : Prop := Claim7.holds Tryz.pinned (.plain (OpenSpec.upto binAgainSpec)) binAgainUptoCard

/-- THE SECOND FORM's CARD OF 'mortiselaw13.WatParses'. -/
def watParsesUptoCard : Claim7 := { stood := { row := watParsesUptoRow, standIns := [], harness := (true, "3fe6757c82f83ae2052f10886500311cf9a7054ab0b935ae62bac0aa1c5cc9e2"), looks := true }, kinds := [], alts := [], laidByText := true, laidKinds := [.data, .data, .data, .data, .sentinel, .sentinel, .listed, .data, .pinned], laidTests := true, laidLooks := .later }
def WatParsesUptoCardSaid : Prop := Claim7.holds Tryz.pinned (.plain (OpenSpec.upto watParsesSpec)) watParsesUptoCard

/-- THE SECOND FORM's CARD OF 'mortiselaw20.BinBack'. -/
def binBackUptoCard : Claim7 := { stood := { row := binBackUptoRow, standIns := [], harness := (true, "3fe6757c82f83ae2052f10886500311cf9a7054ab0b935ae62bac0aa1c5cc9e2"), looks := true }, kinds := [], alts := [], laidByText := true, laidKinds := [.data, .data, .data, .listed, .data, .data, .mappedDeep, .mappedDeep, .data], laidTests := true, laidLooks := .later }
def BinBackUptoCardSaid : Prop := Claim7.holds Tryz.pinned (.plain (OpenSpec.upto binBackSpec)) binBackUptoCard

/-- THE SECOND FORM's CARD OF 'mortiselaw13.WatPrints'. -/
def watPrintsUptoCard : Claim7 := { stood := { row := watPrintsUptoRow, standIns := [], harness := (true, "3fe6757c82f83ae2052f10886500311cf9a7054ab0b935ae62bac0aa1c5cc9e2"), looks := true }, kinds := [], alts := [], laidByText := true, laidKinds := [.data, .data, .data, .data, .sentinel, .sentinel, .listed, .data, .data, .pinned], laidTests := true, laidLooks := .later }
def WatPrintsUptoCardSaid : Prop := Claim7.holds Tryz.pinned (.plain (OpenSpec.upto watPrintsSpec)) watPrintsUptoCard

/-- THE SECOND FORM's CARD OF 'mortiselaw13.WatAgain'. -/
def watAgainUptoCard : Claim7 := { stood := { row := watAgainUptoRow, standIns := [], harness := (true, "3fe6757c82f83ae2052f10886500311cf9a7054ab0b935ae62bac0aa1c5cc9e2"), looks := true }, kinds := [], alts := [], laidByText := true, laidKinds := [.data, .data, .data, .data, .sentinel, .sentinel, .listed, .data, .data, .pinned], laidTests := true, laidLooks := .later }
def WatAgainUptoCardSaid : Prop := Claim7.holds Tryz.pinned (.plain (OpenSpec.upto watAgainSpec)) watAgainUptoCard

/-- THE SECOND FORM's CARD OF 'mortiselaw13.WatBack'. -/
def watBackUptoCard : Claim7 := { stood := { row := watBackUptoRow, standIns := [], harness := (true, "3fe6757c82f83ae2052f10886500311cf9a7054ab0b935ae62bac0aa1c5cc9e2"), looks := true }, kinds := [], alts := [], laidByText := true, laidKinds := [.data, .data, .data, .data, .sentinel, .sentinel, .listed, .data, .data, .pinned], laidTests := true, laidLooks := .later }
def WatBackUptoCardSaid : Prop := Claim7.holds Tryz.pinned (.plain (OpenSpec.upto watBackSpec)) watBackUptoCard
end Rows
end Go.Proofs.YtohfclafhegadaaGreatDoor
