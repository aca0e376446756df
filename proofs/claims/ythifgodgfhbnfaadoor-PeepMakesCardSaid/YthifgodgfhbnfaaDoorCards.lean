/-
  DERIVED. GIVEN WITH THE SEED: THE CARDS: each row of YthifgodgfhbnfaaDoorRows.lean that lists a variable, with what it lists TIED to the program's text (the seventh form; the later family's looks); each row that meets fmt, with fmt's text TOLD by the authors' own Lean function (tested against real Go, not proved from fmt's source: count such statements apart). THE CARD IS WHAT COUNTS. Prove the row's statement (the work); the ties are given (YthifgodgfhbnfaaDoorTie.lean); close each card by the builder's one call (the guide's Derived/Test/ToyasCard.lean, 'card_holds'). Laid BY PROGRAM, IN A SANDBOX (cutbox-door.mjs). By AI agents, Wed Nov 11 2026. No macro, syntax, notation, axiom, sorry.
-/
import Derived.Test.YthifgodgfhbnfaaDoorRows
import GoSem.ClaimSeven
namespace Go.Proofs.YthifgodgfhbnfaaDoor
namespace Rows

/-- THE TIED CARD OF 'mortiselaw22.PeepMakes'. -/
def peepMakesCard : Claim7 := { stood := { row := peepMakesRow, standIns := [], harness := (true, "316f6eacdc9d601cc89886c3384eebcca6d46126fd093de4cc4c61e0f51d421c"), looks := true }, kinds := [], alts := [], laidByText := true, laidKinds := [.data], laidTests := true, laidLooks := .later }
def PeepMakesCardSaid : Prop := Claim7.holds Tryd.pinned (.plain (OpenSpec.ofChange peepMakesSpec)) peepMakesCard

/-- THE TIED CARD OF 'mortiselaw22.PeepLess'. -/
def peepLessCard : Claim7 := { stood := { row := peepLessRow, standIns := [], harness := (true, "316f6eacdc9d601cc89886c3384eebcca6d46126fd093de4cc4c61e0f51d421c"), looks := true }, kinds := [], alts := [], laidByText := true, laidKinds := [.data], laidTests := true, laidLooks := .later }
def PeepLessCardSaid : Prop := Claim7.holds Tryd.pinned (.plain (OpenSpec.ofChange peepLessSpec)) peepLessCard

/-- THE TIED CARD OF 'mortiselaw12.WasmMore'. -/
def wasmMoreCard : Claim7 := { stood := { row := wasmMoreRow, standIns := [], harness := (true, "316f6eacdc9d601cc89886c3384eebcca6d46126fd093de4cc4c61e0f51d421c"), looks := true }, kinds := [], alts := [], laidByText := true, laidKinds := [.data], laidTests := true, laidLooks := .later }
def WasmMoreCardSaid : Prop := Claim7.holds Tryd.pinned (.plain (OpenSpec.ofChange wasmMoreSpec)) wasmMoreCard

/-- THE TIED CARD OF 'mortiselaw12.WasmBytes'. -/
def wasmBytesCard : Claim7 := { stood := { row := wasmBytesRow, standIns := [], harness := (true, "316f6eacdc9d601cc89886c3384eebcca6d46126fd093de4cc4c61e0f51d421c"), looks := true }, kinds := [], alts := [], laidByText := true, laidKinds := [.data], laidTests := true, laidLooks := .later }
def WasmBytesCardSaid : Prop := Claim7.holds Tryd.pinned (.plain (OpenSpec.ofChange wasmBytesSpec)) wasmBytesCard

/-- THE TIED CARD OF 'mortiselaw12.WasmKnown'. -/
def wasmKnownCard : Claim7 := { stood := { row := wasmKnownRow, standIns := [], harness := (true, "316f6eacdc9d601cc89886c3384eebcca6d46126fd093de4cc4c61e0f51d421c"), looks := true }, kinds := [], alts := [], laidByText := true, laidKinds := [.data], laidTests := true, laidLooks := .later }
def WasmKnownCardSaid : Prop := Claim7.holds Tryd.pinned (.plain (OpenSpec.ofChange wasmKnownSpec)) wasmKnownCard

/-- THE TIED CARD OF 'mortiselaw22.PeepSame'. -/
def peepSameCard : Claim7 := { stood := { row := peepSameRow, standIns := [], harness := (true, "316f6eacdc9d601cc89886c3384eebcca6d46126fd093de4cc4c61e0f51d421c"), looks := true }, kinds := [], alts := [], laidByText := true, laidKinds := [.data], laidTests := true, laidLooks := .later }
def PeepSameCardSaid : Prop := Claim7.holds Tryd.pinned (.plain (OpenSpec.ofChange peepSameSpec)) peepSameCard

/-- THE SECOND FORM's CARD OF 'mortiselaw22.PeepMakes'. -/
def peepMakesUptoCard : Claim7 := { stood := { row := peepMakesUptoRow, standIns := [], harness := (true, "316f6eacdc9d601cc89886c3384eebcca6d46126fd093de4cc4c61e0f51d421c"), looks := true }, kinds := [], alts := [], laidByText := true, laidKinds := [.data], laidTests := true, laidLooks := .later }
def PeepMakesUptoCardSaid : Prop := Claim7.holds Tryd.pinned (.plain (OpenSpec.upto peepMakesSpec)) peepMakesUptoCard

/-- THE SECOND FORM's CARD OF 'mortiselaw22.PeepLess'. -/
def peepLessUptoCard : Claim7 := { stood := { row := peepLessUptoRow, standIns := [], harness := (true, "316f6eacdc9d601cc89886c3384eebcca6d46126fd093de4cc4c61e0f51d421c"), looks := true }, kinds := [], alts := [], laidByText := true, laidKinds := [.data], laidTests := true, laidLooks := .later }
def PeepLessUptoCardSaid : Prop := Claim7.holds Tryd.pinned (.plain (OpenSpec.upto peepLessSpec)) peepLessUptoCard

/-- THE SECOND FORM's CARD OF 'mortiselaw12.WasmMore'. -/
def wasmMoreUptoCard : Claim7 := { stood := { row := wasmMoreUptoRow, standIns := [], harness := (true, "316f6eacdc9d601cc89886c3384eebcca6d46126fd093de4cc4c61e0f51d421c"), looks := true }, kinds := [], alts := [], laidByText := true, laidKinds := [.data], laidTests := true, laidLooks := .later }
def WasmMoreUptoCardSaid : Prop := Claim7.holds Tryd.pinned (.plain (OpenSpec.upto wasmMoreSpec)) wasmMoreUptoCard

/-- THE SECOND FORM's CARD OF 'mortiselaw12.WasmBytes'. -/
def wasmBytesUptoCard : Claim7 := { stood := { row := wasmBytesUptoRow, standIns := [], harness := (true, "316f6eacdc9d601cc89886c3384eebcca6d46126fd093de4cc4c61e0f51d421c"), looks := true }, kinds := [], alts := [], laidByText := true, laidKinds := [.data], laidTests := true, laidLooks := .later }
def WasmBytesUptoCardSaid : Prop := Claim7.holds Tryd.pinned (.plain (OpenSpec.upto wasmBytesSpec)) wasmBytesUptoCard

/-- THE SECOND FORM's CARD OF 'mortiselaw12.WasmKnown'. -/
def wasmKnownUptoCard : Claim7 := { stood := { row := wasmKnownUptoRow, standIns := [], harness := (true, "316f6eacdc9d601cc89886c3384eebcca6d46126fd093de4cc4c61e0f51d421c"), looks := true }, kinds := [], alts := [], laidByText := true, laidKinds := [.data], laidTests := true, laidLooks := .later }
def WasmKnownUptoCardSaid : Prop := Claim7.holds Tryd.pinned (.plain (OpenSpec.upto wasmKnownSpec)) wasmKnownUptoCard

/-- THE SECOND FORM's CARD OF 'mortiselaw22.PeepSame'. -/
def peepSameUptoCard : Claim7 := { stood := { row := peepSameUptoRow, standIns := [], harness := (true, "316f6eacdc9d601cc89886c3384eebcca6d46126fd093de4cc4c61e0f51d421c"), looks := true }, kinds := [], alts := [], laidByText := true, laidKinds := [.data], laidTests := true, laidLooks := .later }
def PeepSameUptoCardSaid : Prop := Claim7.holds Tryd.pinned (.plain (OpenSpec.upto peepSameSpec)) peepSameUptoCard
end Rows
end Go.Proofs.YthifgodgfhbnfaaDoor
