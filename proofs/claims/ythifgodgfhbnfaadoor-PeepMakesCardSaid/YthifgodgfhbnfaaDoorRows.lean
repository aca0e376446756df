/-
  NARROWER THAN 'FOR EVERY INPUT', by the rows' own cells (each row's printed sentence says how): PeepMakes: laid · PeepLess: laid · WasmMore: laid · WasmBytes: laid · WasmKnown: laid · PeepSame: laid.
  DERIVED. THE GIVEN ROWS OF THIS SEAT. 6 by the template 'for every input the law returns true; each argument reads behind the call as it read before'; 0 by the template 'total and deterministic' (their statements: YthifgodgfhbnfaaDoorTotals.lean).
  GIVEN WITH THE SEED: the statements are not yours to turn. If you find one false, say at which input.
  Laid BY PROGRAM, IN A SANDBOX (cutbox-rows.mjs): the forced cells as the released guide's own fill.sh prints them over the translation 2ce3b392d164e89b… (all of the seat's roots in one cut). By AI agents, Wed Nov 11 2026. No macro, syntax, notation, axiom, sorry.
-/
import Derived.Test.YthifgodgfhbnfaaDoorChecked
import GoSem.Claim
import GoSem.ClaimJoined
import GoSem.ClaimMapViews
import Derived.JoinedTies
import Derived.KernelRfl
namespace Go.Proofs.YthifgodgfhbnfaaDoor
/- THE CELL 'sum', in the pinned program and in every row, IS THE sha256 OF THE DUMP (.gsa) THAT YthifgodgfhbnfaaDoorProg.lean LOADS. Nothing in Lean hashes anything: it is a label: what it is worth is what the hold of that sum in a sandbox is worth. -/
noncomputable def Tryd.pinned : Pinned := { name := "ythifgodgfhbnfaadoor", sum := "2ce3b392d164e89ba963dd33818391b9a07bbc72fae3da10b61e7066ecf25969", checked := Tryd.checked }
namespace Rows
def none {H : Type} : Left H := { results := [], args := [] }

/- WHAT THE LISTED PACKAGE-LEVEL VARIABLES READ AS WHEN THE CALL BEGINS. Each datum BY PROGRAM (the guide's laid-datum.mjs) off the statement by which the dump's own 'gosem.cut.vars' lays the variable. In a bare row this is a premise. The card (YthifgodgfhbnfaaDoorCards.lean) ties it to the program's text. -/
def laid_mortise_wasm_signs {H : Type} : DataW H := .agg [.agg [.lit (.string [97, 100, 100]), .lit (.string [43])], .agg [.lit (.string [115, 117, 98]), .lit (.string [45])], .agg [.lit (.string [109, 117, 108]), .lit (.string [42])], .agg [.lit (.string [100, 105, 118, 95, 115]), .lit (.string [47])], .agg [.lit (.string [114, 101, 109, 95, 115]), .lit (.string [37])], .agg [.lit (.string [97, 110, 100]), .lit (.string [38])], .agg [.lit (.string [111, 114]), .lit (.string [124])], .agg [.lit (.string [120, 111, 114]), .lit (.string [94])], .agg [.lit (.string [115, 104, 108]), .lit (.string [60, 60])], .agg [.lit (.string [115, 104, 114, 95, 115]), .lit (.string [62, 62])], .agg [.lit (.string [101, 113]), .lit (.string [61, 61])], .agg [.lit (.string [110, 101]), .lit (.string [33, 61])], .agg [.lit (.string [108, 116, 95, 115]), .lit (.string [60])], .agg [.lit (.string [108, 101, 95, 115]), .lit (.string [60, 61])], .agg [.lit (.string [103, 116, 95, 115]), .lit (.string [62])], .agg [.lit (.string [103, 101, 95, 115]), .lit (.string [62, 61])]]

/-- 'mortiselaw22.PeepMakes': WHATEVER THE INPUT: true; the input reads as it did. -/
def peepMakesSpec : ChangeSpec := { name := "peepMakes", fn := fun _ => fun
  | [d] => { results := [.lit (.bool true)], args := [d] }
  | _ => none }
def peepMakesRow : OpenClaim := { program := "ythifgodgfhbnfaadoor", sum := "2ce3b392d164e89ba963dd33818391b9a07bbc72fae3da10b61e7066ecf25969", func := "mortise/mortiselaw22.PeepMakes", spec := "peepMakes", inPlace := ["internal/bytealg.IndexByteString", "internal/bytealg.IndexString"], unfollowed := true, recurses := true, named := ["mortise/wasm.signs", "internal/bytealg.MaxLen"], apart := false, laid := [("mortise/wasm.signs", laid_mortise_wasm_signs)] }
def PeepMakesSaid : Prop := peepMakesRow.holds Tryd.pinned (OpenSpec.ofChange peepMakesSpec)

/-- ITS FALSE NEIGHBOUR: 'it returns false'. Refute it at one input. -/
def peepMakesWrong : ChangeSpec := { name := "peepMakes", fn := fun _ => fun
  | [d] => { results := [.lit (.bool false)], args := [d] }
  | _ => none }
def PeepMakesWrongFalsely : Prop := peepMakesRow.holds Tryd.pinned (OpenSpec.ofChange peepMakesWrong)

/-- 'mortiselaw22.PeepLess': WHATEVER THE INPUT: true; the input reads as it did. -/
def peepLessSpec : ChangeSpec := { name := "peepLess", fn := fun _ => fun
  | [d] => { results := [.lit (.bool true)], args := [d] }
  | _ => none }
def peepLessRow : OpenClaim := { program := "ythifgodgfhbnfaadoor", sum := "2ce3b392d164e89ba963dd33818391b9a07bbc72fae3da10b61e7066ecf25969", func := "mortise/mortiselaw22.PeepLess", spec := "peepLess", inPlace := ["internal/bytealg.IndexByteString", "internal/bytealg.IndexString"], unfollowed := true, recurses := true, named := ["mortise/wasm.signs", "internal/bytealg.MaxLen"], apart := false, laid := [("mortise/wasm.signs", laid_mortise_wasm_signs)] }
def PeepLessSaid : Prop := peepLessRow.holds Tryd.pinned (OpenSpec.ofChange peepLessSpec)

/-- ITS FALSE NEIGHBOUR: 'it returns false'. Refute it at one input. -/
def peepLessWrong : ChangeSpec := { name := "peepLess", fn := fun _ => fun
  | [d] => { results := [.lit (.bool false)], args := [d] }
  | _ => none }
def PeepLessWrongFalsely : Prop := peepLessRow.holds Tryd.pinned (OpenSpec.ofChange peepLessWrong)

/-- 'mortiselaw12.WasmMore': WHATEVER THE INPUT: true; the input reads as it did. -/
def wasmMoreSpec : ChangeSpec := { name := "wasmMore", fn := fun _ => fun
  | [d] => { results := [.lit (.bool true)], args := [d] }
  | _ => none }
def wasmMoreRow : OpenClaim := { program := "ythifgodgfhbnfaadoor", sum := "2ce3b392d164e89ba963dd33818391b9a07bbc72fae3da10b61e7066ecf25969", func := "mortise/mortiselaw12.WasmMore", spec := "wasmMore", inPlace := ["internal/bytealg.IndexByteString", "internal/bytealg.IndexString"], unfollowed := true, recurses := true, named := ["mortise/wasm.signs", "internal/bytealg.MaxLen"], apart := false, laid := [("mortise/wasm.signs", laid_mortise_wasm_signs)] }
def WasmMoreSaid : Prop := wasmMoreRow.holds Tryd.pinned (OpenSpec.ofChange wasmMoreSpec)

/-- ITS FALSE NEIGHBOUR: 'it returns false'. Refute it at one input. -/
def wasmMoreWrong : ChangeSpec := { name := "wasmMore", fn := fun _ => fun
  | [d] => { results := [.lit (.bool false)], args := [d] }
  | _ => none }
def WasmMoreWrongFalsely : Prop := wasmMoreRow.holds Tryd.pinned (OpenSpec.ofChange wasmMoreWrong)

/-- 'mortiselaw12.WasmBytes': WHATEVER THE INPUT: true; the input reads as it did. -/
def wasmBytesSpec : ChangeSpec := { name := "wasmBytes", fn := fun _ => fun
  | [d1, d2, d3] => { results := [.lit (.bool true)], args := [d1, d2, d3] }
  | _ => none }
def wasmBytesRow : OpenClaim := { program := "ythifgodgfhbnfaadoor", sum := "2ce3b392d164e89ba963dd33818391b9a07bbc72fae3da10b61e7066ecf25969", func := "mortise/mortiselaw12.WasmBytes", spec := "wasmBytes", inPlace := ["internal/bytealg.IndexByteString", "internal/bytealg.IndexString"], unfollowed := true, recurses := true, named := ["mortise/wasm.signs", "internal/bytealg.MaxLen"], apart := false, laid := [("mortise/wasm.signs", laid_mortise_wasm_signs)] }
def WasmBytesSaid : Prop := wasmBytesRow.holds Tryd.pinned (OpenSpec.ofChange wasmBytesSpec)

/-- ITS FALSE NEIGHBOUR: 'it returns false'. Refute it at one input. -/
def wasmBytesWrong : ChangeSpec := { name := "wasmBytes", fn := fun _ => fun
  | [d1, d2, d3] => { results := [.lit (.bool false)], args := [d1, d2, d3] }
  | _ => none }
def WasmBytesWrongFalsely : Prop := wasmBytesRow.holds Tryd.pinned (OpenSpec.ofChange wasmBytesWrong)

/-- 'mortiselaw12.WasmKnown': WHATEVER THE INPUT: true; the input reads as it did. -/
def wasmKnownSpec : ChangeSpec := { name := "wasmKnown", fn := fun _ => fun
  | [] => { results := [.lit (.bool true)], args := [] }
  | _ => none }
def wasmKnownRow : OpenClaim := { program := "ythifgodgfhbnfaadoor", sum := "2ce3b392d164e89ba963dd33818391b9a07bbc72fae3da10b61e7066ecf25969", func := "mortise/mortiselaw12.WasmKnown", spec := "wasmKnown", inPlace := ["internal/bytealg.IndexByteString", "internal/bytealg.IndexString"], unfollowed := true, recurses := true, named := ["mortise/wasm.signs", "internal/bytealg.MaxLen"], apart := false, laid := [("mortise/wasm.signs", laid_mortise_wasm_signs)] }
def WasmKnownSaid : Prop := wasmKnownRow.holds Tryd.pinned (OpenSpec.ofChange wasmKnownSpec)

/-- ITS FALSE NEIGHBOUR: 'it returns false'. Refute it at one input. -/
def wasmKnownWrong : ChangeSpec := { name := "wasmKnown", fn := fun _ => fun
  | [] => { results := [.lit (.bool false)], args := [] }
  | _ => none }
def WasmKnownWrongFalsely : Prop := wasmKnownRow.holds Tryd.pinned (OpenSpec.ofChange wasmKnownWrong)

/-- 'mortiselaw22.PeepSame': WHATEVER THE INPUT: true; the input reads as it did. -/
def peepSameSpec : ChangeSpec := { name := "peepSame", fn := fun _ => fun
  | [d1, d2] => { results := [.lit (.bool true)], args := [d1, d2] }
  | _ => none }
def peepSameRow : OpenClaim := { program := "ythifgodgfhbnfaadoor", sum := "2ce3b392d164e89ba963dd33818391b9a07bbc72fae3da10b61e7066ecf25969", func := "mortise/mortiselaw22.PeepSame", spec := "peepSame", inPlace := ["internal/bytealg.IndexByteString", "internal/bytealg.IndexString"], unfollowed := true, recurses := true, named := ["mortise/wasm.signs", "internal/bytealg.MaxLen"], apart := false, laid := [("mortise/wasm.signs", laid_mortise_wasm_signs)] }
def PeepSameSaid : Prop := peepSameRow.holds Tryd.pinned (OpenSpec.ofChange peepSameSpec)

/-- ITS FALSE NEIGHBOUR: 'it returns false'. Refute it at one input. -/
def peepSameWrong : ChangeSpec := { name := "peepSame", fn := fun _ => fun
  | [d1, d2] => { results := [.lit (.bool false)], args := [d1, d2] }
  | _ => none }
def PeepSameWrongFalsely : Prop := peepSameRow.holds Tryd.pinned (OpenSpec.ofChange peepSameWrong)

/- THE SECOND FORM. 'bulk': how many values and letters a reading holds, each counted each time it is reached (what is shared counts as often as it is met; a slice's spare places count too). A statement '..UptoSaid' is the law's where the arguments, and the package variables that the reading takes, are together of bulk at most 1048576: NARROWER than '..Said'. Prove '..Said' where nothing that the law and all that it calls make is longer than what came in: it says more and counts as full. Else prove '..UptoSaid'. A law counts once. -/
mutual
def uptoBulk {H : Type} : DataW H → Nat
  | .lit (.string bytes) => bytes.length + 1
  | .lit _ => 1
  | .nil => 1
  | .ptr d => uptoBulk d + 1
  | .slice elems spare => uptoBulkAll elems + uptoBulkAll spare + 1
  | .agg parts => uptoBulkAll parts + 1
  | .iface _ d => uptoBulk d + 1
  | .map entries => uptoBulkEntries entries + 1
  | .held _ => 1
def uptoBulkAll {H : Type} : List (DataW H) → Nat
  | [] => 0
  | d :: r => uptoBulk d + uptoBulkAll r
def uptoBulkEntries {H : Type} : List (Lit × DataW H) → Nat
  | [] => 0
  | x :: r => uptoBulkEntry x + uptoBulkEntries r
def uptoBulkEntry {H : Type} : Lit × DataW H → Nat
  | (.string bytes, d) => bytes.length + uptoBulk d + 1
  | (_, d) => uptoBulk d + 1
 end
def uptoSmall : (H : Type) → List (DataW H) → Bool := fun _ ds => decide (uptoBulkAll ds ≤ 1048576)
def OpenSpec.upto (s : _root_.Go.ChangeSpec) : _root_.Go.OpenSpec := { _root_.Go.OpenSpec.ofChange s with cond := some uptoSmall }

/-- 'mortiselaw22.PeepMakes', WHERE WHAT IT READS IS OF BULK AT MOST 1048576: true; the input reads as it did. -/
def peepMakesUptoRow : OpenClaim := { program := "ythifgodgfhbnfaadoor", sum := "2ce3b392d164e89ba963dd33818391b9a07bbc72fae3da10b61e7066ecf25969", func := "mortise/mortiselaw22.PeepMakes", spec := "peepMakes", inPlace := ["internal/bytealg.IndexByteString", "internal/bytealg.IndexString"], unfollowed := true, recurses := true, named := ["mortise/wasm.signs", "internal/bytealg.MaxLen"], apart := false, laid := [("mortise/wasm.signs", laid_mortise_wasm_signs)], narrowed := true }
def PeepMakesUptoSaid : Prop := peepMakesUptoRow.holds Tryd.pinned (OpenSpec.upto peepMakesSpec)

/-- 'mortiselaw22.PeepLess', WHERE WHAT IT READS IS OF BULK AT MOST 1048576: true; the input reads as it did. -/
def peepLessUptoRow : OpenClaim := { program := "ythifgodgfhbnfaadoor", sum := "2ce3b392d164e89ba963dd33818391b9a07bbc72fae3da10b61e7066ecf25969", func := "mortise/mortiselaw22.PeepLess", spec := "peepLess", inPlace := ["internal/bytealg.IndexByteString", "internal/bytealg.IndexString"], unfollowed := true, recurses := true, named := ["mortise/wasm.signs", "internal/bytealg.MaxLen"], apart := false, laid := [("mortise/wasm.signs", laid_mortise_wasm_signs)], narrowed := true }
def PeepLessUptoSaid : Prop := peepLessUptoRow.holds Tryd.pinned (OpenSpec.upto peepLessSpec)

/-- 'mortiselaw12.WasmMore', WHERE WHAT IT READS IS OF BULK AT MOST 1048576: true; the input reads as it did. -/
def wasmMoreUptoRow : OpenClaim := { program := "ythifgodgfhbnfaadoor", sum := "2ce3b392d164e89ba963dd33818391b9a07bbc72fae3da10b61e7066ecf25969", func := "mortise/mortiselaw12.WasmMore", spec := "wasmMore", inPlace := ["internal/bytealg.IndexByteString", "internal/bytealg.IndexString"], unfollowed := true, recurses := true, named := ["mortise/wasm.signs", "internal/bytealg.MaxLen"], apart := false, laid := [("mortise/wasm.signs", laid_mortise_wasm_signs)], narrowed := true }
def WasmMoreUptoSaid : Prop := wasmMoreUptoRow.holds Tryd.pinned (OpenSpec.upto wasmMoreSpec)

/-- 'mortiselaw12.WasmBytes', WHERE WHAT IT READS IS OF BULK AT MOST 1048576: true; the input reads as it did. -/
def wasmBytesUptoRow : OpenClaim := { program := "ythifgodgfhbnfaadoor", sum := "2ce3b392d164e89ba963dd33818391b9a07bbc72fae3da10b61e7066ecf25969", func := "mortise/mortiselaw12.WasmBytes", spec := "wasmBytes", inPlace := ["internal/bytealg.IndexByteString", "internal/bytealg.IndexString"], unfollowed := true, recurses := true, named := ["mortise/wasm.signs", "internal/bytealg.MaxLen"], apart := false, laid := [("mortise/wasm.signs", laid_mortise_wasm_signs)], narrowed := true }
def WasmBytesUptoSaid : Prop := wasmBytesUptoRow.holds Tryd.pinned (OpenSpec.upto wasmBytesSpec)

/-- 'mortiselaw12.WasmKnown', WHERE WHAT IT READS IS OF BULK AT MOST 1048576: true; the input reads as it did. -/
def wasmKnownUptoRow : OpenClaim := { program := "ythifgodgfhbnfaadoor", sum := "2ce3b392d164e89ba963dd33818391b9a07bbc72fae3da10b61e7066ecf25969", func := "mortise/mortiselaw12.WasmKnown", spec := "wasmKnown", inPlace := ["internal/bytealg.IndexByteString", "internal/bytealg.IndexString"], unfollowed := true, recurses := true, named := ["mortise/wasm.signs", "internal/bytealg.MaxLen"], apart := false, laid := [("mortise/wasm.signs", laid_mortise_wasm_signs)], narrowed := true }
def WasmKnownUptoSaid : Prop := wasmKnownUptoRow.holds Tryd.pinned (OpenSpec.upto wasmKnownSpec)

/-- 'mortiselaw22.PeepSame', WHERE WHAT IT READS IS OF BULK AT MOST 1048576: true; the input reads as it did. -/
def peepSameUptoRow : OpenClaim := { program := "ythifgodgfhbnfaadoor", sum := "2ce3b392d164e89ba963dd33818391b9a07bbc72fae3da10b61e7066ecf25969", func := "mortise/mortiselaw22.PeepSame", spec := "peepSame", inPlace := ["internal/bytealg.IndexByteString", "internal/bytealg.IndexString"], unfollowed := true, recurses := true, named := ["mortise/wasm.signs", "internal/bytealg.MaxLen"], apart := false, laid := [("mortise/wasm.signs", laid_mortise_wasm_signs)], narrowed := true }
def PeepSameUptoSaid : Prop := peepSameUptoRow.holds Tryd.pinned (OpenSpec.upto peepSameSpec)

end Rows
end Go.Proofs.YthifgodgfhbnfaaDoor
