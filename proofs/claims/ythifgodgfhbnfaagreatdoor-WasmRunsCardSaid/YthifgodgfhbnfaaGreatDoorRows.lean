/-
  NARROWER THAN 'FOR EVERY INPUT', by the rows' own cells (each row's printed sentence says how): WasmRuns: laid.
  DERIVED. THE GIVEN ROWS OF THIS SEAT. 1 by the template 'for every input the law returns true; each argument reads behind the call as it read before'; 0 by the template 'total and deterministic' (their statements: YthifgodgfhbnfaaGreatDoorTotals.lean).
  GIVEN WITH THE SEED: the statements are not yours to turn. If you find one false, say at which input.
  Laid BY PROGRAM, IN A SANDBOX (cutbox-rows.mjs): the forced cells as the released guide's own fill.sh prints them over the translation ef5226adc3e3f80a… (all of the seat's roots in one cut). By AI agents, Wed Nov 11 2026. No macro, syntax, notation, axiom, sorry.
-/
import Derived.Test.YthifgodgfhbnfaaGreatDoorChecked
import GoSem.Claim
import GoSem.ClaimJoined
import GoSem.ClaimMapViews
import Derived.JoinedTies
import Derived.KernelRfl
namespace Go.Proofs.YthifgodgfhbnfaaGreatDoor
/- THE CELL 'sum', in the pinned program and in every row, IS THE sha256 OF THE DUMP (.gsa) THAT YthifgodgfhbnfaaGreatDoorProg.lean LOADS. Nothing in Lean hashes anything: it is a label: what it is worth is what the hold of that sum in a sandbox is worth. -/
noncomputable def Tryz.pinned : Pinned := { name := "ythifgodgfhbnfaagreatdoor", sum := "ef5226adc3e3f80a46b2e71f10cf9f2f55b603e23fb04c426833455062462880", checked := Tryz.checked }
namespace Rows
def none {H : Type} : Left H := { results := [], args := [] }

/- WHAT THE LISTED PACKAGE-LEVEL VARIABLES READ AS WHEN THE CALL BEGINS. Each datum BY PROGRAM (the guide's laid-datum.mjs) off the statement by which the dump's own 'gosem.cut.vars' lays the variable. In a bare row this is a premise. The card (YthifgodgfhbnfaaGreatDoorCards.lean) ties it to the program's text. -/
def laid_mortise_wasm_signs {H : Type} : DataW H := .agg [.agg [.lit (.string [97, 100, 100]), .lit (.string [43])], .agg [.lit (.string [115, 117, 98]), .lit (.string [45])], .agg [.lit (.string [109, 117, 108]), .lit (.string [42])], .agg [.lit (.string [100, 105, 118, 95, 115]), .lit (.string [47])], .agg [.lit (.string [114, 101, 109, 95, 115]), .lit (.string [37])], .agg [.lit (.string [97, 110, 100]), .lit (.string [38])], .agg [.lit (.string [111, 114]), .lit (.string [124])], .agg [.lit (.string [120, 111, 114]), .lit (.string [94])], .agg [.lit (.string [115, 104, 108]), .lit (.string [60, 60])], .agg [.lit (.string [115, 104, 114, 95, 115]), .lit (.string [62, 62])], .agg [.lit (.string [101, 113]), .lit (.string [61, 61])], .agg [.lit (.string [110, 101]), .lit (.string [33, 61])], .agg [.lit (.string [108, 116, 95, 115]), .lit (.string [60])], .agg [.lit (.string [108, 101, 95, 115]), .lit (.string [60, 61])], .agg [.lit (.string [103, 116, 95, 115]), .lit (.string [62])], .agg [.lit (.string [103, 101, 95, 115]), .lit (.string [62, 61])]]

/-- 'mortiselaw12.WasmRuns': WHATEVER THE INPUT: true; the input reads as it did. -/
def wasmRunsSpec : ChangeSpec := { name := "wasmRuns", fn := fun _ => fun
  | [d1, d2, d3] => { results := [.lit (.bool true)], args := [d1, d2, d3] }
  | _ => none }
def wasmRunsRow : OpenClaim := { program := "ythifgodgfhbnfaagreatdoor", sum := "ef5226adc3e3f80a46b2e71f10cf9f2f55b603e23fb04c426833455062462880", func := "mortise/mortiselaw12.WasmRuns", spec := "wasmRuns", inPlace := ["internal/bytealg.IndexByteString", "internal/bytealg.IndexString"], unfollowed := true, recurses := true, named := ["mortise/wasm.signs", "internal/bytealg.MaxLen"], apart := false, laid := [("mortise/wasm.signs", laid_mortise_wasm_signs)] }
def WasmRunsSaid : Prop := wasmRunsRow.holds Tryz.pinned (OpenSpec.ofChange wasmRunsSpec)

/-- ITS FALSE NEIGHBOUR: 'it returns false'. Refute it at one input. -/
def wasmRunsWrong : ChangeSpec := { name := "wasmRuns", fn := fun _ => fun
  | [d1, d2, d3] => { results := [.lit (.bool false)], args := [d1, d2, d3] }
  | _ => none }
def WasmRunsWrongFalsely : Prop := wasmRunsRow.holds Tryz.pinned (OpenSpec.ofChange wasmRunsWrong)

/- THE SECOND FORM. 'bulk': how many values and letters a reading holds, each counted each time it is reached (what is shared counts as often as it is met; a slice's spare places count too). A statement '..UptoSaid' is the law's where the arguments, and the package variables that the reading takes, are together of bulk at most 1048576: NARROWER than '..Said'. Prove '..Said' where nothing that the law and all that it calls make is longer than what came in: it says more and counts as full. Else prove '..UptoSaid'. A law counts once. -/
mutual
def uptoBulk {H : Type} : DataW H → Nat
  | .lit (.string bytes) => bytes.length + 1
  | .lit _ => 1
  | .nil => 1
  | .ptr d => uptoBulk d + 1
  | .slice elems spare => uptoBulkAll elems + uptoBulkAll spare + 1
  | .agg parts => uptoBulkAll parts + 1
  | .iface _ d => uptoBulk d + 1
  | .map entries => uptoBulkEntries entries + 1
  | .held _ => 1
def uptoBulkAll {H : Type} : List (DataW H) → Nat
  | [] => 0
  | d :: r => uptoBulk d + uptoBulkAll r
def uptoBulkEntries {H : Type} : List (Lit × DataW H) → Nat
  | [] => 0
  | x :: r => uptoBulkEntry x + uptoBulkEntries r
def uptoBulkEntry {H : Type} : Lit × DataW H → Nat
  | (.string bytes, d) => bytes.length + uptoBulk d + 1
  | (_, d) => uptoBulk d + 1
 end
def uptoSmall : (H : Type) → List (DataW H) → Bool := fun _ ds => decide (uptoBulkAll ds ≤ 1048576)
def OpenSpec.upto (s : _root_.Go.ChangeSpec) : _root_.Go.OpenSpec := { _root_.Go.OpenSpec.ofChange s with cond := some uptoSmall }

/-- 'mortiselaw12.WasmRuns', WHERE WHAT IT READS IS OF BULK AT MOST 1048576: true; the input reads as it did. -/
def wasmRunsUptoRow : OpenClaim := { program := "ythifgodgfhbnfaagreatdoor", sum := "ef5226adc3e3f80a46b2e71f10cf9f2f55b603e23fb04c426833455062462880", func := "mortise/mortiselaw12.WasmRuns", spec := "wasmRuns", inPlace := ["internal/bytealg.IndexByteString", "internal/bytealg.IndexString"], unfollowed := true, recurses := true, named := ["mortise/wasm.signs", "internal/bytealg.MaxLen"], apart := false, laid := [("mortise/wasm.signs", laid_mortise_wasm_signs)], narrowed := true }
def WasmRunsUptoSaid : Prop := wasmRunsUptoRow.holds Tryz.pinned (OpenSpec.upto wasmRunsSpec)

end Rows
end Go.Proofs.YthifgodgfhbnfaaGreatDoor
