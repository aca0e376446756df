/-
  NARROWER THAN 'FOR EVERY INPUT', by the rows' own cells (each row's printed sentence says how): BinReads: laid · BinKnown: laid · BinMakes: laid.
  DERIVED. THE GIVEN ROWS OF THIS SEAT. 3 by the template 'for every input the law returns true; each argument reads behind the call as it read before'; 0 by the template 'total and deterministic' (their statements: YthejpoplbllcbaaGreatDoorTotals.lean).
  GIVEN WITH THE SEED: the statements are not yours to turn. If you find one false, say at which input.
  Laid BY PROGRAM, IN A SANDBOX (cutbox-rows.mjs): the forced cells as the released guide's own fill.sh prints them over the translation 3efd9235683669dd… (all of the seat's roots in one cut). By AI agents, Wed Nov 11 2026. No macro, syntax, notation, axiom, sorry.
-/
import Derived.Test.YthejpoplbllcbaaGreatDoorChecked
import GoSem.Claim
import GoSem.ClaimJoined
import GoSem.ClaimMapViews
import Derived.JoinedTies
import Derived.KernelRfl
namespace Go.Proofs.YthejpoplbllcbaaGreatDoor
/- THE CELL 'sum', in the pinned program and in every row, IS THE sha256 OF THE DUMP (.gsa) THAT YthejpoplbllcbaaGreatDoorProg.lean LOADS. Nothing in Lean hashes anything: it is a label: what it is worth is what the hold of that sum in a sandbox is worth. -/
noncomputable def Tryz.pinned : Pinned := { name := "ythejpoplbllcbaagreatdoor", sum := "3efd9235683669dde5e7c0319c805e870be816550146f07dcb69cd68091236cb", checked := Tryz.checked }
namespace Rows
def none {H : Type} : Left H := { results := [], args := [] }

/- WHAT THE LISTED PACKAGE-LEVEL VARIABLES READ AS WHEN THE CALL BEGINS. Each datum BY PROGRAM (the guide's laid-datum.mjs) off the statement by which the dump's own 'gosem.cut.vars' lays the variable. In a bare row this is a premise. The card (YthejpoplbllcbaaGreatDoorCards.lean) ties it to the program's text. -/
def laid_unicode_White_Space {H : Type} : DataW H := .ptr (.agg [.slice [.agg [.lit (.int .u16 9), .lit (.int .u16 13), .lit (.int .u16 1)], .agg [.lit (.int .u16 32), .lit (.int .u16 133), .lit (.int .u16 101)], .agg [.lit (.int .u16 160), .lit (.int .u16 5760), .lit (.int .u16 5600)], .agg [.lit (.int .u16 8192), .lit (.int .u16 8202), .lit (.int .u16 1)], .agg [.lit (.int .u16 8232), .lit (.int .u16 8233), .lit (.int .u16 1)], .agg [.lit (.int .u16 8239), .lit (.int .u16 8287), .lit (.int .u16 48)], .agg [.lit (.int .u16 12288), .lit (.int .u16 12288), .lit (.int .u16 1)]] [], .nil, .lit (.int .i64 2)])
def laid_strings_asciiSpace {H : Type} : DataW H := .agg [.lit (.int .u8 0), .lit (.int .u8 0), .lit (.int .u8 0), .lit (.int .u8 0), .lit (.int .u8 0), .lit (.int .u8 0), .lit (.int .u8 0), .lit (.int .u8 0), .lit (.int .u8 0), .lit (.int .u8 1), .lit (.int .u8 1), .lit (.int .u8 1), .lit (.int .u8 1), .lit (.int .u8 1), .lit (.int .u8 0), .lit (.int .u8 0), .lit (.int .u8 0), .lit (.int .u8 0), .lit (.int .u8 0), .lit (.int .u8 0), .lit (.int .u8 0), .lit (.int .u8 0), .lit (.int .u8 0), .lit (.int .u8 0), .lit (.int .u8 0), .lit (.int .u8 0), .lit (.int .u8 0), .lit (.int .u8 0), .lit (.int .u8 0), .lit (.int .u8 0), .lit (.int .u8 0), .lit (.int .u8 0), .lit (.int .u8 1), .lit (.int .u8 0), .lit (.int .u8 0), .lit (.int .u8 0), .lit (.int .u8 0), .lit (.int .u8 0), .lit (.int .u8 0), .lit (.int .u8 0), .lit (.int .u8 0), .lit (.int .u8 0), .lit (.int .u8 0), .lit (.int .u8 0), .lit (.int .u8 0), .lit (.int .u8 0), .lit (.int .u8 0), .lit (.int .u8 0), .lit (.int .u8 0), .lit (.int .u8 0), .lit (.int .u8 0), .lit (.int .u8 0), .lit (.int .u8 0), .lit (.int .u8 0), .lit (.int .u8 0), .lit (.int .u8 0), .lit (.int .u8 0), .lit (.int .u8 0), .lit (.int .u8 0), .lit (.int .u8 0), .lit (.int .u8 0), .lit (.int .u8 0), .lit (.int .u8 0), .lit (.int .u8 0), .lit (.int .u8 0), .lit (.int .u8 0), .lit (.int .u8 0), .lit (.int .u8 0), .lit (.int .u8 0), .lit (.int .u8 0), .lit (.int .u8 0), .lit (.int .u8 0), .lit (.int .u8 0), .lit (.int .u8 0), .lit (.int .u8 0), .lit (.int .u8 0), .lit (.int .u8 0), .lit (.int .u8 0), .lit (.int .u8 0), .lit (.int .u8 0), .lit (.int .u8 0), .lit (.int .u8 0), .lit (.int .u8 0), .lit (.int .u8 0), .lit (.int .u8 0), .lit (.int .u8 0), .lit (.int .u8 0), .lit (.int .u8 0), .lit (.int .u8 0), .lit (.int .u8 0), .lit (.int .u8 0), .lit (.int .u8 0), .lit (.int .u8 0), .lit (.int .u8 0), .lit (.int .u8 0), .lit (.int .u8 0), .lit (.int .u8 0), .lit (.int .u8 0), .lit (.int .u8 0), .lit (.int .u8 0), .lit (.int .u8 0), .lit (.int .u8 0), .lit (.int .u8 0), .lit (.int .u8 0), .lit (.int .u8 0), .lit (.int .u8 0), .lit (.int .u8 0), .lit (.int .u8 0), .lit (.int .u8 0), .lit (.int .u8 0), .lit (.int .u8 0), .lit (.int .u8 0), .lit (.int .u8 0), .lit (.int .u8 0), .lit (.int .u8 0), .lit (.int .u8 0), .lit (.int .u8 0), .lit (.int .u8 0), .lit (.int .u8 0), .lit (.int .u8 0), .lit (.int .u8 0), .lit (.int .u8 0), .lit (.int .u8 0), .lit (.int .u8 0), .lit (.int .u8 0), .lit (.int .u8 0), .lit (.int .u8 0), .lit (.int .u8 0), .lit (.int .u8 0), .lit (.int .u8 0), .lit (.int .u8 0), .lit (.int .u8 0), .lit (.int .u8 0), .lit (.int .u8 0), .lit (.int .u8 0), .lit (.int .u8 0), .lit (.int .u8 0), .lit (.int .u8 0), .lit (.int .u8 0), .lit (.int .u8 0), .lit (.int .u8 0), .lit (.int .u8 0), .lit (.int .u8 0), .lit (.int .u8 0), .lit (.int .u8 0), .lit (.int .u8 0), .lit (.int .u8 0), .lit (.int .u8 0), .lit (.int .u8 0), .lit (.int .u8 0), .lit (.int .u8 0), .lit (.int .u8 0), .lit (.int .u8 0), .lit (.int .u8 0), .lit (.int .u8 0), .lit (.int .u8 0), .lit (.int .u8 0), .lit (.int .u8 0), .lit (.int .u8 0), .lit (.int .u8 0), .lit (.int .u8 0), .lit (.int .u8 0), .lit (.int .u8 0), .lit (.int .u8 0), .lit (.int .u8 0), .lit (.int .u8 0), .lit (.int .u8 0), .lit (.int .u8 0), .lit (.int .u8 0), .lit (.int .u8 0), .lit (.int .u8 0), .lit (.int .u8 0), .lit (.int .u8 0), .lit (.int .u8 0), .lit (.int .u8 0), .lit (.int .u8 0), .lit (.int .u8 0), .lit (.int .u8 0), .lit (.int .u8 0), .lit (.int .u8 0), .lit (.int .u8 0), .lit (.int .u8 0), .lit (.int .u8 0), .lit (.int .u8 0), .lit (.int .u8 0), .lit (.int .u8 0), .lit (.int .u8 0), .lit (.int .u8 0), .lit (.int .u8 0), .lit (.int .u8 0), .lit (.int .u8 0), .lit (.int .u8 0), .lit (.int .u8 0), .lit (.int .u8 0), .lit (.int .u8 0), .lit (.int .u8 0), .lit (.int .u8 0), .lit (.int .u8 0), .lit (.int .u8 0), .lit (.int .u8 0), .lit (.int .u8 0), .lit (.int .u8 0), .lit (.int .u8 0), .lit (.int .u8 0), .lit (.int .u8 0), .lit (.int .u8 0), .lit (.int .u8 0), .lit (.int .u8 0), .lit (.int .u8 0), .lit (.int .u8 0), .lit (.int .u8 0), .lit (.int .u8 0), .lit (.int .u8 0), .lit (.int .u8 0), .lit (.int .u8 0), .lit (.int .u8 0), .lit (.int .u8 0), .lit (.int .u8 0), .lit (.int .u8 0), .lit (.int .u8 0), .lit (.int .u8 0), .lit (.int .u8 0), .lit (.int .u8 0), .lit (.int .u8 0), .lit (.int .u8 0), .lit (.int .u8 0), .lit (.int .u8 0), .lit (.int .u8 0), .lit (.int .u8 0), .lit (.int .u8 0), .lit (.int .u8 0), .lit (.int .u8 0), .lit (.int .u8 0), .lit (.int .u8 0), .lit (.int .u8 0), .lit (.int .u8 0), .lit (.int .u8 0), .lit (.int .u8 0), .lit (.int .u8 0), .lit (.int .u8 0), .lit (.int .u8 0), .lit (.int .u8 0), .lit (.int .u8 0), .lit (.int .u8 0), .lit (.int .u8 0), .lit (.int .u8 0), .lit (.int .u8 0), .lit (.int .u8 0), .lit (.int .u8 0), .lit (.int .u8 0), .lit (.int .u8 0), .lit (.int .u8 0), .lit (.int .u8 0), .lit (.int .u8 0), .lit (.int .u8 0), .lit (.int .u8 0)]
def laid_mortise_bin_bytesOf {H : Type} : DataW H := .agg [.lit (.string [106, 107, 108, 109, 111, 113, 114, 115, 116, 117, 70, 71, 72, 74, 76, 78]), .lit (.string [124, 125, 126, 127, 129, 131, 132, 133, 134, 135, 81, 82, 83, 85, 87, 89])]
def laid_mortise_bin_plain {H : Type} : DataW H := .map [(.int .u8 0, .agg [.lit (.int .i64 17), .lit (.int .i64 0), .lit (.int .i64 0), .lit (.int .i64 0), .lit (.int .i64 0), .lit (.string [])]), (.int .u8 15, .agg [.lit (.int .i64 16), .lit (.int .i64 0), .lit (.int .i64 0), .lit (.int .i64 0), .lit (.int .i64 0), .lit (.string [])]), (.int .u8 26, .agg [.lit (.int .i64 18), .lit (.int .i64 0), .lit (.int .i64 0), .lit (.int .i64 0), .lit (.int .i64 0), .lit (.string [])]), (.int .u8 40, .agg [.lit (.int .i64 8), .lit (.int .i64 1), .lit (.int .i64 4), .lit (.int .i64 0), .lit (.int .i64 0), .lit (.string [])]), (.int .u8 41, .agg [.lit (.int .i64 8), .lit (.int .i64 2), .lit (.int .i64 8), .lit (.int .i64 0), .lit (.int .i64 0), .lit (.string [])]), (.int .u8 44, .agg [.lit (.int .i64 8), .lit (.int .i64 1), .lit (.int .i64 1), .lit (.int .i64 0), .lit (.int .i64 0), .lit (.string [])]), (.int .u8 54, .agg [.lit (.int .i64 9), .lit (.int .i64 1), .lit (.int .i64 4), .lit (.int .i64 0), .lit (.int .i64 0), .lit (.string [])]), (.int .u8 55, .agg [.lit (.int .i64 9), .lit (.int .i64 2), .lit (.int .i64 8), .lit (.int .i64 0), .lit (.int .i64 0), .lit (.string [])]), (.int .u8 58, .agg [.lit (.int .i64 9), .lit (.int .i64 1), .lit (.int .i64 1), .lit (.int .i64 0), .lit (.int .i64 0), .lit (.string [])]), (.int .u8 69, .agg [.lit (.int .i64 5), .lit (.int .i64 1), .lit (.int .i64 0), .lit (.int .i64 0), .lit (.int .i64 0), .lit (.string [])]), (.int .u8 80, .agg [.lit (.int .i64 5), .lit (.int .i64 2), .lit (.int .i64 0), .lit (.int .i64 0), .lit (.int .i64 0), .lit (.string [])]), (.int .u8 167, .agg [.lit (.int .i64 6), .lit (.int .i64 0), .lit (.int .i64 0), .lit (.int .i64 0), .lit (.int .i64 0), .lit (.string [])]), (.int .u8 172, .agg [.lit (.int .i64 7), .lit (.int .i64 0), .lit (.int .i64 0), .lit (.int .i64 0), .lit (.int .i64 0), .lit (.string [])])]
def laid_mortise_bin_numbered {H : Type} : DataW H := .map [(.int .u8 12, .agg [.lit (.int .i64 14), .lit (.int .i64 0), .lit (.int .i64 0), .lit (.int .i64 0), .lit (.int .i64 0), .lit (.string [])]), (.int .u8 13, .agg [.lit (.int .i64 15), .lit (.int .i64 0), .lit (.int .i64 0), .lit (.int .i64 0), .lit (.int .i64 0), .lit (.string [])]), (.int .u8 16, .agg [.lit (.int .i64 10), .lit (.int .i64 0), .lit (.int .i64 0), .lit (.int .i64 0), .lit (.int .i64 0), .lit (.string [])]), (.int .u8 32, .agg [.lit (.int .i64 2), .lit (.int .i64 0), .lit (.int .i64 0), .lit (.int .i64 0), .lit (.int .i64 0), .lit (.string [])]), (.int .u8 33, .agg [.lit (.int .i64 3), .lit (.int .i64 0), .lit (.int .i64 0), .lit (.int .i64 0), .lit (.int .i64 0), .lit (.string [])]), (.int .u8 65, .agg [.lit (.int .i64 1), .lit (.int .i64 1), .lit (.int .i64 0), .lit (.int .i64 0), .lit (.int .i64 0), .lit (.string [])]), (.int .u8 66, .agg [.lit (.int .i64 1), .lit (.int .i64 2), .lit (.int .i64 0), .lit (.int .i64 0), .lit (.int .i64 0), .lit (.string [])])]
def laid_mortise_wasm_signs {H : Type} : DataW H := .agg [.agg [.lit (.string [97, 100, 100]), .lit (.string [43])], .agg [.lit (.string [115, 117, 98]), .lit (.string [45])], .agg [.lit (.string [109, 117, 108]), .lit (.string [42])], .agg [.lit (.string [100, 105, 118, 95, 115]), .lit (.string [47])], .agg [.lit (.string [114, 101, 109, 95, 115]), .lit (.string [37])], .agg [.lit (.string [97, 110, 100]), .lit (.string [38])], .agg [.lit (.string [111, 114]), .lit (.string [124])], .agg [.lit (.string [120, 111, 114]), .lit (.string [94])], .agg [.lit (.string [115, 104, 108]), .lit (.string [60, 60])], .agg [.lit (.string [115, 104, 114, 95, 115]), .lit (.string [62, 62])], .agg [.lit (.string [101, 113]), .lit (.string [61, 61])], .agg [.lit (.string [110, 101]), .lit (.string [33, 61])], .agg [.lit (.string [108, 116, 95, 115]), .lit (.string [60])], .agg [.lit (.string [108, 101, 95, 115]), .lit (.string [60, 61])], .agg [.lit (.string [103, 116, 95, 115]), .lit (.string [62])], .agg [.lit (.string [103, 101, 95, 115]), .lit (.string [62, 61])]]

/-- 'mortiselaw20.BinReads': WHATEVER THE INPUT: true; the input reads as it did. -/
def binReadsSpec : ChangeSpec := { name := "binReads", fn := fun _ => fun
  | [d] => { results := [.lit (.bool true)], args := [d] }
  | _ => none }
def binReadsRow : OpenClaim := { program := "ythejpoplbllcbaagreatdoor", sum := "3efd9235683669dde5e7c0319c805e870be816550146f07dcb69cd68091236cb", func := "mortise/mortiselaw20.BinReads", spec := "binReads", inPlace := ["internal/bytealg.IndexByteString"], unfollowed := true, recurses := true, named := ["mortise/bin.bytesOf", "mortise/bin.plain", "mortise/bin.numbered", "strings.asciiSpace", "unicode.White_Space"], apart := false, laid := [("unicode.White_Space", laid_unicode_White_Space), ("strings.asciiSpace", laid_strings_asciiSpace), ("mortise/bin.bytesOf", laid_mortise_bin_bytesOf), ("mortise/bin.plain", laid_mortise_bin_plain), ("mortise/bin.numbered", laid_mortise_bin_numbered)] }
def BinReadsSaid : Prop := binReadsRow.holds Tryz.pinned (OpenSpec.ofChange binReadsSpec)

/-- ITS FALSE NEIGHBOUR: 'it returns false'. Refute it at one input. -/
def binReadsWrong : ChangeSpec := { name := "binReads", fn := fun _ => fun
  | [d] => { results := [.lit (.bool false)], args := [d] }
  | _ => none }
def BinReadsWrongFalsely : Prop := binReadsRow.holds Tryz.pinned (OpenSpec.ofChange binReadsWrong)

/-- 'mortiselaw20.BinKnown': WHATEVER THE INPUT: true; the input reads as it did. -/
def binKnownSpec : ChangeSpec := { name := "binKnown", fn := fun _ => fun
  | [] => { results := [.lit (.bool true)], args := [] }
  | _ => none }
def binKnownRow : OpenClaim := { program := "ythejpoplbllcbaagreatdoor", sum := "3efd9235683669dde5e7c0319c805e870be816550146f07dcb69cd68091236cb", func := "mortise/mortiselaw20.BinKnown", spec := "binKnown", inPlace := ["internal/bytealg.IndexByteString"], unfollowed := true, recurses := true, named := ["mortise/bin.bytesOf", "mortise/bin.plain", "mortise/bin.numbered", "strings.asciiSpace", "unicode.White_Space"], apart := false, laid := [("unicode.White_Space", laid_unicode_White_Space), ("strings.asciiSpace", laid_strings_asciiSpace), ("mortise/bin.bytesOf", laid_mortise_bin_bytesOf), ("mortise/bin.plain", laid_mortise_bin_plain), ("mortise/bin.numbered", laid_mortise_bin_numbered)] }
def BinKnownSaid : Prop := binKnownRow.holds Tryz.pinned (OpenSpec.ofChange binKnownSpec)

/-- ITS FALSE NEIGHBOUR: 'it returns false'. Refute it at one input. -/
def binKnownWrong : ChangeSpec := { name := "binKnown", fn := fun _ => fun
  | [] => { results := [.lit (.bool false)], args := [] }
  | _ => none }
def BinKnownWrongFalsely : Prop := binKnownRow.holds Tryz.pinned (OpenSpec.ofChange binKnownWrong)

/-- 'mortiselaw20.BinMakes': WHATEVER THE INPUT: true; the input reads as it did. -/
def binMakesSpec : ChangeSpec := { name := "binMakes", fn := fun _ => fun
  | [d1, d2] => { results := [.lit (.bool true)], args := [d1, d2] }
  | _ => none }
def binMakesRow : OpenClaim := { program := "ythejpoplbllcbaagreatdoor", sum := "3efd9235683669dde5e7c0319c805e870be816550146f07dcb69cd68091236cb", func := "mortise/mortiselaw20.BinMakes", spec := "binMakes", inPlace := ["internal/bytealg.IndexByteString", "internal/bytealg.IndexString"], unfollowed := true, recurses := true, named := ["mortise/wasm.signs", "internal/bytealg.MaxLen", "mortise/bin.bytesOf", "mortise/bin.plain", "mortise/bin.numbered", "strings.asciiSpace", "unicode.White_Space"], apart := false, laid := [("unicode.White_Space", laid_unicode_White_Space), ("strings.asciiSpace", laid_strings_asciiSpace), ("mortise/bin.bytesOf", laid_mortise_bin_bytesOf), ("mortise/bin.plain", laid_mortise_bin_plain), ("mortise/bin.numbered", laid_mortise_bin_numbered), ("mortise/wasm.signs", laid_mortise_wasm_signs)] }
def BinMakesSaid : Prop := binMakesRow.holds Tryz.pinned (OpenSpec.ofChange binMakesSpec)

/-- ITS FALSE NEIGHBOUR: 'it returns false'. Refute it at one input. -/
def binMakesWrong : ChangeSpec := { name := "binMakes", fn := fun _ => fun
  | [d1, d2] => { results := [.lit (.bool false)], args := [d1, d2] }
  | _ => none }
def BinMakesWrongFalsely : Prop := binMakesRow.holds Tryz.pinned (OpenSpec.ofChange binMakesWrong)

/- THE SECOND FORM. 'bulk': how many values and letters a reading holds, each counted each time it is reached (what is shared counts as often as it is met; a slice's spare places count too). A statement '..UptoSaid' is the law's where the arguments, and the package variables that the reading takes, are together of bulk at most 1048576: NARROWER than '..Said'. Prove '..Said' where nothing that the law and all that it calls make is longer than what came in: it says more and counts as full. Else prove '..UptoSaid'. A law counts once. -/
mutual
def uptoBulk {H : Type} : DataW H → Nat
  | .lit (.string bytes) => bytes.length + 1
  | .lit _ => 1
  | .nil => 1
  | .ptr d => uptoBulk d + 1
  | .slice elems spare => uptoBulkAll elems + uptoBulkAll spare + 1
  | .agg parts => uptoBulkAll parts + 1
  | .iface _ d => uptoBulk d + 1
  | .map entries => uptoBulkEntries entries + 1
  | .held _ => 1
def uptoBulkAll {H : Type} : List (DataW H) → Nat
  | [] => 0
  | d :: r => uptoBulk d + uptoBulkAll r
def uptoBulkEntries {H : Type} : List (Lit × DataW H) → Nat
  | [] => 0
  | x :: r => uptoBulkEntry x + uptoBulkEntries r
def uptoBulkEntry {H : Type} : Lit × DataW H → Nat
  | (.string bytes, d) => bytes.length + uptoBulk d + 1
  | (_, d) => uptoBulk d + 1
 end
def uptoSmall : (H : Type) → List (DataW H) → Bool := fun _ ds => decide (uptoBulkAll ds ≤ 1048576)
def OpenSpec.upto (s : _root_.Go.ChangeSpec) : _root_.Go.OpenSpec := { _root_.Go.OpenSpec.ofChange s with cond := some uptoSmall }

/-- 'mortiselaw20.BinReads', WHERE WHAT IT READS IS OF BULK AT MOST 1048576: true; the input reads as it did. -/
def binReadsUptoRow : OpenClaim := { program := "ythejpoplbllcbaagreatdoor", sum := "3efd9235683669dde5e7c0319c805e870be816550146f07dcb69cd68091236cb", func := "mortise/mortiselaw20.BinReads", spec := "binReads", inPlace := ["internal/bytealg.IndexByteString"], unfollowed := true, recurses := true, named := ["mortise/bin.bytesOf", "mortise/bin.plain", "mortise/bin.numbered", "strings.asciiSpace", "unicode.White_Space"], apart := false, laid := [("unicode.White_Space", laid_unicode_White_Space), ("strings.asciiSpace", laid_strings_asciiSpace), ("mortise/bin.bytesOf", laid_mortise_bin_bytesOf), ("mortise/bin.plain", laid_mortise_bin_plain), ("mortise/bin.numbered", laid_mortise_bin_numbered)], narrowed := true }
def BinReadsUptoSaid : Prop := binReadsUptoRow.holds Tryz.pinned (OpenSpec.upto binReadsSpec)

/-- 'mortiselaw20.BinKnown', WHERE WHAT IT READS IS OF BULK AT MOST 1048576: true; the input reads as it did. -/
def binKnownUptoRow : OpenClaim := { program := "ythejpoplbllcbaagreatdoor", sum := "3efd9235683669dde5e7c0319c805e870be816550146f07dcb69cd68091236cb", func := "mortise/mortiselaw20.BinKnown", spec := "binKnown", inPlace := ["internal/bytealg.IndexByteString"], unfollowed := true, recurses := true, named := ["mortise/bin.bytesOf", "mortise/bin.plain", "mortise/bin.numbered", "strings.asciiSpace", "unicode.White_Space"], apart := false, laid := [("unicode.White_Space", laid_unicode_White_Space), ("strings.asciiSpace", laid_strings_asciiSpace), ("mortise/bin.bytesOf", laid_mortise_bin_bytesOf), ("mortise/bin.plain", laid_mortise_bin_plain), ("mortise/bin.numbered", laid_mortise_bin_numbered)], narrowed := true }
def BinKnownUptoSaid : Prop := binKnownUptoRow.holds Tryz.pinned (OpenSpec.upto binKnownSpec)

/-- 'mortiselaw20.BinMakes', WHERE WHAT IT READS IS OF BULK AT MOST 1048576: true; the input reads as it did. -/
def binMakesUptoRow : OpenClaim := { program := "ythejpoplbllcbaagreatdoor", sum := "3efd9235683669dde5e7c0319c805e870be816550146f07dcb69cd68091236cb", func := "mortise/mortiselaw20.BinMakes", spec := "binMakes", inPlace := ["internal/bytealg.IndexByteString", "internal/bytealg.IndexString"], unfollowed := true, recurses := true, named := ["mortise/wasm.signs", "internal/bytealg.MaxLen", "mortise/bin.bytesOf", "mortise/bin.plain", "mortise/bin.numbered", "strings.asciiSpace", "unicode.White_Space"], apart := false, laid := [("unicode.White_Space", laid_unicode_White_Space), ("strings.asciiSpace", laid_strings_asciiSpace), ("mortise/bin.bytesOf", laid_mortise_bin_bytesOf), ("mortise/bin.plain", laid_mortise_bin_plain), ("mortise/bin.numbered", laid_mortise_bin_numbered), ("mortise/wasm.signs", laid_mortise_wasm_signs)], narrowed := true }
def BinMakesUptoSaid : Prop := binMakesUptoRow.holds Tryz.pinned (OpenSpec.upto binMakesSpec)

end Rows
end Go.Proofs.YthejpoplbllcbaaGreatDoor
