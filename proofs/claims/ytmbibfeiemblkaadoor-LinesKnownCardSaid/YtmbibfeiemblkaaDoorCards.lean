/-
  DERIVED. GIVEN WITH THE SEED: THE CARDS: each row of YtmbibfeiemblkaaDoorRows.lean that lists a variable, with what it lists TIED to the program's text (the seventh form; the later family's looks); each row that meets fmt, with fmt's text TOLD by the authors' own Lean function (tested against real Go, not proved from fmt's source: count such statements apart). THE CARD IS WHAT COUNTS. Prove the row's statement (the work); the ties are given (YtmbibfeiemblkaaDoorTie.lean); close each card by the builder's one call (the guide's Derived/Test/ToyasCard.lean, 'card_holds'). Laid BY PROGRAM, IN A SANDBOX (cutbox-door.mjs). By AI agents, Wed Nov 11 2026. No macro, syntax, notation, axiom, sorry.
-/
import Derived.Test.YtmbibfeiemblkaaDoorRows
import GoSem.ClaimSeven
namespace Go.Proofs.YtmbibfeiemblkaaDoor
namespace Rows

/-- THE TIED CARD OF 'mortiselaw26.LinesShown'. -/
def linesShownCard : Claim7 := { stood := { row := linesShownRow, standIns := [], harness := (true, "46a0abda7dd59079849d061fe6a7fe221cb8e720eb3cb55634013c57ab29cce4"), looks := false }, kinds := [], alts := [], laidByText := true, laidKinds := [.data, .data, .data, .data], laidTests := true, laidLooks := .later }
def LinesShownCardSaid : Prop := Claim7.holds Tryd.pinned (.plain (OpenSpec.ofChange linesShownSpec)) linesShownCard

/-- THE TIED CARD OF 'mortiselaw26.LinesTell'. -/
def linesTellCard : Claim7 := { stood := { row := linesTellRow, standIns := [], harness := (true, "46a0abda7dd59079849d061fe6a7fe221cb8e720eb3cb55634013c57ab29cce4"), looks := false }, kinds := [], alts := [], laidByText := true, laidKinds := [.data, .data, .data, .data], laidTests := true, laidLooks := .later }
def LinesTellCardSaid : Prop := Claim7.holds Tryd.pinned (.plain (OpenSpec.ofChange linesTellSpec)) linesTellCard

/-- THE TIED CARD OF 'mortiselaw26.LinesBack'. -/
def linesBackCard : Claim7 := { stood := { row := linesBackRow, standIns := [], harness := (true, "46a0abda7dd59079849d061fe6a7fe221cb8e720eb3cb55634013c57ab29cce4"), looks := false }, kinds := [], alts := [], laidByText := true, laidKinds := [.data, .data, .data, .data], laidTests := true, laidLooks := .later }
def LinesBackCardSaid : Prop := Claim7.holds Tryd.pinned (.plain (OpenSpec.ofChange linesBackSpec)) linesBackCard

/-- THE TIED CARD OF 'mortiselaw26.LinesKnown'. -/
def linesKnownCard : Claim7 := { stood := { row := linesKnownRow, standIns := [], harness := (true, "46a0abda7dd59079849d061fe6a7fe221cb8e720eb3cb55634013c57ab29cce4"), looks := false }, kinds := [], alts := [], laidByText := true, laidKinds := [.data, .data, .data, .data], laidTests := true, laidLooks := .later }
def LinesKnownCardSaid : Prop := Claim7.holds Tryd.pinned (.plain (OpenSpec.ofChange linesKnownSpec)) linesKnownCard

/-- THE SECOND FORM's CARD OF 'mortiselaw26.LinesShown'. -/
def linesShownUptoCard : Claim7 := { stood := { row := linesShownUptoRow, standIns := [], harness := (true, "46a0abda7dd59079849d061fe6a7fe221cb8e720eb3cb55634013c57ab29cce4"), looks := false }, kinds := [], alts := [], laidByText := true, laidKinds := [.data, .data, .data, .data], laidTests := true, laidLooks := .later }
def LinesShownUptoCardSaid : Prop := Claim7.holds Tryd.pinned (.plain (OpenSpec.upto linesShownSpec)) linesShownUptoCard

/-- THE SECOND FORM's CARD OF 'mortiselaw26.LinesTell'. -/
def linesTellUptoCard : Claim7 := { stood := { row := linesTellUptoRow, standIns := [], harness := (true, "46a0abda7dd59079849d061fe6a7fe221cb8e720eb3cb55634013c57ab29cce4"), looks := false }, kinds := [], alts := [], laidByText := true, laidKinds := [.data, .data, .data, .data], laidTests := true, laidLooks := .later }
def LinesTellUptoCardSaid : Prop := Claim7.holds Tryd.pinned (.plain (OpenSpec.upto linesTellSpec)) linesTellUptoCard

/-- THE SECOND FORM's CARD OF 'mortiselaw26.LinesBack'. -/
def linesBackUptoCard : Claim7 := { stood := { row := linesBackUptoRow, standIns := [], harness := (true, "46a0abda7dd59079849d061fe6a7fe221cb8e720eb3cb55634013c57ab29cce4"), looks := false }, kinds := [], alts := [], laidByText := true, laidKinds := [.data, .data, .data, .data], laidTests := true, laidLooks := .later }
def LinesBackUptoCardSaid : Prop := Claim7.holds Tryd.pinned (.plain (OpenSpec.upto linesBackSpec)) linesBackUptoCard

/-- THE SECOND FORM's CARD OF 'mortiselaw26.LinesKnown'. -/
def linesKnownUptoCard : Claim7 := { stood := { row := linesKnownUptoRow, standIns := [], harness := (true, "46a0abda7dd59079849d061fe6a7fe221cb8e720eb3cb55634013c57ab29cce4"), looks := false }, kinds := [], alts := [], laidByText := true, laidKinds := [.data, .data, .data, .data], laidTests := true, laidLooks := .later }
def LinesKnownUptoCardSaid : Prop := Claim7.holds Tryd.pinned (.plain (OpenSpec.upto linesKnownSpec)) linesKnownUptoCard
end Rows
end Go.Proofs.YtmbibfeiemblkaaDoor
