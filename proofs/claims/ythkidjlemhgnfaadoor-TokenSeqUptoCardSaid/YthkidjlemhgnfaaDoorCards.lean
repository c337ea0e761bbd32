/-
  DERIVED. GIVEN WITH THE SEED: THE CARDS: each row of YthkidjlemhgnfaaDoorRows.lean that lists a variable, with what it lists TIED to the program's text (the seventh form; the later family's looks); each row that meets fmt, with fmt's text TOLD by the authors' own Lean function (tested against real Go, not proved from fmt's source: count such statements apart). THE CARD IS WHAT COUNTS. Prove the row's statement (the work); the ties are given (YthkidjlemhgnfaaDoorTie.lean); close each card by the builder's one call (the guide's Derived/Test/ToyasCard.lean, 'card_holds'). Laid BY PROGRAM, IN A SANDBOX (cutbox-door.mjs). By AI agents, Wed Nov 11 2026. No macro, syntax, notation, axiom, sorry.
-/
import Derived.Test.YthkidjlemhgnfaaDoorRows
import GoSem.ClaimSeven
namespace Go.Proofs.YthkidjlemhgnfaaDoor
namespace Rows

/-- THE TIED CARD OF 'hallmarklaw04.TokenSeq'. -/
def tokenSeqCard : Claim7 := { stood := { row := tokenSeqRow, standIns := [], harness := (true, "64ebf3cd0131bd05a78275315aad8f960294bd8c1ac08156a5fb7a1a75ea48d0"), looks := false }, kinds := [], alts := [], laidByText := true, laidKinds := [.data, .pinned], laidTests := true, laidLooks := .later }
def TokenSeqCardSaid : Prop := Claim7.holds Tryd.pinned (.plain (OpenSpec.ofChange tokenSeqSpec)) tokenSeqCard

/-- THE SECOND FORM's CARD OF 'hallmarklaw04.TokenSeq'. -/
def tokenSeqUptoCard : Claim7 := { stood := { row := tokenSeqUptoRow, standIns := [], harness := (true, "64ebf3cd0131bd05a78275315aad8f960294bd8c1ac08156a5fb7a1a75ea48d0"), looks := false }, kinds := [], alts := [], laidByText := true, laidKinds := [.data, .pinned], laidTests := true, laidLooks := .later }
def TokenSeqUptoCardSaid : Prop := Claim7.holds Tryd.pinned (.plain (OpenSpec.upto tokenSeqSpec)) tokenSeqUptoCard
end Rows
end Go.Proofs.YthkidjlemhgnfaaDoor
