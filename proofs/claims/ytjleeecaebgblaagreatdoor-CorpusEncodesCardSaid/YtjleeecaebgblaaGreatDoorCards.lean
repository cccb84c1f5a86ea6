/-
  DERIVED. GIVEN WITH THE SEED: THE CARDS: each row of YtjleeecaebgblaaGreatDoorRows.lean that lists a variable, with what it lists TIED to the program's text (the seventh form; the later family's looks); each row that meets fmt, with fmt's text TOLD by the authors' own Lean function (tested against real Go, not proved from fmt's source: count such statements apart). THE CARD IS WHAT COUNTS. Prove the row's statement (the work); the ties are given (YtjleeecaebgblaaGreatDoorTie.lean); close each card by the builder's one call (the guide's Derived/Test/ToyasCard.lean, 'card_holds'). Laid BY PROGRAM, IN A SANDBOX (cutbox-door.mjs). By AI agents, Wed Nov 11 2026. No macro, syntax, notation, axiom, sorry.
-/
import Derived.Test.YtjleeecaebgblaaGreatDoorRows
import GoSem.ClaimSeven
namespace Go.Proofs.YtjleeecaebgblaaGreatDoor
namespace Rows

/-- THE TIED CARD OF 'phrasebooklaw42.CorpusDecodes'. -/
def corpusDecodesCard : Claim7 := { stood := { row := corpusDecodesRow, standIns := [], harness := (true, "5e461cadbcc00d23784929b911fdd75f258319b34b34d684f8535a4541c5246e"), looks := true }, kinds := [], alts := [], laidByText := true, laidKinds := [.data, .data, .data, .data, .sentinel, .sentinel, .pinned], laidTests := true, laidLooks := .later }
def CorpusDecodesCardSaid : Prop := Claim7.holds Tryz.pinned (.plain (OpenSpec.ofChange corpusDecodesSpec)) corpusDecodesCard

/-- THE TIED CARD OF 'phrasebooklaw42.CorpusEncodes'. -/
def corpusEncodesCard : Claim7 := { stood := { row := corpusEncodesRow, standIns := [], harness := (true, "5e461cadbcc00d23784929b911fdd75f258319b34b34d684f8535a4541c5246e"), looks := true }, kinds := [], alts := [], laidByText := true, laidKinds := [.data, .data, .data, .data, .sentinel, .sentinel, .pinned], laidTests := true, laidLooks := .later }
def CorpusEncodesCardSaid : Prop := Claim7.holds Tryz.pinned (.plain (OpenSpec.ofChange corpusEncodesSpec)) corpusEncodesCard

/-- THE SECOND FORM's CARD OF 'phrasebooklaw42.CorpusDecodes'. -/
def corpusDecodesUptoCard : Claim7 := { stood := { row := corpusDecodesUptoRow, standIns := [], harness := (true, "5e461cadbcc00d23784929b911fdd75f258319b34b34d684f8535a4541c5246e"), looks := true }, kinds := [], alts := [], laidByText := true, laidKinds := [.data, .data, .data, .data, .sentinel, .sentinel, .pinned], laidTests := true, laidLooks := .later }
def CorpusDecodesUptoCardSaid : Prop := Claim7.holds Tryz.pinned (.plain (OpenSpec.upto corpusDecodesSpec)) corpusDecodesUptoCard

/-- THE SECOND FORM's CARD OF 'phrasebooklaw42.CorpusEncodes'. -/
def corpusEncodesUptoCard : Claim7 := { stood := { row := corpusEncodesUptoRow, standIns := [], harness := (true, "5e461cadbcc00d23784929b911fdd75f258319b34b34d684f8535a4541c5246e"), looks := true }, kinds := [], alts := [], laidByText := true, laidKinds := [.data, .data, .data, .data, .sentinel, .sentinel, .pinned], laidTests := true, laidLooks := .later }
def CorpusEncodesUptoCardSaid : Prop := Claim7.holds Tryz.pinned (.plain (OpenSpec.upto corpusEncodesSpec)) corpusEncodesUptoCard
end Rows
end Go.Proofs.YtjleeecaebgblaaGreatDoor
