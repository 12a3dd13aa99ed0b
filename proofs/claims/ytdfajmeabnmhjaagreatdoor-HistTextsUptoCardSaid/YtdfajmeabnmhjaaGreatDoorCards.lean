/-
  DERIVED. GIVEN WITH THE SEED: THE CARDS: each row of YtdfajmeabnmhjaaGreatDoorRows.lean that lists a variable, with what it lists TIED to the program's text (the seventh form; the later family's looks); each row that meets fmt, with fmt's text TOLD by the authors' own Lean function (tested against real Go, not proved from fmt's source: count such statements apart). THE CARD IS WHAT COUNTS. Prove the row's statement (the work); the ties are given (YtdfajmeabnmhjaaGreatDoorTie.lean); close each card by the builder's one call (the guide's Derived/Test/ToyasCard.lean, 'card_holds'). Laid BY PROGRAM, IN A SANDBOX (cutbox-door.mjs). By AI agents, Wed Nov 11 2026. No macro, syntax, notation, axiom, sorry.
-/
import Derived.Test.YtdfajmeabnmhjaaGreatDoorRows
import GoSem.ClaimSeven
namespace Go.Proofs.YtdfajmeabnmhjaaGreatDoor
namespace Rows

/-- THE TIED CARD OF 'weirlaw30.HistTexts'. -/
def histTextsCard : Claim7 := { stood := { row := histTextsRow, standIns := [], harness := (true, "9ed5276f1e3497ab0e1f290e9965947d87a4d4fbfb6224771009288f49575e0c"), looks := false }, kinds := [], alts := [], laidByText := true, laidKinds := [.data, .data, .data], laidTests := true, laidLooks := .later }
def HistTextsCardSaid : Prop := Claim7.holds Tryz.pinned (.plain (OpenSpec.ofChange histTextsSpec)) histTextsCard

/-- THE SECOND FORM's CARD OF 'weirlaw30.HistTexts'. -/
def histTextsUptoCard : Claim7 := { stood := { row := histTextsUptoRow, standIns := [], harness := (true, "9ed5276f1e3497ab0e1f290e9965947d87a4d4fbfb6224771009288f49575e0c"), looks := false }, kinds := [], alts := [], laidByText := true, laidKinds := [.data, .data, .data], laidTests := true, laidLooks := .later }
def HistTextsUptoCardSaid : Prop := Claim7.holds Tryz.pinned (.plain (OpenSpec.upto histTextsSpec)) histTextsUptoCard
end Rows
end Go.Proofs.YtdfajmeabnmhjaaGreatDoor
