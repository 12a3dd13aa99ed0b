/-
  DERIVED. GIVEN WITH THE SEED: THE CARDS: each row of YtjclpkddfpbdcaaDoorRows.lean that lists a variable, with what it lists TIED to the program's text (the seventh form; the later family's looks); each row that meets fmt, with fmt's text TOLD by the authors' own Lean function (tested against real Go, not proved from fmt's source: count such statements apart). THE CARD IS WHAT COUNTS. Prove the row's statement (the work); the ties are given (YtjclpkddfpbdcaaDoorTie.lean); close each card by the builder's one call (the guide's Derived/Test/ToyasCard.lean, 'card_holds'). Laid BY PROGRAM, IN A SANDBOX (cutbox-door.mjs). By AI agents, Wed Nov 11 2026. No macro, syntax, notation, axiom, sorry.
-/
import Derived.Test.YtjclpkddfpbdcaaDoorRows
import GoSem.ClaimSeven
namespace Go.Proofs.YtjclpkddfpbdcaaDoor
namespace Rows

/-- THE TIED CARD OF 'weirlaw26.CycleChecks'. -/
def cycleChecksCard : Claim7 := { stood := { row := cycleChecksRow, standIns := [], harness := (true, "5491e086e614c9c33cf791ec43c4c8f6bb008ca7e5ba6a26be562861009d200a"), looks := true }, kinds := [], alts := [], laidByText := true, laidKinds := [.widerDeep], laidTests := true, laidLooks := .later }
def CycleChecksCardSaid : Prop := Claim7.holds Tryd.pinned (.plain (OpenSpec.ofChange cycleChecksSpec)) cycleChecksCard

/-- THE TIED CARD OF 'weirlaw26.CycleAll'. -/
def cycleAllCard : Claim7 := { stood := { row := cycleAllRow, standIns := [], harness := (true, "5491e086e614c9c33cf791ec43c4c8f6bb008ca7e5ba6a26be562861009d200a"), looks := true }, kinds := [], alts := [], laidByText := true, laidKinds := [.widerDeep], laidTests := true, laidLooks := .later }
def CycleAllCardSaid : Prop := Claim7.holds Tryd.pinned (.plain (OpenSpec.ofChange cycleAllSpec)) cycleAllCard

/-- THE TIED CARD OF 'weirlaw26.CycleParses'. -/
def cycleParsesCard : Claim7 := { stood := { row := cycleParsesRow, standIns := [], harness := (true, "5491e086e614c9c33cf791ec43c4c8f6bb008ca7e5ba6a26be562861009d200a"), looks := true }, kinds := [], alts := [], laidByText := true, laidKinds := [.widerDeep], laidTests := true, laidLooks := .later }
def CycleParsesCardSaid : Prop := Claim7.holds Tryd.pinned (.plain (OpenSpec.ofChange cycleParsesSpec)) cycleParsesCard

/-- THE SECOND FORM's CARD OF 'weirlaw26.CycleChecks'. -/
def cycleChecksUptoCard : Claim7 := { stood := { row := cycleChecksUptoRow, standIns := [], harness := (true, "5491e086e614c9c33cf791ec43c4c8f6bb008ca7e5ba6a26be562861009d200a"), looks := true }, kinds := [], alts := [], laidByText := true, laidKinds := [.widerDeep], laidTests := true, laidLooks := .later }
def CycleChecksUptoCardSaid : Prop := Claim7.holds Tryd.pinned (.plain (OpenSpec.upto cycleChecksSpec)) cycleChecksUptoCard

/-- THE SECOND FORM's CARD OF 'weirlaw26.CycleAll'. -/
def cycleAllUptoCard : Claim7 := { stood := { row := cycleAllUptoRow, standIns := [], harness := (true, "5491e086e614c9c33cf791ec43c4c8f6bb008ca7e5ba6a26be562861009d200a"), looks := true }, kinds := [], alts := [], laidByText := true, laidKinds := [.widerDeep], laidTests := true, laidLooks := .later }
def CycleAllUptoCardSaid : Prop := Claim7.holds Tryd.pinned (.plain (OpenSpec.upto cycleAllSpec)) cycleAllUptoCard

/-- THE SECOND FORM's CARD OF 'weirlaw26.CycleParses'. -/
def cycleParsesUptoCard : Claim7 := { stood := { row := cycleParsesUptoRow, standIns := [], harness := (true, "5491e086e614c9c33cf791ec43c4c8f6bb008ca7e5ba6a26be562861009d200a"), looks := true }, kinds := [], alts := [], laidByText := true, laidKinds := [.widerDeep], laidTests := true, laidLooks := .later }
def CycleParsesUptoCardSaid : Prop := Claim7.holds Tryd.pinned (.plain (OpenSpec.upto cycleParsesSpec)) cycleParsesUptoCard
end Rows
end Go.Proofs.YtjclpkddfpbdcaaDoor
