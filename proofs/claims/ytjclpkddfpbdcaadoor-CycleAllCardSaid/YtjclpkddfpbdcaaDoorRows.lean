/-
  NARROWER THAN 'FOR EVERY INPUT', by the rows' own cells (each row's printed sentence says how): CycleChecks: laid · CycleAll: laid · CycleParses: laid.
  DERIVED. THE GIVEN ROWS OF THIS SEAT. 3 by the template 'for every input the law returns true; each argument reads behind the call as it read before'; 0 by the template 'total and deterministic' (their statements: YtjclpkddfpbdcaaDoorTotals.lean).
  GIVEN WITH THE SEED: the statements are not yours to turn. If you find one false, say at which input.
  Laid BY PROGRAM, IN A SANDBOX (cutbox-rows.mjs): the forced cells as the released guide's own fill.sh prints them over the translation 6fdaf9a3b9ab96da… (all of the seat's roots in one cut). By AI agents, Wed Nov 11 2026. No macro, syntax, notation, axiom, sorry.
-/
import Derived.Test.YtjclpkddfpbdcaaDoorChecked
import GoSem.Claim
import GoSem.ClaimJoined
import GoSem.ClaimMapViews
import Derived.JoinedTies
import Derived.KernelRfl
namespace Go.Proofs.YtjclpkddfpbdcaaDoor
/- THE CELL 'sum', in the pinned program and in every row, IS THE sha256 OF THE DUMP (.gsa) THAT YtjclpkddfpbdcaaDoorProg.lean LOADS. Nothing in Lean hashes anything: it is a label: what it is worth is what the hold of that sum in a sandbox is worth. -/
noncomputable def Tryd.pinned : Pinned := { name := "ytjclpkddfpbdcaadoor", sum := "6fdaf9a3b9ab96da196f8c3a2cc3ad7ff1104288bc6a1a496487b1834a8e66c8", checked := Tryd.checked }
namespace Rows
def none {H : Type} : Left H := { results := [], args := [] }

/- WHAT THE LISTED PACKAGE-LEVEL VARIABLES READ AS WHEN THE CALL BEGINS. Each datum BY PROGRAM (the guide's laid-datum.mjs) off the statement by which the dump's own 'gosem.cut.vars' lays the variable. In a bare row this is a premise. The card (YtjclpkddfpbdcaaDoorCards.lean) ties it to the program's text. -/
def laid_weir_weirref26_Names {H : Type} : DataW H := .agg [.lit (.string [82, 102, 101]), .lit (.string [82, 102, 105]), .lit (.string [70, 114, 101]), .lit (.string [70, 114, 105]), .lit (.string [67, 111, 101]), .lit (.string [67, 111, 105]), .lit (.string [80, 111, 100, 82, 82]), .lit (.string [80, 111, 100, 82, 87]), .lit (.string [80, 111, 100, 87, 82]), .lit (.string [80, 111, 100, 87, 87]), .lit (.string [80, 111, 115, 82, 82]), .lit (.string [80, 111, 115, 82, 87]), .lit (.string [80, 111, 115, 87, 82]), .lit (.string [80, 111, 115, 87, 87]), .lit (.string [77, 70, 101, 110, 99, 101, 100, 82, 82]), .lit (.string [77, 70, 101, 110, 99, 101, 100, 82, 87]), .lit (.string [77, 70, 101, 110, 99, 101, 100, 87, 82]), .lit (.string [77, 70, 101, 110, 99, 101, 100, 87, 87])]

/-- 'weirlaw26.CycleChecks': WHATEVER THE INPUT: true; the input reads as it did. -/
def cycleChecksSpec : ChangeSpec := { name := "cycleChecks", fn := fun _ => fun
  | [d] => { results := [.lit (.bool true)], args := [d] }
  | _ => none }
def cycleChecksRow : OpenClaim := { program := "ytjclpkddfpbdcaadoor", sum := "6fdaf9a3b9ab96da196f8c3a2cc3ad7ff1104288bc6a1a496487b1834a8e66c8", func := "weir/weirlaw26.CycleChecks", spec := "cycleChecks", named := ["weir/weirref26.Names"], apart := false, laid := [("weir/weirref26.Names", laid_weir_weirref26_Names)] }
def CycleChecksSaid : Prop := cycleChecksRow.holds Tryd.pinned (OpenSpec.ofChange cycleChecksSpec)

/-- ITS FALSE NEIGHBOUR: 'it returns false'. Refute it at one input. -/
def cycleChecksWrong : ChangeSpec := { name := "cycleChecks", fn := fun _ => fun
  | [d] => { results := [.lit (.bool false)], args := [d] }
  | _ => none }
def CycleChecksWrongFalsely : Prop := cycleChecksRow.holds Tryd.pinned (OpenSpec.ofChange cycleChecksWrong)

/-- 'weirlaw26.CycleAll': WHATEVER THE INPUT: true; the input reads as it did. -/
def cycleAllSpec : ChangeSpec := { name := "cycleAll", fn := fun _ => fun
  | [d1, d2, d3] => { results := [.lit (.bool true)], args := [d1, d2, d3] }
  | _ => none }
def cycleAllRow : OpenClaim := { program := "ytjclpkddfpbdcaadoor", sum := "6fdaf9a3b9ab96da196f8c3a2cc3ad7ff1104288bc6a1a496487b1834a8e66c8", func := "weir/weirlaw26.CycleAll", spec := "cycleAll", unfollowed := true, recurses := true, named := ["weir/weirref26.Names"], apart := false, laid := [("weir/weirref26.Names", laid_weir_weirref26_Names)] }
def CycleAllSaid : Prop := cycleAllRow.holds Tryd.pinned (OpenSpec.ofChange cycleAllSpec)

/-- ITS FALSE NEIGHBOUR: 'it returns false'. Refute it at one input. -/
def cycleAllWrong : ChangeSpec := { name := "cycleAll", fn := fun _ => fun
  | [d1, d2, d3] => { results := [.lit (.bool false)], args := [d1, d2, d3] }
  | _ => none }
def CycleAllWrongFalsely : Prop := cycleAllRow.holds Tryd.pinned (OpenSpec.ofChange cycleAllWrong)

/-- 'weirlaw26.CycleParses': WHATEVER THE INPUT: true; the input reads as it did. -/
def cycleParsesSpec : ChangeSpec := { name := "cycleParses", fn := fun _ => fun
  | [d] => { results := [.lit (.bool true)], args := [d] }
  | _ => none }
def cycleParsesRow : OpenClaim := { program := "ytjclpkddfpbdcaadoor", sum := "6fdaf9a3b9ab96da196f8c3a2cc3ad7ff1104288bc6a1a496487b1834a8e66c8", func := "weir/weirlaw26.CycleParses", spec := "cycleParses", inPlace := ["internal/bytealg.IndexByteString", "internal/bytealg.CountString", "internal/bytealg.IndexString", "math/bits.Add64"], unfollowed := true, recurses := true, named := ["weir/weirref26.Names", "internal/bytealg.MaxLen"], apart := false, laid := [("weir/weirref26.Names", laid_weir_weirref26_Names)] }
def CycleParsesSaid : Prop := cycleParsesRow.holds Tryd.pinned (OpenSpec.ofChange cycleParsesSpec)

/-- ITS FALSE NEIGHBOUR: 'it returns false'. Refute it at one input. -/
def cycleParsesWrong : ChangeSpec := { name := "cycleParses", fn := fun _ => fun
  | [d] => { results := [.lit (.bool false)], args := [d] }
  | _ => none }
def CycleParsesWrongFalsely : Prop := cycleParsesRow.holds Tryd.pinned (OpenSpec.ofChange cycleParsesWrong)

/- THE SECOND FORM. 'bulk': how many values and letters a reading holds, each counted each time it is reached (what is shared counts as often as it is met; a slice's spare places count too). A statement '..UptoSaid' is the law's where the arguments, and the package variables that the reading takes, are together of bulk at most 1048576: NARROWER than '..Said'. Prove '..Said' where nothing that the law and all that it calls make is longer than what came in: it says more and counts as full. Else prove '..UptoSaid'. A law counts once. -/
mutual
def uptoBulk {H : Type} : DataW H → Nat
  | .lit (.string bytes) => bytes.length + 1
  | .lit _ => 1
  | .nil => 1
  | .ptr d => uptoBulk d + 1
  | .slice elems spare => uptoBulkAll elems + uptoBulkAll spare + 1
  | .agg parts => uptoBulkAll parts + 1
  | .iface _ d => uptoBulk d + 1
  | .map entries => uptoBulkEntries entries + 1
  | .held _ => 1
def uptoBulkAll {H : Type} : List (DataW H) → Nat
  | [] => 0
  | d :: r => uptoBulk d + uptoBulkAll r
def uptoBulkEntries {H : Type} : List (Lit × DataW H) → Nat
  | [] => 0
  | x :: r => uptoBulkEntry x + uptoBulkEntries r
def uptoBulkEntry {H : Type} : Lit × DataW H → Nat
  | (.string bytes, d) => bytes.length + uptoBulk d + 1
  | (_, d) => uptoBulk d + 1
 end
def uptoSmall : (H : Type) → List (DataW H) → Bool := fun _ ds => decide (uptoBulkAll ds ≤ 1048576)
def OpenSpec.upto (s : _root_.Go.ChangeSpec) : _root_.Go.OpenSpec := { _root_.Go.OpenSpec.ofChange s with cond := some uptoSmall }

/-- 'weirlaw26.CycleChecks', WHERE WHAT IT READS IS OF BULK AT MOST 1048576: true; the input reads as it did. -/
def cycleChecksUptoRow : OpenClaim := { program := "ytjclpkddfpbdcaadoor", sum := "6fdaf9a3b9ab96da196f8c3a2cc3ad7ff1104288bc6a1a496487b1834a8e66c8", func := "weir/weirlaw26.CycleChecks", spec := "cycleChecks", named := ["weir/weirref26.Names"], apart := false, laid := [("weir/weirref26.Names", laid_weir_weirref26_Names)], narrowed := true }
def CycleChecksUptoSaid : Prop := cycleChecksUptoRow.holds Tryd.pinned (OpenSpec.upto cycleChecksSpec)

/-- 'weirlaw26.CycleAll', WHERE WHAT IT READS IS OF BULK AT MOST 1048576: true; the input reads as it did. -/
def cycleAllUptoRow : OpenClaim := { program := "ytjclpkddfpbdcaadoor", sum := "6fdaf9a3b9ab96da196f8c3a2cc3ad7ff1104288bc6a1a496487b1834a8e66c8", func := "weir/weirlaw26.CycleAll", spec := "cycleAll", unfollowed := true, recurses := true, named := ["weir/weirref26.Names"], apart := false, laid := [("weir/weirref26.Names", laid_weir_weirref26_Names)], narrowed := true }
def CycleAllUptoSaid : Prop := cycleAllUptoRow.holds Tryd.pinned (OpenSpec.upto cycleAllSpec)

/-- 'weirlaw26.CycleParses', WHERE WHAT IT READS IS OF BULK AT MOST 1048576: true; the input reads as it did. -/
def cycleParsesUptoRow : OpenClaim := { program := "ytjclpkddfpbdcaadoor", sum := "6fdaf9a3b9ab96da196f8c3a2cc3ad7ff1104288bc6a1a496487b1834a8e66c8", func := "weir/weirlaw26.CycleParses", spec := "cycleParses", inPlace := ["internal/bytealg.IndexByteString", "internal/bytealg.CountString", "internal/bytealg.IndexString", "math/bits.Add64"], unfollowed := true, recurses := true, named := ["weir/weirref26.Names", "internal/bytealg.MaxLen"], apart := false, laid := [("weir/weirref26.Names", laid_weir_weirref26_Names)], narrowed := true }
def CycleParsesUptoSaid : Prop := cycleParsesUptoRow.holds Tryd.pinned (OpenSpec.upto cycleParsesSpec)

end Rows
end Go.Proofs.YtjclpkddfpbdcaaDoor
