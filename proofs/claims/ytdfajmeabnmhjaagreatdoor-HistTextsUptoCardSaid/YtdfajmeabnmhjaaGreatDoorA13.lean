/- weirlaw30.HistTexts: part of the proof (a value semantics for the model's code, and the functions told by it). -/
import Derived.Test.YtdfajmeabnmhjaaGreatDoorA12
set_option linter.unusedSimpArgs false
set_option linter.unusedVariables false
set_option linter.deprecated false
namespace Go.Ve
mutual
def rooms : PV → Value → List Occ
 | .sl k (_ :: _) true, .slice (some ad) len cap => [⟨k, ad.block, ad.off, len, cap, none⟩]
 | .iface _ v, .iface _ V => rooms v V
 | .agg cs, .agg vs => roomsL cs vs.toList
 | .tuple cs, .tuple vs => roomsL cs vs.toList
 | _, _ => []
def roomsL : List PV → List Value → List Occ
 | p :: ps, v :: vs => rooms p v ++ roomsL ps vs
 | _, _ => []
end
section
variable {Pr : Nat → Prop} {F F' : Fz} {w' : World}
end
end Go.Ve
