/- weirlaw30.HistAdds: part of the proof (a value semantics for the model's code, and the functions told by it). -/
import Derived.Test.YtelhcaefmpnfkaaA17
set_option linter.unusedSimpArgs false
set_option linter.unusedVariables false
set_option linter.deprecated false
set_option linter.unusedSectionVars false
set_option linter.defProp false
namespace Go.Ve
section
variable {E : Env} {B : Base} {F : Fz} {R : List Nat} {w : World}
end
end Go.Ve
