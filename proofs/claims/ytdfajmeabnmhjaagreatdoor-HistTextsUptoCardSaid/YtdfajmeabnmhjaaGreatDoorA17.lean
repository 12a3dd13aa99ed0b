/- weirlaw30.HistTexts: part of the proof (a value semantics for the model's code, and the functions told by it). -/
import Derived.Test.YtdfajmeabnmhjaaGreatDoorA16
set_option linter.unusedSimpArgs false
set_option linter.unusedVariables false
set_option linter.deprecated false
set_option linter.unusedSectionVars false
set_option linter.defProp false
namespace Go.Ve
section
variable {E : Env} {D : FuncId → Option Con} {B : Base} {F : Fz} {R : List Nat} {st : St} {a : Act} {w : World}
theorem occL_junk (ps : List PV) (vs : List Value) (v : Value) (h : vs.length = ps.length) : occL (ps ++ [.junk]) (vs ++ [v]) = occL ps vs := by
 rw [occL_append _ _ _ _ h]
 simp [occL, occ]
theorem Sim.more (h : Sim E B F R st a w) : Sim E B F R ⟨st.tmps ++ [.junk], st.blks⟩ { a with tmps := a.tmps.push undef } w := by
 have hl := h.tmps.length
 refine ⟨h.mem, ?_, h.defers, ?_⟩
 ·simp only [Array.toList_push]
  exact RepL.append (.cons .junk .nil) h.tmps
 ·simp only [Array.toList_push]
  rw [occL_junk _ _ _ hl]
  exact h.own
end
end Go.Ve
