/- weirlaw30.HistAdds: part of the proof (a value semantics for the model's code, and the functions told by it). -/
import Derived.Test.YtelhcaefmpnfkaaA12
set_option linter.unusedSimpArgs false
set_option linter.unusedVariables false
set_option linter.deprecated false
namespace Go.Ve
def isVal : PV → Bool
 | .val _ => true
 | _ => false
mutual
def PV.thawable : PV → Bool
 | .val _ => true
 | .sl _ [] _ => true
 | .sl _ (x :: xs) own => own && (x :: xs).all fun y => y.cells.all isVal
 | .slt _ [] [] => true
 | .iface _ v => v.thawable
 | .agg cs => thawableL cs
 | .tuple cs => thawableL cs
 | _ => false
def thawableL : List PV → Bool
 | [] => true
 | p :: ps => p.thawable && thawableL ps
end
mutual
def rooms : PV → Value → List Occ
 | .sl k (_ :: _) true, .slice (some ad) len cap => [⟨k, ad.block, ad.off, len, cap⟩]
 | .iface _ v, .iface _ V => rooms v V
 | .agg cs, .agg vs => roomsL cs vs.toList
 | .tuple cs, .tuple vs => roomsL cs vs.toList
 | _, _ => []
def roomsL : List PV → List Value → List Occ
 | p :: ps, v :: vs => rooms p v ++ roomsL ps vs
 | _, _ => []
end
theorem vals_any {F F' : Fz} {R R' : List Nat} : ∀ {l : List PV} {us : List Value}, l.all isVal = true → RepL F R l us → RepL F' R' l us ∧ occL l us = []
 | [], _, _, h => by cases h; exact ⟨.nil, rfl⟩
 | p :: ps, _, h, .cons h1 t => by
  simp only [List.all_cons, Bool.and_eq_true] at h
  obtain ⟨a, b⟩ := vals_any (F' := F') (R' := R') h.2 t
  cases p with
  | val v =>
   cases h1 with
   | val hv => exact ⟨.cons (.val hv) a, by simp [occL, b, occ]⟩
  | _ => simp [isVal] at h
theorem flat_vals {xs : List PV} (h : (xs.all fun y => y.cells.all isVal) = true) : (xs.flatMap PV.cells).all isVal = true := by
 refine List.all_eq_true.2 fun x hx => ?_
 obtain ⟨y, hy, hx⟩ := List.mem_flatMap.1 hx
 exact List.all_eq_true.1 (List.all_eq_true.1 h y hy) x hx
def RoomOk (w : World) (q : Occ) (b : Blk) : Prop := ∃ cs vs T, b = .live cs ∧ w.heap[q.b]? = some (.cells vs T (0, 0)) ∧ (∀ F R, RepL F R cs (vs.toList.take cs.length)) ∧ (∀ v ∈ vs.toList, v.oneCell' = true) ∧ cs.length ≤ vs.size ∧ occL cs vs.toList = []
section
variable {Pr : Nat → Prop} {F F' : Fz} {w' : World}
end
end Go.Ve
