/-
  What the listed package-level variable (weirref26.Names) reads as, told to the walks: block 0 holds the names of all edges, one a cell.
-/
import Derived.Test.YtjclpkddfpbdcaaDoorRows
import Derived.Test.YtjclpkddfpbdcaaDoorTie
import Derived.Test.YtjclpkddfpbdcaaDoorXC
import Derived.ProofKit
import Derived.LaidMore
import Derived.OpenShut
import Derived.Stop.Joined
import Derived.SizedLaws
import Derived.SliceStrings
namespace Go.Proofs.YtjclpkddfpbdcaaDoor
open Go.ChangeShapes Go.WideShapes Go.ChangeAt Go.WideMaps Go.WideElems Go.RowKit Go.Proofs.YtjclpkddfpbdcaaDoorW.PrintWords
open Go.ChangeMaps (open_string shut_string)

theorem own : ownKnob Tryd.prog.godebug = none := by kernel_rfl
theorem laidOut : laidOutB Tryd.prog = true := by kernel_rfl
theorem gNames : Tryd.prog.globalNamed "weir/weirref26.Names" = some 0 := by kernel_rfl
theorem tNames : (Tryd.prog.globals[0]?).map (·.type) = some 48 := by kernel_rfl
def laidL : List (String × DataW Unit) := [("weir/weirref26.Names", Rows.laid_weir_weirref26_Names)]

/-- The door's own heap meets the condition. -/
theorem door_met (os : Os) (args : Array Value) : laidMetH Tryd.prog laidL ((World.doorLaid Tryd.prog 400 os).forCall (fun _ _ => 0) ⟨#[], args, []⟩).memory :=
  laidMetH_of_parts3 (fuel := 8) (laidMet_of_run' 8 (by kernel_rfl) (by kernel_rfl)) (by kernel_rfl) (by kernel_rfl)

theorem names_datum : (Rows.laid_weir_weirref26_Names : DataW Unit) = .agg (XC.weirref26_names.map fun s => .lit (.string s.data.toList)) := rfl

theorem of_laid {W : World} (h : laidMetH Tryd.prog laidL W) : Kd.C Kd.string W (some ⟨0, 0, none⟩) XC.weirref26_names.length XC.weirref26_names := by
  rw [MakeChecks.laidMetH_plain _ _ _ (by kernel_rfl)] at h
  obtain ⟨ps, ⟨g0, t0, cs0, f0, p0, q0, hg0, ht0, hv0, hd0, _, _⟩, _, _⟩ := h
  obtain rfl := Option.some.inj (gNames.symm.trans hg0)
  obtain rfl := Option.some.inj (tNames.symm.trans ht0)
  obtain ⟨xs, m1, rfl, hx1, hlen, hn3, hel⟩ := DataW.trod_array Tryd.underlying48 hd0
  have c9 : Tryd.prog.cellsOf 9 = 1 := by kernel_rfl
  have c48 : Tryd.prog.cellsOf 48 = 18 := by kernel_rfl
  rw [names_datum] at hx1
  have hx2 : XC.weirref26_names.map (fun s => (DataW.lit (.string s.data.toList) : DataW Unit)) = xs.map (·.1) := by
    have h3 := (Prod.mk.inj hx1).1
    injection h3
  rw [c48] at hlen
  rw [c9] at hel
  refine Kd.C_of_reads (enc := Value.string) (d := ByteArray.empty) (h1 := fun _ => rfl) ⟨rfl, by decide, fun _ => ⟨_, rfl, fun j hj => ?_⟩⟩
  have hj' : j < 18 := hj
  have ea : (⟨0, 0, none⟩ : Addr).add j = ⟨0, j, none⟩ := by cases j <;> simp [Addr.add]
  rw [ea, World.var?_cell hg0 hv0 j]
  have hxj : j < xs.length := by omega
  have h1 := hel j hj'
  rw [Nat.mul_one, List.getElem?_eq_getElem hxj] at h1
  obtain ⟨s, e1, e2, _⟩ := DataW.trod_string Tryd.underlying9 h1
  have h4 : (xs.map (·.1))[j]? = some (xs[j]).1 := by rw [List.getElem?_map, List.getElem?_eq_getElem hxj]; rfl
  obtain ⟨x, hx⟩ : ∃ x, XC.weirref26_names[j]? = some x := ⟨_, List.getElem?_eq_getElem hj⟩
  rw [← hx2, List.getElem?_map, hx, e2] at h4
  have h5 : x.data = s.data := by simpa using h4
  have h6 : x = s := ByteArray.ext h5
  have h7 : (cs0.toList.drop j)[0]? = some (.string s) := by
    have := congrArg (fun l : List Value => l[0]?) e1
    simpa [List.getElem?_take] using this
  rw [List.getElem?_drop, Nat.add_zero] at h7
  rw [List.getD_eq_getElem?_getD, hx]
  simp only [Option.getD_some]
  rw [h6, ← h7]
  simp

/-- A slice of strings that came in: as the walks read it. -/
theorem open_strs {H : Type} {enc : TypeId × Value → H} {W : World} {base : Nat} {held : Bool} {a : Option Addr} {len cap : Nat} {d : DataW H} {ps : List MemPlace} {ts : List TypeId} {ds : List (DataW H)} {j : Nat}
    (hsz : (DataW.weightsEach Tryd.prog ts ds).all (· ≤ reachBytes) = true) (ht : ts[j]? = some 22) (hd : ds[j]? = some d)
    (h : DataW.Trod enc Tryd.prog W base (fun _ => true) held 22 (.slice a len cap) d ps) :
    ∃ l : List ByteArray, l.length = len ∧ len ≤ cap ∧ len * 16 ≤ 140737488351232 ∧ Kd.C Kd.string W a l.length l := by
  obtain ⟨fuel, hf⟩ := h
  rcases open_strings Tryd.underlying22 Tryd.underlying9 (by kernel_rfl) hf with ⟨hcs, _⟩ | ⟨x, n, c, ss, hcs, _, hl, hm, hz, hx, hcell, _⟩
  · simp [Value.cells] at hcs
    obtain ⟨rfl, rfl, rfl⟩ := hcs
    exact ⟨[], rfl, by omega, by omega, Kd.C_of_reads (enc := Value.string) (d := ByteArray.empty) (h1 := fun _ => rfl) ⟨rfl, by decide, fun hp => absurd hp (by decide)⟩⟩
  · simp [Value.cells] at hcs
    obtain ⟨rfl, rfl, rfl⟩ := hcs
    obtain ⟨hx, _⟩ := Prod.mk.inj hx
    subst hx
    simp only [if_true] at hz
    have z := sized_slice hsz ht hd Tryd.underlying22
    have hb : Tryd.prog.bytesOf 9 = 16 := by kernel_rfl
    rw [hb] at z
    have h1 : (strs (H := H) (ss.take len)).length + (strs (H := H) (ss.drop len)).length = ss.length := by
      simp [strs]
      omega
    rw [h1] at z
    have hr : len * 16 ≤ 140737488351232 := Nat.le_trans (Nat.mul_le_mul_right _ (by omega)) z
    have htl : (ss.take len).length = len := by rw [List.length_take]; omega
    refine ⟨ss.take len, htl, hl, hr, ?_⟩
    rw [htl]
    refine Kd.C_of_reads (enc := Value.string) (d := ByteArray.empty) (h1 := fun _ => rfl) ⟨htl, by omega, fun _ => ⟨_, rfl, fun j hj => ?_⟩⟩
    rw [hcell j (by omega)]
    simp [List.getD_eq_getElem?_getD, hj]
end Go.Proofs.YtjclpkddfpbdcaaDoor
