/- weirlaw30.HistTexts: part of the proof (a value semantics for the model's code, and the functions told by it). -/
import Derived.Test.YtdfajmeabnmhjaaGreatDoorA17
set_option linter.unusedSimpArgs false
set_option linter.unusedVariables false
set_option linter.deprecated false
set_option linter.unusedSectionVars false
set_option linter.defProp false
namespace Go.Ve
section
variable {Pr : Nat → Prop} {F F' : Fz} {w' : World}
end
theorem SoundX.or {P : Program} {G : Nat → Option (List PV)} {g : FuncId} {T T' : PT} (h : SoundX P G g T) (h' : SoundX P G g T') : SoundX P G g (fun args M K => T args M K ∨ T' args M K) :=
 ⟨h.1, fun Pr F S blks w args vs K hm hr ho hown hk => hk.elim (h.2 Pr F S blks w args vs K hm hr ho hown) (h'.2 Pr F S blks w args vs K hm hr ho hown)⟩
section
variable {E : Env} {B : Base} {F : Fz} {R : List Nat} {st : St} {w : World}
end
theorem Sound.or {P : Program} {G : Nat → Option (List PV)} {g : FuncId} {T T' : PT} (h : Sound P G g T) (h' : Sound P G g T') : Sound P G g (fun args M K => T args M K ∨ T' args M K) :=
 ⟨h.1, fun Pr F R blks w args vs K hR hm hr ho hown hk => hk.elim (h.2 Pr F R blks w args vs K hR hm hr ho hown) (h'.2 Pr F R blks w args vs K hR hm hr ho hown)⟩
end Go.Ve
namespace Go.Ve
theorem Mem.below {E : Env} {B : Base} {F : Fz} {R : List Nat} {blks : List Blk} {w w' : World} (hm : Mem E B F R blks w) (hd : E.dk = true → w.drawn ≤ w'.drawn) (hb : RowKit.Below w.heap.size w w') : Mem E B F R blks w' := by
 have hsame : ∀ {b}, b < w.heap.size → w'.heap[b]? = w.heap[b]? := fun h => hb.block _ h
 exact {
     os := hb.os.trans hm.os, tape := hb.tape.trans hm.tape, output := hb.output.trans hm.output, drn := fun q => Nat.le_trans (hm.drn q) (hd q), size := Nat.le_trans hm.size hb.size
     pr := fun b hb => ⟨(hm.pr b hb).1, (hsame (Nat.lt_of_lt_of_le (hm.pr b hb).1 hm.size)).trans (hm.pr b hb).2⟩
     fz := fun b o v hv => ⟨by rw [cell_congr (hsame (hm.F_lt hv))]; exact (hm.fz b o v hv).1, (hm.fz b o v hv).2⟩
     fnew := hm.fnew, fold := hm.fold, rnew := hm.rnew, rold := hm.rold
     bound := fun c hc => Nat.lt_of_lt_of_le (hm.bound c hc) hb.size
     glob := hm.glob, len := hm.len, nd := hm.nd
     blk := fun i c b hc h => (hm.blk i c b hc h).mono (Fz.le_refl F) (Rle.refl R) (fun _ h => h) (hsame (hm.bound c (List.mem_of_getElem? hc)))
     mks := fun c hc => ⟨by rw [hsame (Array.getElem?_eq_some_iff.1 (hm.mks c hc).1).1]; exact (hm.mks c hc).1, (hm.mks c hc).2⟩
     mnd := hm.mnd }
theorem Owned.below {Pr : Nat → Prop} {F : Fz} {R : List Nat} {blks : List Blk} {w w' : World} (hb : RowKit.Below w.heap.size w w') (hbd : ∀ c ∈ R, c < w.heap.size) (h : Owned Pr F R w (occB w R blks)) : Owned Pr F R w' (occB w' R blks) := by
 have hsame : ∀ {b}, b < w.heap.size → w'.heap[b]? = w.heap[b]? := fun h => hb.block _ h
 have e : occB w' R blks = occB w R blks := occB_congr R blks (fun c hc => hsame (hbd c hc))
 rw [e]
 exact ⟨h.1, fun q hq => (h.2 q hq).mono (fun h => h) (fun _ h => h) (hsame (h.2 q hq).lt)⟩
theorem Sound.lib {P : Program} {G : Nat → Option (List PV)} {g : FuncId} (hfn : ∃ fn, P.funcs[g]? = some fn ∧ fn.name ≠ "runtime.NumGoroutine" ∧ fn.body.isSome = true) (F : List PV → Option (List Prop × PV))
  (h : ∀ args ps r, F args = some (ps, r) → All ps → ∃ u : Value, r = .val u ∧ u.oneCell' = true ∧ ∀ (F0 : Fz) (R : List Nat) (w : World) (vs : Array Value), (∀ b o v, F0 b o = some v → w.cell? ⟨b, o, none⟩ = some v ∧ v.oneCell' = true) → GlobOk G (fun b => b < w.heap.size) w F0 → RepL F0 R args vs.toList →
   Calls P g vs w (fun e w' => e = .returned u ∧ RowKit.Below w.heap.size w w')) : Sound P G g (conT (CB.fn F).toCon) := by
 refine ⟨hfn, ?_⟩
 intro Pr F0 R blks w args vs K hR1 hm hr ho hown ⟨r, ⟨ps, hq, hp⟩, hk⟩
 obtain ⟨u, rfl, h1, hc⟩ := h args ps r hq hp
 refine (hc F0 R w vs (fun b o v hv => hm.fz b o v hv) hm.globLt hr).mono ?_
 rintro e w' ⟨rfl, hb⟩
 exact ⟨.val u, u, blks, F0, R, rfl, hk, .val h1, hm.below (fun q => (nomatch (show false = true from q))) hb, by rw [occ_free _ _ rfl]; exact hown.below hb hm.bound⟩
end Go.Ve
