/- weirlaw30.HistTexts: part of the proof (a value semantics for the model's code, and the functions told by it). -/
import Derived.Test.YtdfajmeabnmhjaaGreatDoorA30
import Derived.Test.YtdfajmeabnmhjaaGreatDoorCards
import Derived.Test.YtdfajmeabnmhjaaGreatDoorTie
import Derived.Carry
import Derived.Handed
import Derived.RowKit
import Derived.LaidMore
import Derived.MakeChecks
import Derived.Deep.DeepHandedRow
import Derived.SevenTiedAt
set_option linter.unusedSimpArgs false
set_option linter.unusedVariables false
set_option linter.deprecated false
set_option linter.unusedSectionVars false
set_option linter.defProp false
namespace Go.Proofs.YtdfajmeabnmhjaaGreatDoor.histTexts
open Go.ChangeShapes Go.WideShapes Go.ChangeAt Go.WideMaps Go.WideElems Go.RowKit Go.Ve Go.Ve.H
open Go.ChangeMaps (open_string shut_string)
theorem own : ownKnob Tryz.prog.godebug = none := by kernel_rfl
theorem laidOut : laidOutB Tryz.prog = true := by kernel_rfl
theorem gPow : Tryz.prog.globalNamed "internal/strconv.uint64pow10" = some 1 := by kernel_rfl
theorem tPow : (Tryz.prog.globals[1]?).map (·.type) = some 166 := by kernel_rfl
theorem table {W : World} (h : laidMetH Tryz.prog Rows.histTextsUptoRow.laid W) : Lib.TabIs Tryz.prog W "internal/strconv.uint64pow10" .u64 Lib.pow10Tab := by
 rw [MakeChecks.laidMetH_plain _ _ _ (by kernel_rfl)] at h
 obtain ⟨ps, ⟨_, _, _, _, _, _, _, _, _, _, ⟨_, _, _, _, _, _, _, _, _, _, ⟨g', t', cs, fuel, p, q, hg', ht', hvar, hd, _, _⟩, _⟩, _⟩, _⟩ := h
 obtain rfl := Option.some.inj (gPow.symm.trans hg')
 obtain rfl := Option.some.inj (tPow.symm.trans ht')
 unfold Lib.TabIs
 rw [hvar, ← Lib.cells_of_tab (k := .u64) (zs := Lib.pow10Tab) Tryz.underlying166 Tryz.underlying116 (by kernel_rfl) (by kernel_rfl) hd]
theorem glob_of {W : World} (h : Lib.TabIs Tryz.prog W "internal/strconv.uint64pow10" .u64 Lib.pow10Tab) : GlobOk G0 (fun b => b < W.heap.size) W (Fz.all W) := by
 intro g cs hg
 have hg1 : g = 1 ∧ cs = Lib.pow10Tab.map fun z => .val (.int .u64 z) := by
  unfold G0 at hg
  split at hg
  ·rename_i h1; injection hg with hg; exact ⟨h1, hg.symm⟩
  ·cases hg
 obtain ⟨rfl, rfl⟩ := hg1
 unfold Lib.TabIs World.var? at h
 rw [gPow] at h
 simp only [Option.bind_some] at h
 split at h
 ·rename_i cs T f hh
  injection h with h
  subst h
  have hcell : ∀ (j : Nat) u, (Lib.pow10Tab.map fun z => Value.int .u64 z)[j]? = some u → Fz.all W 1 j = some u := fun j u hj => all_of (by simp [World.cell?, hh]; simpa using hj) (by
   obtain ⟨z, _, rfl⟩ := List.mem_map.1 (List.mem_of_getElem? hj); rfl)
  refine ⟨(Array.getElem?_eq_some_iff.1 hh).1, Lib.pow10Tab.map fun z => Value.int .u64 z, ⟨T, f, hh⟩, ?_, hcell⟩
  have go : ∀ l : List Int, RepL (Fz.all W) [] (l.map fun z => PV.val (.int .u64 z)) (l.map fun z => Value.int .u64 z) := by
   intro l
   induction l with
   | nil => exact .nil
   | cons z l ih => exact .cons (.val rfl) ih
  exact go _
 ·cases h
theorem below_of {P : Program} {G : Nat → Option (List PV)} {F F' : Fz} {R R' : List Nat} {B' : List Blk} {W w' : World} (h : Mem ⟨P, G, none, none, 0, [], false⟩ ⟨fun b => b < W.heap.size, W, F, R, [], R⟩ F' R' B' w') : Below W.heap.size W w' :=
 ⟨h.os, h.tape, h.output, h.size, fun k hk => (h.pr k hk).2⟩
theorem mem_start {W : World} (hg : GlobOk G0 (fun b => b < W.heap.size) W (Fz.all W)) : Mem ⟨Tryz.prog, G0, none, none, 0, [], false⟩ ⟨fun b => b < W.heap.size, W, Fz.all W, [], [], []⟩ (Fz.all W) [] [] W := {
 os := rfl
 tape := rfl
 output := rfl
 drn := fun _ => Nat.le_refl _
 size := Nat.le_refl _
 pr := fun b hb => ⟨hb, rfl⟩
 fz := fun b o v h => by
  unfold Fz.all at h
  split at h
  ·rename_i u hu
   split at h
   ·rename_i h1
    injection h with h
    subst h
    exact ⟨hu, h1⟩
   ·cases h
  ·cases h
 fnew := fun _ _ _ h => .inl h
 fold := Fz.le_refl _
 rnew := fun _ h => by cases h
 rold := Rle.refl _
 bound := fun _ h => by cases h
 glob := hg
 len := rfl
 nd := List.nodup_nil
 blk := fun i c b h => by simp at h
 mks := fun _ h => by cases h
 mnd := List.nodup_nil }
theorem own_start (Pr : Nat → Prop) (F : Fz) (W : World) : Owned Pr F [] W (occB W [] []) := ⟨fun c => Nat.zero_le _, fun q hq => by cases hq⟩
theorem szs {X : Type} {d : DataW X} {x : Hist} (hb : blk d ≤ 1048576) (h : x.name.size ≤ blk d ∧ (x.refs.length ≤ blk d ∧ ∀ r ∈ x.refs, r.n.size ≤ blk d) ∧ x.rows.length ≤ blk d ∧ (x.cond.length ≤ blk d ∧ ∀ r ∈ x.cond, r.ref.n.size ≤ blk d ∧ inI64 r.ref.t ∧ inI64 r.val) ∧ ∀ r ∈ x.rows, ∀ z ∈ r.f.v, inI64 z) : SzL x ∧ smallH x := by
 obtain ⟨h1, ⟨h2, h3⟩, h4, ⟨h5, h6⟩, h7⟩ := h
 have a1 : szH x := ⟨by omega, ⟨by omega, fun r hr => by have := h3 r hr; omega⟩, by omega, ⟨by omega, fun r hr => by have := (h6 r hr).1; omega⟩⟩
 exact ⟨⟨a1, fun n hn => ⟨(h6 n hn).2.1, (h6 n hn).2.2, by have := (h6 n hn).1; omega⟩, by omega, by omega, fun r hr => by have := h3 r hr; omega, h7, fun n hn => by have := (h6 n hn).1; omega⟩, ⟨by omega, by omega, by omega⟩⟩
def zH : Value := .agg #[.string ⟨#[]⟩, .int .i64 0, .slice none 0 0, .slice none 0 0, .slice none 0 0]
def zD {H : Type} : DataW H := .agg [.lit (.string []), .lit (.int .i64 0), .nil, .nil, .nil]
theorem door_met (os : Os) : laidMetH Tryz.prog Rows.histTextsUptoRow.laid ((World.doorLaid Tryz.prog 400 os).forCall (fun _ _ => 0) ⟨#[], #[zH], []⟩).memory :=
 laidMetH_of_parts3 (fuel := 8) (laidMet_of_run' 8 (by kernel_rfl) (by kernel_rfl)) (by kernel_rfl) (by kernel_rfl)
theorem reads (os : Os) {H : Type} (enc : TypeId × Value → H) : ∃ places, DataW.whole enc Tryz.prog ((World.doorLaid Tryz.prog 400 os).forCall (fun _ _ => 0) ⟨#[], #[zH], []⟩).memory Tryz.f3.params.toList Rows.histTextsSpec.vars false #[zH].toList 8 = some ([zD], [], places) :=
 ⟨[], by kernel_rfl⟩
set_option maxRecDepth 100000 in
theorem lifted (os : Os) (started : os.Started) (H : Type) (enc : TypeId × Value → H) (F : Stop.Interp) :
  ReturnsInHanded {} Tryz.checked os 3 .any ((Rows.OpenSpec.upto Rows.histTextsSpec).preRow enc Tryz.prog Tryz.f3 Rows.histTextsUptoRow.domain false Rows.histTextsUptoRow.laid)
   (((Rows.OpenSpec.upto Rows.histTextsSpec).at F).post enc Tryz.prog Tryz.f3 false true false false) := by
 obtain ⟨places, hx⟩ := reads os enc
 refine returnsInHanded_of_row (C := Tryz.checked) (s := Rows.OpenSpec.upto Rows.histTextsSpec) own started (by kernel_rfl) Tryz.func3
  (witness_row_at (enc := enc) (C := Tryz.checked) false (World.doorLaid Tryz.prog 400 os) #[zH] rfl (by kernel_rfl) (by kernel_rfl) (by kernel_rfl)
   (OpenSpec.preRow_of_cond 8 hx (by kernel_rfl) (fun k hk => by cases hk; kernel_rfl) (by kernel_rfl) (door_met os))) ?_
 intro W base args ds gs before hval0 hW _ hcond _ hLd _ _
 have hval : ∀ (j : Nat) t v, Tryz.f3.params[j]? = some t → args[j]? = some v → Value.okWide Tryz.prog W .any base t v := hval0
 have hk := hcond _ rfl
 have hW' := hW
 obtain ⟨p, q, hA0, hV, rfl, hfz, hnd⟩ := hW
 have hA : DataW.TrodAll enc Tryz.prog W 0 (fun _ => true) true Tryz.f3.params.toList args.toList ds p := hA0
 rw [Tryz.params3] at hA hval
 obtain ⟨v0, vs0, d0, ds0, p0, q0, hargs, rfl, rfl, h0, r0⟩ := trodAll_cons hA
 obtain ⟨rfl, rfl, rfl⟩ := trodAll_nil r0
 obtain rfl : args = #[v0] := by cases args; simp_all
 obtain ⟨rfl, rfl⟩ := trodVars_none hV
 have k0 := h0
 have lt0 : ∀ x ∈ p0, x.block < W.heap.size := by obtain ⟨m, hm⟩ := k0; exact DataW.trod_lt m _ _ _ hm
 have hbulk : blk d0 + 0 ≤ 1048576 := of_decide_eq_true hk
 obtain ⟨a, ra, sa⟩ := rd_hist (hval 0 27 v0 rfl rfl) h0
 obtain ⟨za, ya⟩ := szs (by omega) sa
 have hlaw : lawF [hist5 a] = some ([SzL a, smallH a], vT true) := by
  unfold lawF on1h
  simp only [hist5_D]
 refine (law_ok.2 (fun b => b < W.heap.size) (Fz.all W) [] [] W [hist5 a] #[v0] (fun r _ => r = vT true) (Rle.refl _) (mem_start (glob_of (table hLd))) (.cons ra .nil) (occL_free _ _ rfl) (own_start _ _ _) ⟨vT true, ⟨_, hlaw, fun p hp => ?_⟩, rfl⟩).mono fun e W' ⟨r, u, B', F', R', he, hr, hrep, hm, _⟩ => ?_
 ·simp only [List.mem_cons, List.not_mem_nil, or_false] at hp
  rcases hp with rfl | rfl <;> assumption
 subst he
 subst hr
 cases hrep
 have bel := below_of hm
 exact ⟨_, rfl, _, _, _, [], _, [], hW', trodAll_mk1 (shut_bool Tryz.underlying4 _), trodAll_cons_mk (Below.trod laidOut (by kernel_rfl) (of_decide_eq_true (by kernel_rfl)) k0 bel lt0) trodAll_mk0, rfl, bel.frame _, fun h => by cases h⟩
theorem over : Rows.HistTextsUptoSaid :=
 OpenClaim.holds_of_cond 3 Tryz.f3 rfl rfl rfl rfl rfl rfl rfl ⟨rfl, rfl, rfl, rfl, rfl⟩ rfl rfl rfl rfl rfl (by kernel_rfl) Tryz.func3 (by kernel_rfl)
  (of_decide_eq_true (by kernel_rfl)) (by unfold Func.isWrapper; first | (rw [if_pos (by decide +kernel)]; kernel_rfl) | (rw [if_neg (by decide +kernel)]; exact ⟨rfl, rfl⟩))
  (fun os started H enc _ F => by rw [OpenClaim.pre_eq_preRow]; exact lifted os started H enc F)
theorem plain (f : FuncId) (fn : Func) (hf : Tryz.pinned.checked.prog.funcNamed "weir/weirlaw30.HistTexts" = some f) (hfn : Tryz.pinned.checked.prog.funcs[f]? = some fn) :
  false = Tryz.pinned.checked.prog.looks [] ∧ ∀ (j : Nat) t, fn.params[j]? = some t → Tryz.pinned.checked.prog.wantsStandIn t = false := by
 obtain rfl : f = 3 := Option.some.inj ((show Tryz.prog.funcNamed "weir/weirlaw30.HistTexts" = some 3 by kernel_rfl).symm.trans hf) |>.symm
 obtain rfl : fn = Tryz.f3 := (Option.some.inj (Tryz.func3.symm.trans hfn)).symm
 refine ⟨by kernel_rfl, fun j t ht => ?_⟩
 rw [Tryz.params3] at ht
 obtain rfl : t = 27 := by simpa using Array.mem_of_getElem? ht
 exact (show Tryz.prog.wantsStandIn 27 = false by kernel_rfl)
end Go.Proofs.YtdfajmeabnmhjaaGreatDoor.histTexts
namespace Go.Proofs.YtdfajmeabnmhjaaGreatDoor
theorem histTexts_upto_card_holds : Rows.HistTextsUptoCardSaid :=
 Claim7.holds_tied_plain_at .later [] _ _ _ _ histTexts.over (fun _ h => by cases h) (by kernel_rfl) (fun _ h => by cases h) histTextsUpto_row_tie rfl ⟨rfl, rfl⟩ (by kernel_rfl) rfl histTexts.plain (by kernel_rfl)
end Go.Proofs.YtdfajmeabnmhjaaGreatDoor
