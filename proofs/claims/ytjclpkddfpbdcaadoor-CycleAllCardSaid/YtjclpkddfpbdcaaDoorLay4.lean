/-
  A range over cycle.All's iterator: the statement's law at an invariant of the caller's.
-/
import Derived.Test.YtjclpkddfpbdcaaDoorLay3
import Derived.RangeFuncFrom
import Derived.RangeFuncBox
import Derived.Maps.AppendAt
import Derived.Shelf.Abstract
import Derived.Shelf.RegionOpen
import Derived.WalkKit
import Derived.RangeFuncNested
import Derived.RangeFuncCalls
import Derived.LoopNIn
import Derived.LoopIn
namespace Go.Proofs.YtjclpkddfpbdcaaDoor.Lay
open Go.Shelf Go.RowKit Go.Proofs.YtjclpkddfpbdcaaDoorW.PrintWords Go.Proofs.YtjclpkddfpbdcaaDoorW.PrintLast Go.Proofs.YtjclpkddfpbdcaaDoorW.PrintMore Go.Proofs.YtjclpkddfpbdcaaDoor.XC
set_option linter.unusedVariables false
set_option linter.unusedSimpArgs false

/-- Nothing below B has turned, and no cells. -/
def Calm (B : Nat) (W W' : World) : Prop := Below B W W' ∧ ∀ (k : Nat) (cells : Array Value) (t : Nat) (m : Nat × Nat), W.heap[k]? = some (Obj.cells cells t m) → W'.heap[k]? = some (Obj.cells cells t m)
theorem Calm.refl (B : Nat) (W : World) : Calm B W W := ⟨Below.refl _ _, fun _ _ _ _ h => h⟩
theorem Calm.trans {B : Nat} {W W1 W2 : World} (h : Calm B W W1) (h1 : Calm B W1 W2) : Calm B W W2 := ⟨h.1.trans h1.1, fun k c t m hk => h1.2 k c t m (h.2 k c t m hk)⟩
theorem Calm.of_below {B : Nat} {W W' : World} (h : Below W.heap.size W W') (hB : B ≤ W.heap.size) : Calm B W W' := ⟨h.mono hB, fun k c t m hk => (h.block k (Array.getElem?_eq_some_iff.1 hk).1).trans hk⟩
theorem Calm.putObj {B : Nat} {W : World} {l : Nat} {o o' : Obj} (hB : B ≤ l) (hW : B ≤ W.heap.size) (ho : W.heap[l]? = some o) (hc : o.isCells = false) : Calm B W (W.putObj l o') :=
  ⟨(Below.refl _ W).grown (grownBy_putObj' W l o') hW (fun k e => by cases e; exact hB), fun k c t m hk => (World.putObj_heap_other (fun e => by subst e; rw [ho] at hk; cases hk; cases hc)).trans hk⟩
theorem Calm.keep {B : Nat} {W W' : World} (h : Calm B W W') : Keep W W' := ⟨h.1.size, fun k c t m hk _ _ => h.2 k c t m hk⟩

set_option maxHeartbeats 4000000 in
set_option maxRecDepth 100000 in
theorem rangeAll {g : Operand} {ps : Array Tmp} {assign body : Code} {Q : Exit → Act → World → Prop} {a : Act} {w : World}
    (k : Nat) (A0 : Option Addr) (c0 : Nat) (l0 : List Int) (a2 : Int) (r : List (List ByteArray)) (Be Bn id : Nat)
    (hg : a.eval g = .func (.func 36) #[] #[.pointer (some ⟨Be, 0, none⟩), .pointer (some ⟨Bn, 0, none⟩)]) (hps : ps.size = 1)
    (hr0 : CT (Kd.int .i64) 3 w A0 l0.length l0) (hc0 : l0.length ≤ c0) (hbe : w.cell? ⟨Be, 0, none⟩ = some (.slice A0 l0.length c0)) (hbn : w.cell? ⟨Bn, 0, none⟩ = some (.int .i64 a2)) (h : cycle_node.f k l0 [] a2 = some r)
    (I Ix : List (List ByteArray) → World → Prop) (hI : ∀ acc W W', I acc W → Calm w.heap.size W W' → I acc W') (hIx : ∀ acc W W', Ix acc W → Calm w.heap.size W W' → Ix acc W') (h0 : I [] w)
    (hround : ∀ (l : Nat) (acc : List (List ByteArray)) (x : List ByteArray) (W0 W : World) (v : Value), I acc W0 → Calm w.heap.size W0 W → w.heap.size ≤ W0.heap.size → Kd.R Kd.string 9 W W0.heap.size (fun _ => True) v x →
      ∃ a₁, (∀ (W' : World) (K : Act → World → Prop), K a₁ W' → assign.wpIn (Fence.wide.inRound l) 0 Tryd.prog (Exit.then K (fun _ _ _ => False)) { tmps := (ps.zip #[v]).foldl (fun t (p, v) => t.setIfInBounds p v) a.tmps, defers := [] } W') ∧
        body.wpIn (Fence.wide.inRound l) 0 Tryd.prog (fun e a' W' => KeepsOthers W W' ∧ Keep W W' ∧ ((e = .normal ∧ I (acc ++ [x]) W') ∨ (e = .exit id ∧ Ix (acc ++ [x]) W'))) a₁ W)
    (hdone : ∀ (D : Nat) (W : World), w.heap.size ≤ D → I r W → W.heap[D]? = some (.deferred (some [])) → Q .normal { a with defers := { target := .collected D, args := #[] } :: a.defers } W)
    (hstop : ∀ (D : Nat) (p q : List (List ByteArray)) (W : World), r = p ++ q → p ≠ [] → w.heap.size ≤ D → Ix p W → W.heap[D]? = some (.deferred (some [])) → (Code.exit id).wpIn Fence.wide 0 Tryd.prog Q { a with defers := { target := .collected D, args := #[] } :: a.defers } W) :
    (Code.rangeFunc g ps assign body).wpIn Fence.wide 0 Tryd.prog Q a w := by
  refine wpIn_rangeFunc ?_
  intro fn hfn
  rw [show Fence.wide.round = none from rfl]
  obtain ⟨rec, hrec⟩ : ∃ rec : LoopState → Option Code → Loop, rec = fun st pe => { state := st, pending := pe, fn, tmps := a.tmps, params := ps, assign, body, defers := w.heap.size } := ⟨_, rfl⟩
  obtain ⟨W1, hW1⟩ : ∃ W1, (w.alloc (.deferred (some []))).alloc (.loop (rec .ready none)) = W1 := ⟨_, rfl⟩
  have hL1 : W1.heap[w.heap.size + 1]? = some (.loop (rec .ready none)) := by
    rw [← hW1]; have := World.alloc_heap_new (w.alloc (.deferred (some []))) (.loop (rec .ready none)); rwa [World.size_alloc] at this
  have hK1 : W1.heap[w.heap.size]? = some (.deferred (some [])) := by
    rw [← hW1]; exact (Below.heap_alloc _ _ _ (by simp)).trans (World.alloc_heap_new w _)
  have hb1 : Below w.heap.size w W1 := by
    rw [← hW1]; exact ((Below.refl _ w).alloc (Nat.le_refl _) _).alloc (by simp) _
  have hs1 : W1.heap.size = w.heap.size + 2 := by rw [← hW1]; simp
  have hI1 : I [] W1 := hI _ _ _ h0 (Calm.of_below hb1 (Nat.le_refl _))
  refine ⟨w.heap.size + 1, [{ target := .collected w.heap.size, args := #[] }], W1, { target := .fn (.func 36) #[.pointer (some ⟨Be, 0, none⟩), .pointer (some ⟨Bn, 0, none⟩)], args := #[.func (.yield (w.heap.size + 1)) #[] #[]] }, W1, 36,
    #[.func (.yield (w.heap.size + 1)) #[] #[]] ++ #[.pointer (some ⟨Be, 0, none⟩), .pointer (some ⟨Bn, 0, none⟩)], W1, ?_, ?_, fun _ _ => trivial, ?_, (fun h => by cases h), ?_⟩
  · rw [← hW1, hrec]; exact run_enterLoop_outer _ _ _ _ _
  · simp only [resolve, hg]
    simp [go_sem]
  · have eg := fun args w => enters_of Tryd.func36 (by kernel_rfl) rfl args w
    simp [invoke, go_sem, eg]
  have hbe1 : W1.cell? ⟨Be, 0, none⟩ = some (.slice A0 l0.length c0) := (hb1.cell (World.block_lt_of_cell? w _ hbe)).trans hbe
  have hbn1 : W1.cell? ⟨Bn, 0, none⟩ = some (.int .i64 a2) := (hb1.cell (World.block_lt_of_cell? w _ hbn)).trans hbn
  refine (callsIn_wide.2 (all1_calls (w.heap.size + 1)
    (fun acc W => w.heap.size + 2 ≤ W.heap.size ∧ I acc W ∧ W.heap[w.heap.size + 1]? = some (.loop (rec .ready none)) ∧ W.heap[w.heap.size]? = some (.deferred (some [])))
    (fun acc W => Ix acc W ∧ W.heap[w.heap.size + 1]? = some (.loop (rec .done (some (.exit id)))) ∧ W.heap[w.heap.size]? = some (.deferred (some []))) ?_ ?_ k A0 c0 l0 a2 r Be Bn W1 (hr0.below hb1) hc0 hbe1 hbn1 ⟨by omega, hI1, hL1, hK1⟩ h)).mono ?_
  · rintro acc W W' ⟨hs, hi, hl, hk⟩ hb
    exact ⟨Nat.le_trans hs (below_size hb), hI _ _ _ hi (Calm.of_below hb (by omega)), (hb.block _ (by omega)).trans hl, (hb.block _ (by omega)).trans hk⟩
  · rintro acc x W0 W v ⟨hs, hi, hl0, hk0⟩ hb hv hfr
    have hl : W.heap[w.heap.size + 1]? = some (.loop (rec .ready none)) := (hb.block _ (by omega)).trans hl0
    have hk : W.heap[w.heap.size]? = some (.deferred (some [])) := (hb.block _ (by omega)).trans hk0
    have hsz := below_size hb
    have hlt : w.heap.size + 1 < W.heap.size := (Array.getElem?_eq_some_iff.1 hl).1
    have hy := run_yield (P := Tryd.prog) (args := #[v]) hl (by rw [hrec]; exact hps.symm)
    refine ⟨_, _, _, _, hy, roundIn_of_wpIn (by rw [hrec]; exact hfn) ?_⟩
    obtain ⟨W2, hW2⟩ : ∃ W2, W.putObj (w.heap.size + 1) (.loop { rec .ready none with state := .busy }) = W2 := ⟨_, rfl⟩
    have hbr := run_beginRound (P := Tryd.prog) hl (by rw [hrec])
    rw [hW2] at hbr
    have hc2 : Calm w.heap.size W W2 := by rw [← hW2]; exact Calm.putObj (by omega) (by omega) hl rfl
    have hl2 : W2.heap[w.heap.size + 1]? = some (.loop (rec .busy none)) := by rw [← hW2, hrec]; exact World.putObj_heap_same hlt
    have hk2 : W2.heap[w.heap.size]? = some (.deferred (some [])) := by rw [← hW2]; exact (World.putObj_heap_other (by omega)).trans hk
    have hv2 : Kd.R Kd.string 9 W2 W0.heap.size (fun _ => True) v x := Kd.R_mono (Kd.R_move (Kd.R_bound hv) (fun k_ hk_ => by
      obtain ⟨_, _, _, q, _, cells, hc⟩ := hk_
      exact (hc2.2 _ _ _ _ hc).trans hc.symm)) (fun _ _ => trivial)
    obtain ⟨a₁, ha, hbody⟩ := hround (w.heap.size + 1) acc x W0 W2 v hi ((Calm.of_below hb (by omega)).trans hc2) (by omega) hv2
    rw [hrec]
    refine ha W _ ⟨W2, hbr, ?_⟩
    refine Code.wpIn_mono ?_ hbody
    rintro e a3 W3 ⟨hk3, hkp3, hp⟩
    have hl3 := hk3.same _ _ hl2 rfl
    have hd3 := hk3.same _ _ hk2 rfl
    have hs3 := hk3.size
    have hlt3 : w.heap.size + 1 < W3.heap.size := (Array.getElem?_eq_some_iff.1 hl3).1
    have fin : ∀ jump : Option Code, (Instr.endRound (w.heap.size + 1) jump).run Tryd.prog W3 = .ok (.bool jump.isNone) (W3.putObj (w.heap.size + 1) (.loop (rec (if jump.isNone then .ready else .done) jump))) := fun jump => by
      have := run_endRound (P := Tryd.prog) jump hl3
      rw [hrec] at this ⊢
      exact this
    have hcl : ∀ o', Calm w.heap.size W3 (W3.putObj (w.heap.size + 1) o') := fun o' => Calm.putObj (by omega) (by omega) hl3 rfl
    have hsz2 : W.heap.size = W2.heap.size := by rw [← hW2]; simp
    rcases hp with ⟨rfl, hi3⟩ | ⟨rfl, hi3⟩
    · refine ⟨_, _, fin none, ⟨true, rfl⟩, (hc2.keep.trans hkp3).trans (hcl _).keep, .inl ⟨rfl, by simp; omega, hI _ _ _ hi3 (hcl _), (by have h9 := World.putObj_heap_same (o := .loop (rec .ready none)) hlt3; subst hrec; exact h9), (World.putObj_heap_other (by omega)).trans hd3⟩⟩
    · refine ⟨_, _, fin (some (.exit id)), ⟨false, rfl⟩, (hc2.keep.trans hkp3).trans (hcl _).keep, .inr ⟨rfl, hIx _ _ _ hi3 (hcl _), (by have h9 := World.putObj_heap_same (o := .loop (rec .done (some (.exit id)))) hlt3; subst hrec; exact h9), (World.putObj_heap_other (by omega)).trans hd3⟩⟩
  · rintro e W2 ⟨⟨v, rfl⟩, (⟨hs, hi, hl, hk⟩ | ⟨p, q, e1, e2, hi, hl, hk⟩)⟩
    · refine ⟨none, _, run_endLoop (P := Tryd.prog) hl (by rw [hrec]; simp) |>.trans (by rw [hrec]), hdone _ _ (Nat.le_refl _) (hI _ _ _ hi (Calm.putObj (by omega) (by omega) hl rfl)) ((World.putObj_heap_other (by omega)).trans hk)⟩
    · have hlt2 : w.heap.size + 1 < W2.heap.size := (Array.getElem?_eq_some_iff.1 hl).1
      refine ⟨some (.exit id), _, run_endLoop (P := Tryd.prog) hl (by rw [hrec]; simp) |>.trans (by rw [hrec]), hstop _ p q _ e1 e2 (Nat.le_refl _) (hIx _ _ _ hi (Calm.putObj (by omega) (by omega) hl rfl)) ((World.putObj_heap_other (by omega)).trans hk)⟩
end Go.Proofs.YtjclpkddfpbdcaaDoor.Lay
