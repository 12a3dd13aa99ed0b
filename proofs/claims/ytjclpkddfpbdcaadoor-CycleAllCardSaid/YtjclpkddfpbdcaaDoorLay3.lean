/-
  cycle.All's iterator: the closure, called with yield.
-/
import Derived.Test.YtjclpkddfpbdcaaDoorLay2
namespace Go.Proofs.YtjclpkddfpbdcaaDoor.Lay
open Go.RowKit Go.Proofs.YtjclpkddfpbdcaaDoorW.PrintWords Go.Proofs.YtjclpkddfpbdcaaDoorW.PrintLast Go.Proofs.YtjclpkddfpbdcaaDoorW.PrintMore Go.Proofs.YtjclpkddfpbdcaaDoor.XC
set_option linter.unusedVariables false
set_option linter.unusedSimpArgs false

set_option maxHeartbeats 8000000 in
set_option maxRecDepth 100000 in
theorem all1_calls (l : Nat) (J Jx : List (List ByteArray) → World → Prop) (hst : ∀ acc W W', J acc W → Below W.heap.size W W' → J acc W')
    (hy : ∀ acc x W0 W v, J acc W0 → Below W0.heap.size W0 W → Kd.R Kd.string 9 W W0.heap.size (fun _ => True) v x → (∀ k_, v.ownBlock = some k_ → W0.heap.size ≤ k_) → Yields l v W fun e W' => Keep W W' ∧ ((e = .returned (.bool true) ∧ J (acc ++ [x]) W') ∨ (e = .returned (.bool false) ∧ Jx (acc ++ [x]) W')))
    (k : Nat) (A0 : Option Addr) (c0 : Nat) (l0 : List Int) (a2 : Int) (r : List (List ByteArray)) (Be Bn : Nat) (w : World) (hr0 : CT (Kd.int .i64) 3 w A0 l0.length l0) (hc0 : l0.length ≤ c0) (hbe : w.cell? ⟨Be, 0, none⟩ = some (.slice A0 l0.length c0)) (hbn : w.cell? ⟨Bn, 0, none⟩ = some (.int .i64 a2)) (hj : J [] w) (h : cycle_node.f k l0 [] a2 = some r) :
    Calls Tryd.prog 36 #[.func (.yield l) #[] #[], .pointer (some ⟨Be, 0, none⟩), .pointer (some ⟨Bn, 0, none⟩)] w fun e W' => (∃ v, e = .returned v) ∧ (J r W' ∨ ∃ p q, r = p ++ q ∧ p ≠ [] ∧ Jx p W') := by
  have HJ := Aside0.mk hj
  have HX := Aside0.mk hr0
  have HB := Aside0.mk (Below.refl w.heap.size w)
  have hbe' := hbe
  have hbn' := hbn
  go_enter Tryd.func36, Tryd.ntmps36
  go_wp2_with (first | ((with_reducible refine gate_callee (f := 37) rfl ?_); refine goesL_ (some 7) rfl rfl Tryd.func37 (by kernel_rfl) rfl #[.slice A0 l0.length c0, .slice none 0 0, .int .i64 a2, .func (.yield l) #[] #[]] rfl (by (try simp only [List.map_toArray, List.map_cons, List.map_nil]); first | done | rfl) ?_; refine (lay_node l J Jx hst hy k A0 c0 l0 none 0 [] a2 r [] _ (HX.out.below (by repeat (first | with_reducible exact Below.refl _ _ | apply below_alloc | apply pw_below_drewN | apply below_drew1))) hc0 ⟨⟨rfl, by decide, fun h => absurd h (by decide)⟩, fun ad e => by cases e⟩ (by decide) (hst _ _ _ HJ.out (by repeat (first | with_reducible exact Below.refl _ _ | apply below_alloc | apply pw_below_drewN | apply below_drew1))) h).mono ?_; rintro e w9 ⟨hkp, b_, rfl, hj1, hj2⟩; refine ⟨_, rfl, ?_⟩))
  go_end0
  refine ⟨⟨_, rfl⟩, ?_⟩
  cases b_ with
  | true => exact .inl (hj1 rfl)
  | false =>
    obtain ⟨p, q, e1, e2, e3⟩ := hj2 rfl
    exact .inr ⟨p, q, e1, e2, e3⟩
end Go.Proofs.YtjclpkddfpbdcaaDoor.Lay
