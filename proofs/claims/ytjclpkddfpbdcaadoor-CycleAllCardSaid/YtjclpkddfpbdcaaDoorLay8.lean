/-
  weirref26.All: the first so many, in a row of rows.
-/
import Derived.Test.YtjclpkddfpbdcaaDoorLay7
namespace Go.Proofs.YtjclpkddfpbdcaaDoor.Lay
open Go.RowKit Go.Proofs.YtjclpkddfpbdcaaDoorW.PrintWords Go.Proofs.YtjclpkddfpbdcaaDoorW.PrintLast Go.Proofs.YtjclpkddfpbdcaaDoorW.PrintMore Go.Proofs.YtjclpkddfpbdcaaDoor.XC
set_option linter.unusedVariables false
set_option linter.unusedSimpArgs false

/-- A row of lists that are read. -/
def Lists (base : Nat) (W : World) (v : Value) (o : List (List ByteArray)) : Prop :=
  ∃ vs : List Value, W.ownsRow base 22 1 v o.length vs ∧ ∀ (j : Nat) (u : Value) (x : List ByteArray), vs[j]? = some u → o[j]? = some x → ∃ A c, u = .slice A x.length c ∧ x.length ≤ c ∧ CT Kd.string 9 W A x.length x
theorem Lists.below {base : Nat} {W W' : World} {v : Value} {o : List (List ByteArray)} (h : Lists base W v o) (hb : Below W.heap.size W W') : Lists base W' v o := by
  obtain ⟨vs, h4, h5⟩ := h
  refine ⟨vs, own_move h4 (fun k hk => hb.block k (own_lt h4 k hk)), fun j u x hu hx => ?_⟩
  obtain ⟨A, c, e, hl, hc⟩ := h5 j u x hu hx
  exact ⟨A, c, e, hl, hc.below hb⟩
theorem Lists.reads {base : Nat} {W : World} {v : Value} {o : List (List ByteArray)} (h : Lists base W v o) : ∃ A c, v = .slice A o.length c ∧ o.length ≤ c ∧ Kd.C (Kd.slice 9 Kd.string) W A o.length o := by
  obtain ⟨vs, h4, h5⟩ := h
  have hlv : vs.length = o.length := by have := h4.1; omega
  rcases h4.2 with ⟨rfl, h0⟩ | ⟨g, cap, cur, rfl, hb, hg, hn, hm, hs, ht⟩
  · have : o = [] := List.length_eq_zero_iff.1 h0
    subst this
    exact ⟨none, 0, rfl, Nat.le_refl _, rfl, by decide, fun h => absurd h (by decide)⟩
  · refine ⟨some ⟨g, 0, none⟩, cap, rfl, hn, rfl, by have : maxLen = 9223372036854775807 := rfl; omega, fun _ => ⟨_, rfl, fun j x hj => ?_⟩⟩
    have hj' : j < o.length := (List.getElem?_eq_some_iff.1 hj).1
    have hvj : vs[j]? = some vs[j] := List.getElem?_eq_getElem (by omega)
    obtain ⟨A, c, e, hl, hc⟩ := h5 j vs[j] x hvj hj
    refine ⟨[vs[j]], rfl, ⟨A, c, by rw [e], hl, hc.1⟩, fun i u hi => ?_⟩
    have hi0 : i = 0 := by
      have := (List.getElem?_eq_some_iff.1 hi).1
      simp at this
      exact this
    subst hi0
    obtain rfl : vs[j] = u := by simpa using hi
    have h1 : (cur.toList.take (o.length * 1))[j]? = vs[j]? := by rw [ht]
    rw [List.getElem?_take_of_lt (by omega), hvj, Array.getElem?_toList] at h1
    show W.cell? ((⟨g, 0, none⟩ : Addr).add (j * 1 + 0)) = _
    have e0 : (⟨g, 0, none⟩ : Addr).add (j * 1 + 0) = ⟨g, j, none⟩ := by
      unfold Addr.add
      split
      · next h0 => rw [show j = 0 by omega]
      · simp
    rw [e0]
    simp only [World.cell?, hg]
    simpa using h1

/-- How weirref26.All ends. -/
def RefEnd (n : Int) (ok : Bool) (r : List (List ByteArray)) (w : World) (e : Ending) (w' : World) : Prop := Below w.heap.size w w' ∧
      ((n < 2 ∨ 16 < n) → e = .returned (.tuple #[.slice none 0 0, .int .i64 4])) ∧ (2 ≤ n → n ≤ 16 → ok = false → e = .returned (.tuple #[.slice none 0 0, .int .i64 260])) ∧
      (2 ≤ n → n ≤ 16 → ok = true → ∃ v, e = .returned (.tuple #[v, .int .i64 0]) ∧ Lists w.heap.size w' v r)
set_option maxHeartbeats 8000000 in
set_option maxRecDepth 100000 in
theorem refAll_calls (k : Nat) (A0 : Option Addr) (c0 : Nat) (l0 : List ByteArray) (n m : Int) (hm : m ≤ 60) (l5 : List ByteArray) (hl5 : l5.length = 18) (r1 : List Int) (ok : Bool) (r : List (List ByteArray)) (w : World) (hr0 : Kd.C Kd.string w A0 l0.length l0) (hc0 : l0.length ≤ c0) (hr5 : Kd.C Kd.string w (some ⟨0, 0, none⟩) l5.length l5)
    (h : weirref26_numbers.f k l0 l5 = some (r1, ok)) (hg : 2 ≤ n → n ≤ 16 → ok = true → weirref26_grow.f k l0 [] n m [] l5 = some r) :
    Calls Tryd.prog 16 #[.slice A0 l0.length c0, .int .i64 n, .int .i64 m] w (RefEnd n ok r w) := by
  have HR0 := Aside0.mk hr0
  have HR5 := Aside0.mk hr5
  have HB := Aside0.mk (Below.refl w.heap.size w)
  by_cases c1 : n < 2
  · have c1b : decide (n < 2) = true := decide_eq_true c1
    go_enter Tryd.func16, Tryd.ntmps16
    go_wp2
    go_ret2
    exact ⟨by repeat (first | (with_reducible first | exact HB.out | apply below_alloc | apply pw_below_drewN | apply below_drew1) | exact HB.out), fun _ => rfl, fun h => absurd h (by omega), fun h => absurd h (by omega)⟩
  have c1b : decide (n < 2) = false := decide_eq_false c1
  by_cases c2 : 16 < n
  · have c2b : decide (16 < n) = true := decide_eq_true c2
    go_enter Tryd.func16, Tryd.ntmps16
    go_wp2
    go_ret2
    exact ⟨by repeat (first | (with_reducible first | exact HB.out | apply below_alloc | apply pw_below_drewN | apply below_drew1) | exact HB.out), fun _ => rfl, fun _ h => absurd h (by omega), fun _ h => absurd h (by omega)⟩
  have c2b : decide (16 < n) = false := decide_eq_false c2
  cases ok with
  | false =>
    go_enter Tryd.func16, Tryd.ntmps16
    go_wp2_with (first | ((with_reducible refine gate_callee (f := 38) rfl ?_); refine goesL_ (some 19) rfl rfl Tryd.func38 (by kernel_rfl) rfl #[.slice A0 l0.length c0] rfl (by (try simp only [List.map_toArray, List.map_cons, List.map_nil]); first | done | rfl) ?_; refine (weirref26_numbers.calls k A0 c0 l0 (some ⟨0, 0, none⟩) 18 l5 r1 false _ ?side1 hc0 ?side2 rfl h).mono ?_; (case side1 => repeat (first | exact (Kd.C_below HR0.out HB.out) | (with_reducible refine Kd.C_alloc ?_ _) | (with_reducible refine Kd.C_drewN ?_ _) | (with_reducible refine Kd.C_drew ?_))); (case side2 => repeat (first | exact (Kd.C_below HR5.out HB.out) | (with_reducible refine Kd.C_alloc ?_ _) | (with_reducible refine Kd.C_drewN ?_ _) | (with_reducible refine Kd.C_drew ?_))); rintro e w9 ⟨v9, rfl, ho9, hb9⟩; refine ⟨_, rfl, ?_⟩; have n1_ := Aside0.mk (below_step (by repeat (first | (with_reducible first | exact HB.out | apply below_alloc | apply pw_below_drewN | apply below_drew1) | exact HB.out)) hb9); clear HB; have HB := n1_; clear n1_))
    go_ret2
    exact ⟨by repeat (first | (with_reducible first | exact HB.out | apply below_alloc | apply pw_below_drewN | apply below_drew1) | exact HB.out), fun h => absurd h (by omega), fun _ _ _ => rfl, fun _ _ h => by cases h⟩
  | true =>
    have hg' := hg (by omega) (by omega) rfl
    go_enter Tryd.func16, Tryd.ntmps16
    go_wp2_with (first | ((with_reducible refine gate_callee (f := 38) rfl ?_); refine goesL_ (some 19) rfl rfl Tryd.func38 (by kernel_rfl) rfl #[.slice A0 l0.length c0] rfl (by (try simp only [List.map_toArray, List.map_cons, List.map_nil]); first | done | rfl) ?_; refine (weirref26_numbers.calls k A0 c0 l0 (some ⟨0, 0, none⟩) 18 l5 r1 true _ ?side1 hc0 ?side2 rfl h).mono ?_; (case side1 => repeat (first | exact (Kd.C_below HR0.out HB.out) | (with_reducible refine Kd.C_alloc ?_ _) | (with_reducible refine Kd.C_drewN ?_ _) | (with_reducible refine Kd.C_drew ?_))); (case side2 => repeat (first | exact (Kd.C_below HR5.out HB.out) | (with_reducible refine Kd.C_alloc ?_ _) | (with_reducible refine Kd.C_drewN ?_ _) | (with_reducible refine Kd.C_drew ?_))); rintro e w9 ⟨v9, rfl, ho9, hb9⟩; refine ⟨_, rfl, ?_⟩; have n1_ := Aside0.mk (below_step (by repeat (first | (with_reducible first | exact HB.out | apply below_alloc | apply pw_below_drewN | apply below_drew1) | exact HB.out)) hb9); clear HB; have HB := n1_; clear n1_) | ((with_reducible refine gate_callee (f := 39) rfl ?_); refine goesL_ (some 27) rfl rfl Tryd.func39 (by kernel_rfl) rfl #[.slice A0 l0.length c0, .slice none 0 0, .int .i64 n, .int .i64 m, .pointer (some ⟨w9.heap.size, 0, none⟩)] rfl (by (try simp only [List.map_toArray, List.map_cons, List.map_nil]); first | done | rfl) ?_; refine (grow_calls w w9.heap.size A0 c0 l0 n m hm l5 hl5 HR0.out hc0 HR5.out k none 0 [] [] r _ ⟨⟨rfl, by decide, fun h => absurd h (by decide)⟩, fun ad e => by cases e⟩ (by decide) (by repeat (first | (with_reducible first | exact HB.out | apply below_alloc | apply pw_below_drewN | apply below_drew1) | exact HB.out)) ⟨_, Boxed.new w9 41 _, HB.out.size, (by have := HB.out.size; simp; omega), [], own_nil _ _ _ _, fun j u x h => by simp at h⟩ hg').mono ?_; rintro e w10 ⟨rfl, hkp, hb10, v10, hx10, _, _, vs10, hl10⟩; refine ⟨_, rfl, ?_⟩; have hcx := hx10.cell))
    go_ret2
    exact ⟨hb10, fun h => absurd h (by omega), fun _ _ h => (by cases h), fun _ _ _ => ⟨_, rfl, vs10, hl10⟩⟩
end Go.Proofs.YtjclpkddfpbdcaaDoor.Lay
