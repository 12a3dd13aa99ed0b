/-
  weirlaw26.first at cycle.All's iterator: the first so many.
-/
import Derived.Test.YtjclpkddfpbdcaaDoorLay4
namespace Go.Proofs.YtjclpkddfpbdcaaDoor.Lay
open Go.Shelf Go.RowKit Go.Proofs.YtjclpkddfpbdcaaDoorW.PrintWords Go.Proofs.YtjclpkddfpbdcaaDoorW.PrintLast Go.Proofs.YtjclpkddfpbdcaaDoorW.PrintMore Go.Proofs.YtjclpkddfpbdcaaDoor.XC
attribute [local go_sem] Oper.semAt_some
set_option linter.unusedVariables false
set_option linter.unusedSimpArgs false

theorem infoRows : (Tryd.prog.info? 22).map (fun i => (i.zero, i.size, i.bytes)) = some (some (.slice none 0 0), 1, 24) := by kernel_rfl

/-- A row of lists of names; each list is a row of its own. -/
def CollV (base : Nat) (W : World) (v : Value) (acc : List (List ByteArray)) (vs : List Value) : Prop :=
  W.ownsRow base 22 1 v acc.length vs ∧ (∀ (j : Nat) (u : Value) (x : List ByteArray), vs[j]? = some u → acc[j]? = some x → Kd.R Kd.string 9 W base (fun _ => True) u x) ∧ ∀ (i j : Nat) (u u' : Value), i < j → vs[i]? = some u → vs[j]? = some u' → NeRow u u'
def Coll (base : Nat) (W : World) (v : Value) (acc : List (List ByteArray)) : Prop := ∃ vs : List Value, CollV base W v acc vs

theorem Coll.nil (base : Nat) (W : World) : Coll base W (.slice none 0 0) [] := ⟨[], own_nil _ _ _ _, fun j u x h => by simp at h, fun i j u u' _ h => by simp at h⟩
theorem CollV.move {base : Nat} {W W' : World} {v : Value} {acc : List (List ByteArray)} {vs : List Value} (h : CollV base W v acc vs) (hm : ∀ (k : Nat) (cells : Array Value) (t : Nat), base ≤ k → W.heap[k]? = some (Obj.cells cells t (0, 0)) → t = 22 ∨ t = 9 → W'.heap[k]? = W.heap[k]?) : CollV base W' v acc vs := by
  obtain ⟨h1, h2, h3⟩ := h
  refine ⟨own_move h1 (fun k hk => ?_), fun j u x hu hx => ?_, h3⟩
  · obtain ⟨cells, hc⟩ := own_typed h1 k hk
    exact hm k cells _ (own_base h1 k hk) hc (.inl rfl)
  · refine Kd.R_mono (Kd.R_move (Kd.R_bound (h2 j u x hu hx)) (fun k hk => ?_)) (fun _ _ => trivial)
    obtain ⟨_, hb, _, q, hq, cells, hc⟩ := hk
    have hq' : q = 9 := by simpa [Kd.string, Kd.scalar] using hq
    exact hm k cells q hb hc (.inr hq')
theorem CollV.calm {base B : Nat} {W W' : World} {v : Value} {acc : List (List ByteArray)} {vs : List Value} (h : CollV base W v acc vs) (hc : Calm B W W') : CollV base W' v acc vs := h.move fun k cells t _ hk _ => (hc.2 k cells t _ hk).trans hk.symm
theorem Coll.calm {base B : Nat} {W W' : World} {v : Value} {acc : List (List ByteArray)} (h : Coll base W v acc) (hc : Calm B W W') : Coll base W' v acc := by
  obtain ⟨vs, h⟩ := h
  exact ⟨vs, h.calm hc⟩
theorem boxed_calm {B Bl t : Nat} {W W' : World} {v : Value} (h : Boxed W Bl t v) (hc : Calm B W W') : Boxed W' Bl t v := hc.2 _ _ _ _ h

/-- A list more. -/
theorem Coll.snoc {base : Nat} {W w1 : World} {v v' u : Value} {acc : List (List ByteArray)} {x : List ByteArray} {vs : List Value} {tmp : Obj} (h1 : W.ownsRow base 22 1 v acc.length vs)
    (h2 : ∀ (j : Nat) (u : Value) (x : List ByteArray), vs[j]? = some u → acc[j]? = some x → Kd.R Kd.string 9 W base (fun _ => True) u x) (h3 : ∀ (i j : Nat) (u u' : Value), i < j → vs[i]? = some u → vs[j]? = some u' → NeRow u u')
    (hu : Kd.R Kd.string 9 W base (fun _ => True) u x) (hfr : ∀ (j : Nat) (u' : Value), vs[j]? = some u' → NeRow u' u)
    (hown' : w1.ownsRow base 22 1 v' (acc.length + 1) (vs ++ [u])) (hgrow : (W.alloc tmp).grownBy w1 v.ownBlock) : Coll base w1 v' (acc ++ [x]) := by
  have hlen : vs.length = acc.length := by have := h1.1; omega
  have hmv : ∀ {z : Value} {y : List ByteArray}, Kd.R Kd.string 9 W base (fun _ => True) z y → Kd.R Kd.string 9 w1 base (fun _ => True) z y := fun hz =>
    Kd.R_mono (Kd.R_move (Kd.R_bound hz) (fun k hk => by
      obtain ⟨_, hb, hlt, q, hq, cells, hc⟩ := hk
      have hq' : q = 9 := by simpa [Kd.string, Kd.scalar] using hq
      subst hq'
      refine (hgrow.block k (by simp; omega) (fun e => ?_)).trans (Below.heap_alloc _ _ k hlt)
      obtain ⟨cells', hc'⟩ := own_typed h1 k e.symm
      rw [hc] at hc'
      injection hc' with hc'
      injection hc' with _ e2
      exact absurd e2 (by decide))) (fun _ _ => trivial)
  refine ⟨vs ++ [u], by rw [List.length_append]; exact hown', fun j z y hz hy => ?_, fun i j z z' hij hz hz' => ?_⟩
  · rcases Nat.lt_or_ge j vs.length with hj | hj
    · rw [List.getElem?_append_left hj] at hz
      rw [List.getElem?_append_left (by omega)] at hy
      exact hmv (h2 j z y hz hy)
    · rw [List.getElem?_append_right hj] at hz
      rw [List.getElem?_append_right (by omega)] at hy
      have e0 : j - vs.length = 0 := by
        have := (List.getElem?_eq_some_iff.1 hz).1
        simp at this
        omega
      rw [e0] at hz
      rw [show j - acc.length = 0 by omega] at hy
      obtain rfl : u = z := by simpa using hz
      obtain rfl : x = y := by simpa using hy
      exact hmv hu
  · have hj : j < vs.length + 1 := by simpa using (List.getElem?_eq_some_iff.1 hz').1
    rw [List.getElem?_append_left (by omega)] at hz
    rcases Nat.lt_or_ge j vs.length with hj' | hj'
    · rw [List.getElem?_append_left hj'] at hz'
      exact h3 i j z z' hij hz hz'
    · rw [List.getElem?_append_right hj'] at hz'
      have e0 : j - vs.length = 0 := by omega
      rw [e0] at hz'
      obtain rfl : u = z' := by simpa using hz'
      exact hfr i z hz

/-- What is kept behind 'l = append(l, c)'. -/
theorem keep_append {base Bl n : Nat} {W w1 : World} {v z : Value} {vs : List Value} {u : Value} (hrow : W.ownsRow base 22 1 v n vs) (hv : Boxed W Bl 41 z) (hgrow : (W.alloc (Obj.cells #[u] 22)).grownBy w1 v.ownBlock) (z' : Value) : Keep W (w1.setCell ⟨Bl, 0, none⟩ z') := by
  refine ⟨by have := hgrow.size; have h2 := (KeepsOthers.setCell w1 ⟨Bl, 0, none⟩ z').size; simp at this; omega, fun k cells t m hk ha hb => ?_⟩
  have hlt := (Array.getElem?_eq_some_iff.1 hk).1
  have h1 : w1.heap[k]? = W.heap[k]? := (hgrow.block k (by simp; omega) (fun e => by
    obtain ⟨cells', hc'⟩ := own_typed hrow k e.symm
    rw [hk] at hc'
    injection hc' with hc'
    injection hc' with _ e2
    exact ha e2)).trans (Below.heap_alloc _ _ k hlt)
  refine (Below.heap_setCell _ _ _ k (fun e => ?_)).trans (h1.trans hk)
  have hv' : W.heap[Bl]? = _ := hv
  subst e
  rw [hk] at hv'
  injection hv' with hv'
  injection hv' with _ e2
  exact hb e2
theorem Coll.setBox {base Bl : Nat} {W : World} {v z z' : Value} {acc : List (List ByteArray)} (h : Coll base W v acc) (hv : Boxed W Bl 41 z) : Coll base (W.setCell ⟨Bl, 0, none⟩ z') v acc := by
  obtain ⟨vs, h⟩ := h
  refine ⟨vs, h.move fun k cells t _ hk ht => Below.heap_setCell _ _ _ k (fun e => ?_)⟩
  have hv' : W.heap[Bl]? = _ := hv
  subst e
  rw [hk] at hv'
  injection hv' with hv'
  injection hv' with _ e2
  subst e2
  rcases ht with h1 | h1 <;> exact absurd h1 (by decide)

set_option maxHeartbeats 8000000 in
set_option maxRecDepth 100000 in
theorem first_calls (k : Nat) (A0 : Option Addr) (c0 : Nat) (l0 : List Int) (a2 : Int) (r : List (List ByteArray)) (Be Bn : Nat) (m : Int) (w : World) (hm : m ≤ 60)
    (hr0 : CT (Kd.int .i64) 3 w A0 l0.length l0) (hc0 : l0.length ≤ c0) (hbe : w.cell? ⟨Be, 0, none⟩ = some (.slice A0 l0.length c0)) (hbn : w.cell? ⟨Bn, 0, none⟩ = some (.int .i64 a2)) (h : cycle_node.f k l0 [] a2 = some r) :
    Calls Tryd.prog 17 #[.func (.func 36) #[] #[.pointer (some ⟨Be, 0, none⟩), .pointer (some ⟨Bn, 0, none⟩)], .int .i64 m] w fun e W' => Below w.heap.size w W' ∧ ∃ v, e = .returned v ∧ Coll w.heap.size W' v (r.take m.toNat) := by
  refine (callsIn_wide (n := 0)).1 (callsIn_of_wp_marks Tryd.func17 rfl trivial ?_ rfl)
  simp only [Tryd.ntmps17, List.size_toArray, List.length_cons, List.length_nil, Nat.reduceAdd, Nat.reduceSub, Array.replicate_succ, Array.replicate_zero, List.push_toArray, List.append_toArray, List.nil_append, List.cons_append]
  by_cases hm0 : m ≤ 0
  · have hmb : decide (m ≤ 0) = true := decide_eq_true hm0
    gi_wp2
    refine ⟨_, results_tmp rfl _ _ _, ?_⟩
    refine ⟨((Below.refl _ w).alloc (Nat.le_refl _) _).alloc (by simp) _, _, rfl, ?_⟩
    rw [show m.toNat = 0 by omega, List.take_zero]
    exact Coll.nil _ _
  · have hmb : decide (m ≤ 0) = false := decide_eq_false hm0
    have hm1 : 0 < m := by omega
    obtain ⟨i0, hi, hz0, hz1, hz2⟩ := info_parts infoRows
    gi_wp2
    obtain ⟨W0, hW0⟩ : ∃ W0, (w.alloc (Obj.cells #[Value.int IntKind.i64 m] 3)).alloc (Obj.cells #[Value.slice none 0 0] 41) = W0 := ⟨_, rfl⟩
    have hs0 : W0.heap.size = w.heap.size + 2 := by rw [← hW0]; simp
    have hb0 : Below w.heap.size w W0 := by rw [← hW0]; exact ((Below.refl _ w).alloc (Nat.le_refl _) _).alloc (by simp) _
    have hbm : Boxed W0 w.heap.size 3 (.int .i64 m) := by rw [← hW0]; exact (Boxed.new w 3 _).alloc _
    have hbl : Boxed W0 (w.heap.size + 1) 41 (.slice none 0 0) := by rw [← hW0]; have := Boxed.new (w.alloc (Obj.cells #[Value.int IntKind.i64 m] 3)) 41 (.slice none 0 0); rwa [World.size_alloc] at this
    rw [hW0]
    refine rangeAll k A0 c0 l0 a2 r Be Bn 0 rfl rfl (hr0.below hb0) hc0 ((hb0.cell (World.block_lt_of_cell? w _ hbe)).trans hbe) ((hb0.cell (World.block_lt_of_cell? w _ hbn)).trans hbn) h
      (fun acc W => ∃ v, Boxed W (w.heap.size + 1) 41 v ∧ Boxed W w.heap.size 3 (.int .i64 m) ∧ Coll w.heap.size W v acc ∧ Below w.heap.size w W ∧ acc.length < m.toNat)
      (fun acc W => ∃ v, Boxed W (w.heap.size + 1) 41 v ∧ Boxed W w.heap.size 3 (.int .i64 m) ∧ Coll w.heap.size W v acc ∧ Below w.heap.size w W ∧ acc.length = m.toNat) ?_ ?_ ?_ ?_ ?_ ?_
    · rintro acc W W' ⟨v, h1, h2, h3, h4, h5⟩ hc
      exact ⟨v, boxed_calm h1 hc, boxed_calm h2 hc, h3.calm hc, h4.trans (hc.1.mono (by omega)), h5⟩
    · rintro acc W W' ⟨v, h1, h2, h3, h4, h5⟩ hc
      exact ⟨v, boxed_calm h1 hc, boxed_calm h2 hc, h3.calm hc, h4.trans (hc.1.mono (by omega)), h5⟩
    · exact ⟨_, hbl, hbm, Coll.nil _ _, hb0, by simp; omega⟩
    · rintro l acc x W1 W u ⟨v, h1, h2, h3, h4, h5⟩ hc hle hu
      have hv := boxed_calm h1 hc
      have hmx := boxed_calm h2 hc
      have hb := h4.trans (hc.1.mono (show w.heap.size ≤ W0.heap.size by omega))
      obtain ⟨vs, h3⟩ := h3
      obtain ⟨hrow, hel, hne⟩ := h3.calm hc
      obtain ⟨_, hel1, _⟩ := h3
      clear h1 h2
      obtain ⟨A5, c5, rfl⟩ := Kd.R_slice hu
      refine ⟨{ tmps := #[.func (.func 36) #[] #[.pointer (some ⟨Be, 0, none⟩), .pointer (some ⟨Bn, 0, none⟩)], .int .i64 m, undef, .pointer (some ⟨w.heap.size, 0, none⟩), .slice none 0 0, .pointer (some ⟨w.heap.size + 1, 0, none⟩), .slice A5 x.length c5, .int .i64 m, .bool false, .func (.func 36) #[] #[.pointer (some ⟨Be, 0, none⟩), .pointer (some ⟨Bn, 0, none⟩)], .slice A5 x.length c5, undef, undef, undef, undef, undef, undef, undef, undef, undef], defers := [] }, fun W' K hK => ?_, ?_⟩
      · gi_wp2
        exact hK
      · have hsz := hc.1.size
        have hk60 : m.toNat ≤ 60 := by omega
        have hcl := hv.cell
        have hfl := hv.frozen
        have hcm := hmx.cell
        have hfr : ∀ (j : Nat) (u' : Value), vs[j]? = some u' → NeRow u' (.slice A5 x.length c5) := by
          intro j u' hj k1 e1 e2
          have hja : j < acc.length := by have := (List.getElem?_eq_some_iff.1 hj).1; have := hrow.1; omega
          obtain ⟨inn, ho⟩ := Kd.R_own (hel1 j u' _ hj (List.getElem?_eq_getElem hja))
          have := own_lt ho k1 e1
          obtain ⟨inn2, ho2⟩ := Kd.R_own hu
          have := own_base ho2 k1 e2
          omega
        gi_wp2_with (first
          | (gi_at_builtin; refine wpListIn_append_own _ rfl _ _ 41 rfl w.heap.size 22 i0 (.slice none 0 0) 1 24 Tryd.underlying41 hi hz0 hz1 hz2 rfl (by decide) _ _ _ rfl (hrow.alloc _) ⟨W.heap.size, 0, none⟩ 1 1 [.slice A5 x.length c5] rfl rfl (cell_one_new _ _ _) (by simp [Value.oneCell']) (by have : maxLen = 9223372036854775807 := rfl; omega) (by omega) (by have := hb.size; simp; omega) ?_; intro v' w1 hown' hgrow _; obtain ⟨g', cap', rfl⟩ := ownsRow_succ hown'; obtain ⟨hv1, hv2, hr2, hk2, hb2⟩ := hv.appended (by decide) hrow hb.size (by omega) hown' hgrow; have hc1 := hv1.cell; have hf1 := hv1.frozen; have hc2 := hv2.cell; have hmx1 := (hmx.alloc (.cells #[.slice A5 x.length c5] 22)).kept hgrow (hmx.not_row (by decide) hrow); have hmx2 := Boxed.other (B' := w.heap.size + 1) hmx1 (by omega) (.slice (some ⟨g', 0, none⟩) (acc.length + 1) cap'); have hcm2 := hmx2.cell))
        all_goals
          have hcoll : Coll w.heap.size w1 (.slice (some ⟨g', 0, none⟩) (acc.length + 1) cap') (acc ++ [x]) := Coll.snoc hrow hel hne (Kd.R_lower hu (by have := h4.size; omega)) hfr hown' hgrow
          refine ⟨keep_append hrow hv hgrow _, _, hv2, ?_⟩
        · exact ⟨hcoll.setBox hv1, hb.trans hb2, by omega⟩
        · exact ⟨hcoll.setBox hv1, hb.trans hb2⟩
    · intro D W hD ⟨v, h1, h2, h3, h4, h5⟩ hK
      have hc1 := h1.cell
      gi_wp2
      have hcm : Calm w.heap.size W (W.putObj D (.deferred none)) := Calm.putObj (by omega) h4.size hK rfl
      refine ⟨by simp, .inl ⟨_, _, rfl, run_takeDeferred hK, ?_⟩⟩
      refine ⟨_, results_tmp rfl _ _ _, h4.trans hcm.1, _, rfl, ?_⟩
      rw [List.take_of_length_le (by omega)]
      exact h3.calm hcm
    · intro D p q W e1 e2 hD ⟨v, h1, h2, h3, h4, h5⟩ hK
      have hc1 := h1.cell
      gi_wp2
      have hcm : Calm w.heap.size W (W.putObj D (.deferred none)) := Calm.putObj (by omega) h4.size hK rfl
      refine ⟨by simp, .inl ⟨_, _, rfl, run_takeDeferred hK, ?_⟩⟩
      refine ⟨_, results_tmp rfl _ _ _, h4.trans hcm.1, _, rfl, ?_⟩
      rw [e1, ← h5, List.take_left]
      exact h3.calm hcm
end Go.Proofs.YtjclpkddfpbdcaaDoor.Lay
