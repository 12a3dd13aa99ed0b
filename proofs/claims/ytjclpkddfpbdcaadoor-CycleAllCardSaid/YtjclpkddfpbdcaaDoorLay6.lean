/-
  cycle.All: the numbers sorted, each once; the iterator's value.
-/
import Derived.Test.YtjclpkddfpbdcaaDoorLay5
import Derived.Test.YtjclpkddfpbdcaaDoorShelf
import Derived.Sort.OwnSortedInts
import Derived.Lib.OwnBridge
namespace Go.Proofs.YtjclpkddfpbdcaaDoor.Lay
open Go.Shelf Go.RowKit Go.Proofs.YtjclpkddfpbdcaaDoorW.PrintWords Go.Proofs.YtjclpkddfpbdcaaDoorW.PrintLast Go.Proofs.YtjclpkddfpbdcaaDoorW.PrintMore Go.Proofs.YtjclpkddfpbdcaaDoor.XC
set_option linter.unusedVariables false
set_option linter.unusedSimpArgs false

def sortI (l : List Int) : List Int := l.mergeSort fun x y => decide (x ≤ y)
theorem sortI_len (l : List Int) : (sortI l).length = l.length := List.length_mergeSort _

theorem sort_calls (base : Nat) (v : Value) (l : List Int) (w : World) (h : Kd.R (Kd.int .i64) 3 w base (fun _ => True) v l) (hb : base ≤ w.heap.size) (hl : l.length < 4611686018427387904) :
    Calls Tryd.prog 34 #[v] w fun e w' => e = .returned (.tuple #[]) ∧ Below base w w' ∧ Kd.R (Kd.int .i64) 3 w' base (fun _ => True) v (sortI l) := by
  have ho := Kd.own_of_R h
  rcases ho.2 with ⟨rfl, h0⟩ | ⟨g, cap, cur, rfl, hbg, hg, hn, hm, hs, ht⟩
  · refine (Tryd.slices_Sort_int_none none 0 w).mono ?_
    rintro e w' ⟨rfl, rfl⟩
    have : l = [] := List.length_eq_zero_iff.1 h0
    subst this
    exact ⟨rfl, Below.refl _ _, by rw [show sortI [] = [] from by simp [sortI]]; exact Kd.R_nil _ _ _ _ _⟩
  · have hlt : g < w.heap.size := (Array.getElem?_eq_some_iff.1 hg).1
    have ht' : cur.toList.take l.length = l.map (Value.int .i64) := by rw [Nat.mul_one] at ht; exact ht
    refine (Tryd.slices_Sort_int g 0 cap l w (holds_of_blockI hg ht') hlt hl).mono ?_
    rintro e w' ⟨rfl, n, os, rfl⟩
    refine ⟨rfl, (Below.refl base w).grown (grownBy_sortedI _) hb (fun k e => by cases e; exact hbg), Kd.R_of_own ?_ (fun _ _ => trivial)⟩
    have := ownsRow_sortedI (n := n) (os := os) (ss := l) (ts := sortI l) (sortI_len l) hbg hg hn hm hs
    rw [sortI_len]
    exact this

theorem compact_calls (base : Nat) (v : Value) (l : List Int) (w : World) (h : Kd.R (Kd.int .i64) 3 w base (fun _ => True) v l) (hb : base ≤ w.heap.size) (hl : l.length < 4611686018427387904) (hc : (Lib.compact l).length ≤ l.length) :
    Calls Tryd.prog 35 #[v] w fun e w' => ∃ v', e = .returned v' ∧ Below base w w' ∧ Kd.R (Kd.int .i64) 3 w' base (fun _ => True) v' (Lib.compact l) := by
  have ho := Kd.own_of_R h
  rcases ho.2 with ⟨rfl, h0⟩ | ⟨g, cap, cur, rfl, hbg, hg, hn, hm, hs, ht⟩
  · refine (Tryd.slices_Compact_int_empty none 0 w).mono ?_
    rintro e w' ⟨rfl, rfl⟩
    have : l = [] := List.length_eq_zero_iff.1 h0
    subst this
    exact ⟨_, rfl, Below.refl _ _, Kd.R_nil _ _ _ _ _⟩
  · have hlt : g < w.heap.size := (Array.getElem?_eq_some_iff.1 hg).1
    have ht' : cur.toList.take l.length = l.map (Value.int .i64) := by rw [Nat.mul_one] at ht; exact ht
    refine (Tryd.slices_Compact_int g 0 cap l w (holds_of_blockI hg ht') (by omega) hn).mono ?_
    rintro e w' ⟨rfl, q, rfl⟩
    refine ⟨_, rfl, ?_, Kd.R_of_own ?_ (fun _ _ => trivial)⟩
    · have := grownBy_sortedI (w := w) (g := g) (n := q) (os := #[]) (Lib.compact l ++ List.replicate (l.length - (Lib.compact l).length) 0).toArray
      rw [Sort.grow_empty] at this
      exact (Below.refl base w).grown this hb (fun k e => by cases e; exact hbg)
    · have := Lib.ownsRow_putRow (q := q) (k := (Lib.compact l).length) (ys := Lib.compact l ++ List.replicate (l.length - (Lib.compact l).length) 0) (zs := l) ho (by simp; omega) hc
      rw [List.take_left] at this
      exact this

/-- How cycle.All ends. -/
def AllEnd (n : Int) (r1 : List Int) (r2 : Int) (w : World) (e : Ending) (w' : World) : Prop := Below w.heap.size w w' ∧
      ((n < 2 ∨ 16 < n) → e = .returned (.tuple #[Value.nilFunc, .int .i64 4])) ∧ (2 ≤ n → n ≤ 16 → 0 ≤ r2 → e = .returned (.tuple #[Value.nilFunc, .int .i64 260])) ∧
      (2 ≤ n → n ≤ 16 → r2 < 0 → ∃ (Be Bn : Nat) (A : Option Addr) (c : Nat), e = .returned (.tuple #[.func (.func 36) #[] #[.pointer (some ⟨Be, 0, none⟩), .pointer (some ⟨Bn, 0, none⟩)], .int .i64 0]) ∧
        CT (Kd.int .i64) 3 w' A (Lib.compact (sortI r1)).length (Lib.compact (sortI r1)) ∧ (Lib.compact (sortI r1)).length ≤ c ∧ Boxed w' Be 59 (.slice A (Lib.compact (sortI r1)).length c) ∧ Boxed w' Bn 3 (.int .i64 n))
set_option maxHeartbeats 8000000 in
set_option maxRecDepth 100000 in
theorem All_calls (k : Nat) (A0 : Option Addr) (c0 : Nat) (l0 : List ByteArray) (n : Int) (r1 : List Int) (r2 : Int) (w : World) (hr0 : Kd.C Kd.string w A0 l0.length l0) (hc0 : l0.length ≤ c0) (h : cycle_numbers.f k l0 = some (r1, r2)) (hl : r1.length < 4611686018427387904) (hc : (Lib.compact (sortI r1)).length ≤ (sortI r1).length) :
    Calls Tryd.prog 15 #[.slice A0 l0.length c0, .int .i64 n] w (AllEnd n r1 r2 w) := by
  have HR0 := Aside0.mk hr0
  have HB := Aside0.mk (Below.refl w.heap.size w)
  by_cases c1 : n < 2
  · have c1b : decide (n < 2) = true := decide_eq_true c1
    go_enter Tryd.func15, Tryd.ntmps15
    go_wp2
    go_ret2
    exact ⟨by repeat (first | (with_reducible first | exact HB.out | apply below_alloc | apply pw_below_drewN | apply below_drew1) | exact HB.out), fun _ => rfl, fun h => absurd h (by omega), fun h => absurd h (by omega)⟩
  have c1b : decide (n < 2) = false := decide_eq_false c1
  by_cases c2 : 16 < n
  · have c2b : decide (16 < n) = true := decide_eq_true c2
    go_enter Tryd.func15, Tryd.ntmps15
    go_wp2
    go_ret2
    exact ⟨by repeat (first | (with_reducible first | exact HB.out | apply below_alloc | apply pw_below_drewN | apply below_drew1) | exact HB.out), fun _ => rfl, fun _ h => absurd h (by omega), fun _ h => absurd h (by omega)⟩
  have c2b : decide (16 < n) = false := decide_eq_false c2
  by_cases c3 : 0 ≤ r2
  · have c3b : decide (0 ≤ r2) = true := decide_eq_true c3
    go_enter Tryd.func15, Tryd.ntmps15
    go_wp2_with (first | ((with_reducible refine gate_callee (f := 33) rfl ?_); refine goesL_ (some 17) rfl rfl Tryd.func33 (by kernel_rfl) rfl #[.slice A0 l0.length c0] rfl (by (try simp only [List.map_toArray, List.map_cons, List.map_nil]); first | done | rfl) ?_; refine (cycle_numbers.calls k A0 c0 l0 r1 r2 _ ?side1 hc0 h).mono ?_; (case side1 => repeat (first | exact (Kd.C_below HR0.out HB.out) | (with_reducible refine Kd.C_alloc ?_ _) | (with_reducible refine Kd.C_drewN ?_ _) | (with_reducible refine Kd.C_drew ?_))); rintro e w9 ⟨v9, rfl, ho9, hb9⟩; refine ⟨_, rfl, ?_⟩; have n1_ := Aside0.mk (below_step (by repeat (first | (with_reducible first | exact HB.out | apply below_alloc | apply pw_below_drewN | apply below_drew1) | exact HB.out)) hb9); have n2_ := Aside0.mk (Kd.R_lower ho9 (below_size (by repeat (first | (with_reducible first | exact HB.out | apply below_alloc | apply pw_below_drewN | apply below_drew1) | exact HB.out)))); clear HB; have HB := n1_; clear n1_))
    go_ret2
    exact ⟨by repeat (first | (with_reducible first | exact HB.out | apply below_alloc | apply pw_below_drewN | apply below_drew1) | exact HB.out), fun h => absurd h (by omega), fun _ _ _ => rfl, fun _ _ h => absurd h (by omega)⟩
  have c3b : decide (0 ≤ r2) = false := decide_eq_false c3
  go_enter Tryd.func15, Tryd.ntmps15
  have hbn0 := Boxed.new w 3 (.int .i64 n)
  go_wp2_with (first | ((with_reducible refine gate_callee (f := 33) rfl ?_); refine goesL_ (some 17) rfl rfl Tryd.func33 (by kernel_rfl) rfl #[.slice A0 l0.length c0] rfl (by (try simp only [List.map_toArray, List.map_cons, List.map_nil]); first | done | rfl) ?_; refine (cycle_numbers.calls k A0 c0 l0 r1 r2 _ ?side1 hc0 h).mono ?_; (case side1 => repeat (first | exact (Kd.C_below HR0.out HB.out) | (with_reducible refine Kd.C_alloc ?_ _) | (with_reducible refine Kd.C_drewN ?_ _) | (with_reducible refine Kd.C_drew ?_))); rintro e w9 ⟨v9, rfl, ho9, hb9⟩; refine ⟨_, rfl, ?_⟩; have n1_ := Aside0.mk (below_step (by repeat (first | (with_reducible first | exact HB.out | apply below_alloc | apply pw_below_drewN | apply below_drew1) | exact HB.out)) hb9); have n2_ := Aside0.mk (Kd.R_lower (base' := w.heap.size + 1) ho9 (by simp)); have bx9 : Boxed w9 w.heap.size 3 (.int .i64 n) := (hb9.block w.heap.size (by simp)).trans hbn0; have sz9 : w.heap.size + 1 ≤ w9.heap.size := (by have := hb9.size; simp at this; omega); clear HB; have HB := n1_; clear n1_) | ((with_reducible refine gate_callee (f := 34) rfl ?_); refine goesL_ (some 23) rfl rfl Tryd.func34 (by kernel_rfl) rfl #[v9] rfl (by (try simp only [List.map_toArray, List.map_cons, List.map_nil]); first | done | rfl) ?_; refine (sort_calls (w.heap.size + 1) v9 r1 _ (by (with_reducible repeat (first | apply Kd.R_alloc | apply Kd.R_drewN | apply Kd.R_drew)); exact n2_.out) sz9 hl).mono ?_; rintro e w10 ⟨rfl, hb10, ho10⟩; refine ⟨_, rfl, ?_⟩; have n1_ := Aside0.mk (Below.trans (by repeat (first | (with_reducible first | exact HB.out | apply below_alloc | apply pw_below_drewN | apply below_drew1) | exact HB.out)) (hb10.mono (by omega))); have bx10 : Boxed w10 w.heap.size 3 (.int .i64 n) := (hb10.block w.heap.size (by omega)).trans bx9; have sz10 : w.heap.size + 1 ≤ w10.heap.size := Nat.le_trans sz9 hb10.size; clear HB; have HB := n1_; clear n1_; have n3_ := Aside0.mk ho10) | ((with_reducible refine gate_callee (f := 35) rfl ?_); refine goesL_ (some 25) rfl rfl Tryd.func35 (by kernel_rfl) rfl #[v9] rfl (by (try simp only [List.map_toArray, List.map_cons, List.map_nil]); first | done | rfl) ?_; refine (compact_calls (w.heap.size + 1) v9 (sortI r1) _ (by (with_reducible repeat (first | apply Kd.R_alloc | apply Kd.R_drewN | apply Kd.R_drew)); exact n3_.out) sz10 (by rw [sortI_len]; exact hl) hc).mono ?_; rintro e w11 ⟨v11, rfl, hb11, ho11⟩; refine ⟨_, rfl, ?_⟩; have n1_ := Aside0.mk (Below.trans (by repeat (first | (with_reducible first | exact HB.out | apply below_alloc | apply pw_below_drewN | apply below_drew1) | exact HB.out)) (hb11.mono (by omega))); have bx11 : Boxed w11 w.heap.size 3 (.int .i64 n) := (hb11.block w.heap.size (by omega)).trans bx10; have sz11 : w.heap.size + 1 ≤ w11.heap.size := Nat.le_trans sz10 hb11.size; clear HB; have HB := n1_; clear n1_; have n4_ := Aside0.mk ho11; obtain ⟨A11, c11, e11⟩ := Kd.R_slice ho11; subst e11))
  go_ret2
  refine ⟨by repeat (first | (with_reducible first | exact HB.out | apply below_alloc | apply pw_below_drewN | apply below_drew1) | exact HB.out), fun h => absurd h (by omega), fun _ _ h => absurd h (by omega), fun _ _ _ => ⟨w11.heap.size, w.heap.size, A11, c11, rfl, ?_, ?_, ?_, ?_⟩⟩
  · exact (CT.of_R n4_.out).below (below_alloc (Below.refl _ _) _)
  · obtain ⟨A', c', e', hle, _⟩ := Kd.R_reads n4_.out
    injection e' with e1 e2 e3
    omega
  · exact Boxed.new w11 59 _
  · exact bx11.alloc _
end Go.Proofs.YtjclpkddfpbdcaaDoor.Lay
