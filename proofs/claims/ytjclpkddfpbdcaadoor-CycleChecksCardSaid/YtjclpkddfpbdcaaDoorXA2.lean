-- Written by xprint.py, a program of this session, over the kit's print; not trusted: Lean checks it.
import Derived.Test.YtjclpkddfpbdcaaDoorXA0
import Derived.Test.YtjclpkddfpbdcaaDoorXA1
namespace Go.Proofs.YtjclpkddfpbdcaaDoor.XA
open Go.RowKit Go.Proofs.YtjclpkddfpbdcaaDoorW.PrintWords Go.Proofs.YtjclpkddfpbdcaaDoorW.PrintLast Go.Proofs.YtjclpkddfpbdcaaDoorW.PrintMore
attribute [local go_sem] max2_int min2_int max_two min_two max_three min_three max_four min_four   -- for this text's walks alone
set_option linter.unusedVariables false
set_option linter.unusedSimpArgs false

/-! ### cycle_round: function 45 -/
def cycle_round.l0 : Nat → List Int → List (S79) → Int → Int → List Int → Int → Int → Option (Bool)
  | 0, _, _, _, _, _, _, _ => none
  | k + 1, x0, x3, x4, x5, x9, x10, x11 => if x11 < x10 then (if 0 ≤ x11 then (if x11 < (x9.length : Int) then (if 0 ≤ (rd x9 x11) then (if (rd x9 x11) < (x3.length : Int) then (if (rd_T79 x3 (rd x9 x11)).f3 = true then (if (rd_T79 x3 (rd x9 x11)).f4 = true then (cycle_round.l0 k x0 x3 (wrap64 (x4 + 1)) (wrap64 (x5 + 1)) x9 x10 (wrap64 (x11 + 1))) else (cycle_round.l0 k x0 x3 (wrap64 (x4 + 1)) x5 x9 x10 (wrap64 (x11 + 1)))) else (if (rd_T79 x3 (rd x9 x11)).f4 = true then (cycle_round.l0 k x0 x3 x4 (wrap64 (x5 + 1)) x9 x10 (wrap64 (x11 + 1))) else (cycle_round.l0 k x0 x3 x4 x5 x9 x10 (wrap64 (x11 + 1))))) else (none)) else (none)) else (none)) else (none)) else (if (x0.length : Int) ≥ 2 then (if x4 ≥ 2 then (some (decide (x5 ≥ 2))) else (some false)) else (some false))
def cycle_round.f (k : Nat) (l0 : List Int) : Option (Bool) := (cycle_table.f k).bind fun t128 => (cycle_round.l0 k l0 t128 0 0 l0 (l0.length : Int) 0)
theorem cycle_round.mono_l : ∀ k, (∀ y0 y1 y2 y3 y4 y5 y6, LeO (cycle_round.l0 k y0 y1 y2 y3 y4 y5 y6) (cycle_round.l0 (k + 1) y0 y1 y2 y3 y4 y5 y6))
  | 0 => fun _ _ _ _ _ _ _ r h => by simp [cycle_round.l0] at h
  | k + 1 => by
    have ih0 := cycle_round.mono_l k
    · intro y0 y1 y2 y3 y4 y5 y6
      unfold cycle_round.l0
      repeat' first
      | (with_reducible exact ih0 _ _ _ _ _ _ _)
      | (with_reducible exact cycle_table.mono _)
      | (with_reducible exact LeO.refl _)
      | (with_reducible exact LeO.none _)
      | (with_reducible refine LeO.ite ?_ ?_)
      | (with_reducible refine LeO.bind ?_ (fun _ => ?_))
      | exact ih0 _ _ _ _ _ _ _
      | exact cycle_table.mono _
      | exact LeO.none _
      | refine LeO.ite ?_ ?_
      | refine LeO.bind ?_ (fun _ => ?_)
theorem cycle_round.mono : ∀ a0 k, LeO (cycle_round.f k a0) (cycle_round.f (k + 1) a0) := by
  intro a0 k
  have ih0 := cycle_round.mono_l k
  unfold cycle_round.f
  repeat' first
      | (with_reducible exact ih0 _ _ _ _ _ _ _)
      | (with_reducible exact cycle_table.mono _)
      | (with_reducible exact LeO.refl _)
      | (with_reducible exact LeO.none _)
      | (with_reducible refine LeO.ite ?_ ?_)
      | (with_reducible refine LeO.bind ?_ (fun _ => ?_))
      | exact ih0 _ _ _ _ _ _ _
      | exact cycle_table.mono _
      | exact LeO.none _
      | refine LeO.ite ?_ ?_
      | refine LeO.bind ?_ (fun _ => ?_)
set_option maxHeartbeats 8000000 in
set_option maxRecDepth 100000 in
theorem cycle_round.calls (k : Nat) (A0 : Option Addr) (c0 : Nat) (l0 : List Int) (r : Bool) (w : World) (hr0 : Kd.C (Kd.int .i64) w A0 l0.length l0) (hc0 : l0.length ≤ c0) (h : cycle_round.f k l0 = some r) :
    Calls Tryd.prog 45 #[.slice A0 l0.length c0] w fun e w' => e = .returned (.bool r) ∧ Below w.heap.size w w' := by
  have HR0 := Aside0.mk hr0
  have HC0 := Aside0.mk hc0
  clear hr0 hc0
  have HB := Aside0.mk (Below.refl w.heap.size w)
  have H : ((cycle_table.f k).bind fun t128 => (cycle_round.l0 k l0 t128 0 0 l0 (l0.length : Int) 0)) = some r := h
  clear h
  replace H := Option.bind_eq_some_iff.mp H
  obtain ⟨t128, A20, H⟩ := H
  replace H : (cycle_round.l0 k l0 t128 0 0 l0 (l0.length : Int) 0) = some r := H
  have A2 := Aside0.mk A20
  clear A20
  have H' := Aside0.mk H
  clear H
  go_enter Tryd.func45, Tryd.ntmps45
  go_wp2_with (first | ((with_reducible refine gate_callee (f := 40) rfl ?_); refine goesL_ (some 8) rfl rfl Tryd.func40 (by kernel_rfl) rfl #[] rfl (by (try simp only [List.map_toArray, List.map_cons, List.map_nil]); first | done | rfl | (simp only [List.length_drop, List.length_take]; rfl)) ?_; (with_reducible refine (cycle_table.calls k  t128 _ A2.out).mono ?_); rintro e w3 ⟨v129, rfl, ho0, hb⟩; refine ⟨_, rfl, ?_⟩; have n0_ := Aside0.mk (Kd.R_lower ho0 (below_size (by repeat (first | (with_reducible first | exact HB.out | apply below_alloc | apply pw_below_drewN | apply below_drew1) | exact HB.out)))); have n1_ := Aside0.mk (below_step (by repeat (first | (with_reducible first | exact HB.out | apply below_alloc | apply pw_below_drewN | apply below_drew1) | exact HB.out)) hb); clear HB; have HO130 := n0_; have HB := n1_; clear n0_ n1_; (try clear hb); (try clear hb2); (try clear hk); (try clear hi); (try clear ho0)))
  go_loopg [4, 5, 11] k (fun kq v4 v5 v11 w' => ∃ (x4_1 : Int) (x5_1 : Int) (x11_1 : Int), v4 = .int .i64 x4_1 ∧ v5 = .int .i64 x5_1 ∧ v11 = .int .i64 x11_1 ∧ Aside0 (cycle_round.l0 kq l0 t128 x4_1 x5_1 l0 (l0.length : Int) x11_1 = some r) ∧ Aside0 (kq ≤ k) ∧ Aside0 (Kd.R k79 79 w' w.heap.size (fun _ => True) v129 t128) ∧ Aside0 (Below w.heap.size w w'))
  case atStart => exact ⟨(0), (0), (0), (by first | rfl | (simp; done) | (simp [*]; done)), (by first | rfl | (simp; done) | (simp [*]; done)), (by first | rfl | (simp; done) | (simp [*]; done)), H', ⟨Nat.le_refl _⟩, ⟨by (with_reducible repeat (first | apply Kd.R_alloc | apply Kd.R_drewN | apply Kd.R_drew)); exact HO130.out⟩, ⟨by repeat (first | (with_reducible first | exact HB.out | apply below_alloc | apply pw_below_drewN | apply below_drew1) | exact HB.out)⟩⟩
  case round =>
    clear H'
    try clear p2
    obtain ⟨x4_1, x5_1, x11_1, rfl, rfl, rfl, HA, HK1, HO_3, HB⟩ := hrel
    cases gk with
    | zero => exact absurd HA.out (by simp [cycle_round.l0])
    | succ k1 =>
      have H := HA.out
      clear HA
      simp only [cycle_round.l0] at H
      by_cases c4 : x11_1 < (l0.length : Int)
      · rw [if_pos c4] at H
        have c4b0 : decide (x11_1 < (l0.length : Int)) = true := decide_eq_true c4
        clear c4
        by_cases c5 : 0 ≤ x11_1
        · rw [if_pos c5] at H
          have c5b0 : decide (0 ≤ x11_1) = true := decide_eq_true c5
          clear c5
          by_cases c6 : x11_1 < (l0.length : Int)
          · rw [if_pos c6] at H
            have c6b0 : decide (x11_1 < (l0.length : Int)) = true := decide_eq_true c6
            clear c6
            by_cases c7 : 0 ≤ (rd l0 x11_1)
            · rw [if_pos c7] at H
              have c7b0 : decide (0 ≤ (rd l0 x11_1)) = true := decide_eq_true c7
              clear c7
              by_cases c8 : (rd l0 x11_1) < (t128.length : Int)
              · rw [if_pos c8] at H
                have c8b0 : decide ((rd l0 x11_1) < (t128.length : Int)) = true := decide_eq_true c8
                clear c8
                obtain ⟨bq9, hbq9⟩ : ∃ b_ : Bool, b_ = ((rd_T79 t128 (rd l0 x11_1)).f3) := ⟨_, rfl⟩
                replace H : (if bq9 = true then (if (rd_T79 t128 (rd l0 x11_1)).f4 = true then (cycle_round.l0 k1 l0 t128 (wrap64 (x4_1 + 1)) (wrap64 (x5_1 + 1)) l0 (l0.length : Int) (wrap64 (x11_1 + 1))) else (cycle_round.l0 k1 l0 t128 (wrap64 (x4_1 + 1)) x5_1 l0 (l0.length : Int) (wrap64 (x11_1 + 1)))) else (if (rd_T79 t128 (rd l0 x11_1)).f4 = true then (cycle_round.l0 k1 l0 t128 x4_1 (wrap64 (x5_1 + 1)) l0 (l0.length : Int) (wrap64 (x11_1 + 1))) else (cycle_round.l0 k1 l0 t128 x4_1 x5_1 l0 (l0.length : Int) (wrap64 (x11_1 + 1))))) = some r := by rw [← hbq9] at H; exact H
                have Nbq9 := Aside0.mk hbq9
                clear hbq9
                by_cases c10 : bq9 = true
                · subst c10
                  have H1 : (if (rd_T79 t128 (rd l0 x11_1)).f4 = true then (cycle_round.l0 k1 l0 t128 (wrap64 (x4_1 + 1)) (wrap64 (x5_1 + 1)) l0 (l0.length : Int) (wrap64 (x11_1 + 1))) else (cycle_round.l0 k1 l0 t128 (wrap64 (x4_1 + 1)) x5_1 l0 (l0.length : Int) (wrap64 (x11_1 + 1)))) = some r := by rw [if_pos rfl] at H; exact H
                  clear H
                  have H := H1
                  clear H1
                  obtain ⟨bq11, hbq11⟩ : ∃ b_ : Bool, b_ = ((rd_T79 t128 (rd l0 x11_1)).f4) := ⟨_, rfl⟩
                  replace H : (if bq11 = true then (cycle_round.l0 k1 l0 t128 (wrap64 (x4_1 + 1)) (wrap64 (x5_1 + 1)) l0 (l0.length : Int) (wrap64 (x11_1 + 1))) else (cycle_round.l0 k1 l0 t128 (wrap64 (x4_1 + 1)) x5_1 l0 (l0.length : Int) (wrap64 (x11_1 + 1)))) = some r := by rw [← hbq11] at H; exact H
                  have Nbq11 := Aside0.mk hbq11
                  clear hbq11
                  by_cases c12 : bq11 = true
                  · subst c12
                    have H1 : (cycle_round.l0 k1 l0 t128 (wrap64 (x4_1 + 1)) (wrap64 (x5_1 + 1)) l0 (l0.length : Int) (wrap64 (x11_1 + 1))) = some r := by rw [if_pos rfl] at H; exact H
                    clear H
                    have H := H1
                    clear H1
                    have H' := Aside0.mk H
                    clear H
                    have p131 : 0 ≤ (x11_1 : Int) := of_decide_eq_true (by first | (with_reducible assumption) | assumption)
                    have q131 : x11_1 < (l0.length : Int) := of_decide_eq_true (by first | (with_reducible assumption) | assumption)
                    obtain ⟨ad131, e131, hx131_0⟩ := Kd.at_int HR0.out x11_1 p131 q131
                    cases e131
                    replace hx131_0 := (HB.out.cell (World.block_lt_of_cell? w _ hx131_0)).trans hx131_0
                    replace p131 := eq_true p131
                    replace q131 := eq_true q131
                    obtain ⟨Ao13, co13, eo13⟩ := Kd.R_slice HO_3.out
                    subst eo13
                    have p132 : 0 ≤ ((rd l0 x11_1) : Int) := of_decide_eq_true (by first | (with_reducible assumption) | assumption)
                    have q132 : (rd l0 x11_1) < (t128.length : Int) := of_decide_eq_true (by first | (with_reducible assumption) | assumption)
                    obtain ⟨ad132, e132, hx132_0, hx132_1, hx132_2, hx132_3, hx132_4, hx132_5⟩ := at_T79 (Kd.R_reads' HO_3.out).2.2 (rd l0 x11_1) p132 q132
                    (try rw [← Nbq9.out] at hx132_3)
                    (try rw [← Nbq11.out] at hx132_3)
                    (try rw [← Nbq9.out] at hx132_4)
                    (try rw [← Nbq11.out] at hx132_4)
                    (try rw [← Nbq9.out] at hx132_5)
                    (try rw [← Nbq11.out] at hx132_5)
                    cases e132
                    replace p132 := eq_true p132
                    replace q132 := eq_true q132
                    have p133 : 0 ≤ ((rd l0 x11_1) : Int) := of_decide_eq_true (by first | (with_reducible assumption) | assumption)
                    have q133 : (rd l0 x11_1) < (t128.length : Int) := of_decide_eq_true (by first | (with_reducible assumption) | assumption)
                    obtain ⟨ad133, e133, hx133_0, hx133_1, hx133_2, hx133_3, hx133_4, hx133_5⟩ := at_T79 (Kd.R_reads' HO_3.out).2.2 (rd l0 x11_1) p133 q133
                    (try rw [← Nbq9.out] at hx133_3)
                    (try rw [← Nbq11.out] at hx133_3)
                    (try rw [← Nbq9.out] at hx133_4)
                    (try rw [← Nbq11.out] at hx133_4)
                    (try rw [← Nbq9.out] at hx133_5)
                    (try rw [← Nbq11.out] at hx133_5)
                    obtain rfl : ad132 = ad133 := (by injection e133)
                    replace p133 := eq_true p133
                    replace q133 := eq_true q133
                    go_wp2
                    go_roundg k1
                    case measure => have := HK1.out; omega
                    case rel => exact ⟨(wrap64 (x4_1 + 1)), (wrap64 (x5_1 + 1)), (wrap64 (x11_1 + 1)), (by first | rfl | (simp; done) | (simp [*]; done)), (by first | rfl | (simp; done) | (simp [*]; done)), (by first | rfl | (simp; done) | (simp [*]; done)), H', ⟨by have := HK1.out; omega⟩, ⟨by (with_reducible repeat (first | apply Kd.R_alloc | apply Kd.R_drewN | apply Kd.R_drew)); exact HO_3.out⟩, ⟨by repeat (first | (with_reducible first | exact HB.out | apply below_alloc | apply pw_below_drewN | apply below_drew1) | exact HB.out)⟩⟩
                  · replace c12 := Bool.eq_false_iff.mpr c12
                    subst c12
                    have H1 : (cycle_round.l0 k1 l0 t128 (wrap64 (x4_1 + 1)) x5_1 l0 (l0.length : Int) (wrap64 (x11_1 + 1))) = some r := by rw [if_neg (show ¬ (false = true) by decide)] at H; exact H
                    clear H
                    have H := H1
                    clear H1
                    have H' := Aside0.mk H
                    clear H
                    have p131 : 0 ≤ (x11_1 : Int) := of_decide_eq_true (by first | (with_reducible assumption) | assumption)
                    have q131 : x11_1 < (l0.length : Int) := of_decide_eq_true (by first | (with_reducible assumption) | assumption)
                    obtain ⟨ad131, e131, hx131_0⟩ := Kd.at_int HR0.out x11_1 p131 q131
                    cases e131
                    replace hx131_0 := (HB.out.cell (World.block_lt_of_cell? w _ hx131_0)).trans hx131_0
                    replace p131 := eq_true p131
                    replace q131 := eq_true q131
                    obtain ⟨Ao14, co14, eo14⟩ := Kd.R_slice HO_3.out
                    subst eo14
                    have p132 : 0 ≤ ((rd l0 x11_1) : Int) := of_decide_eq_true (by first | (with_reducible assumption) | assumption)
                    have q132 : (rd l0 x11_1) < (t128.length : Int) := of_decide_eq_true (by first | (with_reducible assumption) | assumption)
                    obtain ⟨ad132, e132, hx132_0, hx132_1, hx132_2, hx132_3, hx132_4, hx132_5⟩ := at_T79 (Kd.R_reads' HO_3.out).2.2 (rd l0 x11_1) p132 q132
                    (try rw [← Nbq9.out] at hx132_3)
                    (try rw [← Nbq11.out] at hx132_3)
                    (try rw [← Nbq9.out] at hx132_4)
                    (try rw [← Nbq11.out] at hx132_4)
                    (try rw [← Nbq9.out] at hx132_5)
                    (try rw [← Nbq11.out] at hx132_5)
                    cases e132
                    replace p132 := eq_true p132
                    replace q132 := eq_true q132
                    have p133 : 0 ≤ ((rd l0 x11_1) : Int) := of_decide_eq_true (by first | (with_reducible assumption) | assumption)
                    have q133 : (rd l0 x11_1) < (t128.length : Int) := of_decide_eq_true (by first | (with_reducible assumption) | assumption)
                    obtain ⟨ad133, e133, hx133_0, hx133_1, hx133_2, hx133_3, hx133_4, hx133_5⟩ := at_T79 (Kd.R_reads' HO_3.out).2.2 (rd l0 x11_1) p133 q133
                    (try rw [← Nbq9.out] at hx133_3)
                    (try rw [← Nbq11.out] at hx133_3)
                    (try rw [← Nbq9.out] at hx133_4)
                    (try rw [← Nbq11.out] at hx133_4)
                    (try rw [← Nbq9.out] at hx133_5)
                    (try rw [← Nbq11.out] at hx133_5)
                    obtain rfl : ad132 = ad133 := (by injection e133)
                    replace p133 := eq_true p133
                    replace q133 := eq_true q133
                    go_wp2
                    go_roundg k1
                    case measure => have := HK1.out; omega
                    case rel => exact ⟨(wrap64 (x4_1 + 1)), (x5_1), (wrap64 (x11_1 + 1)), (by first | rfl | (simp; done) | (simp [*]; done)), (by first | rfl | (simp; done) | (simp [*]; done)), (by first | rfl | (simp; done) | (simp [*]; done)), H', ⟨by have := HK1.out; omega⟩, ⟨by (with_reducible repeat (first | apply Kd.R_alloc | apply Kd.R_drewN | apply Kd.R_drew)); exact HO_3.out⟩, ⟨by repeat (first | (with_reducible first | exact HB.out | apply below_alloc | apply pw_below_drewN | apply below_drew1) | exact HB.out)⟩⟩
                · replace c10 := Bool.eq_false_iff.mpr c10
                  subst c10
                  have H1 : (if (rd_T79 t128 (rd l0 x11_1)).f4 = true then (cycle_round.l0 k1 l0 t128 x4_1 (wrap64 (x5_1 + 1)) l0 (l0.length : Int) (wrap64 (x11_1 + 1))) else (cycle_round.l0 k1 l0 t128 x4_1 x5_1 l0 (l0.length : Int) (wrap64 (x11_1 + 1)))) = some r := by rw [if_neg (show ¬ (false = true) by decide)] at H; exact H
                  clear H
                  have H := H1
                  clear H1
                  obtain ⟨bq15, hbq15⟩ : ∃ b_ : Bool, b_ = ((rd_T79 t128 (rd l0 x11_1)).f4) := ⟨_, rfl⟩
                  replace H : (if bq15 = true then (cycle_round.l0 k1 l0 t128 x4_1 (wrap64 (x5_1 + 1)) l0 (l0.length : Int) (wrap64 (x11_1 + 1))) else (cycle_round.l0 k1 l0 t128 x4_1 x5_1 l0 (l0.length : Int) (wrap64 (x11_1 + 1)))) = some r := by rw [← hbq15] at H; exact H
                  have Nbq15 := Aside0.mk hbq15
                  clear hbq15
                  by_cases c16 : bq15 = true
                  · subst c16
                    have H1 : (cycle_round.l0 k1 l0 t128 x4_1 (wrap64 (x5_1 + 1)) l0 (l0.length : Int) (wrap64 (x11_1 + 1))) = some r := by rw [if_pos rfl] at H; exact H
                    clear H
                    have H := H1
                    clear H1
                    have H' := Aside0.mk H
                    clear H
                    have p131 : 0 ≤ (x11_1 : Int) := of_decide_eq_true (by first | (with_reducible assumption) | assumption)
                    have q131 : x11_1 < (l0.length : Int) := of_decide_eq_true (by first | (with_reducible assumption) | assumption)
                    obtain ⟨ad131, e131, hx131_0⟩ := Kd.at_int HR0.out x11_1 p131 q131
                    cases e131
                    replace hx131_0 := (HB.out.cell (World.block_lt_of_cell? w _ hx131_0)).trans hx131_0
                    replace p131 := eq_true p131
                    replace q131 := eq_true q131
                    obtain ⟨Ao17, co17, eo17⟩ := Kd.R_slice HO_3.out
                    subst eo17
                    have p132 : 0 ≤ ((rd l0 x11_1) : Int) := of_decide_eq_true (by first | (with_reducible assumption) | assumption)
                    have q132 : (rd l0 x11_1) < (t128.length : Int) := of_decide_eq_true (by first | (with_reducible assumption) | assumption)
                    obtain ⟨ad132, e132, hx132_0, hx132_1, hx132_2, hx132_3, hx132_4, hx132_5⟩ := at_T79 (Kd.R_reads' HO_3.out).2.2 (rd l0 x11_1) p132 q132
                    (try rw [← Nbq9.out] at hx132_3)
                    (try rw [← Nbq15.out] at hx132_3)
                    (try rw [← Nbq9.out] at hx132_4)
                    (try rw [← Nbq15.out] at hx132_4)
                    (try rw [← Nbq9.out] at hx132_5)
                    (try rw [← Nbq15.out] at hx132_5)
                    cases e132
                    replace p132 := eq_true p132
                    replace q132 := eq_true q132
                    have p134 : 0 ≤ ((rd l0 x11_1) : Int) := of_decide_eq_true (by first | (with_reducible assumption) | assumption)
                    have q134 : (rd l0 x11_1) < (t128.length : Int) := of_decide_eq_true (by first | (with_reducible assumption) | assumption)
                    obtain ⟨ad134, e134, hx134_0, hx134_1, hx134_2, hx134_3, hx134_4, hx134_5⟩ := at_T79 (Kd.R_reads' HO_3.out).2.2 (rd l0 x11_1) p134 q134
                    (try rw [← Nbq9.out] at hx134_3)
                    (try rw [← Nbq15.out] at hx134_3)
                    (try rw [← Nbq9.out] at hx134_4)
                    (try rw [← Nbq15.out] at hx134_4)
                    (try rw [← Nbq9.out] at hx134_5)
                    (try rw [← Nbq15.out] at hx134_5)
                    obtain rfl : ad132 = ad134 := (by injection e134)
                    replace p134 := eq_true p134
                    replace q134 := eq_true q134
                    go_wp2
                    go_roundg k1
                    case measure => have := HK1.out; omega
                    case rel => exact ⟨(x4_1), (wrap64 (x5_1 + 1)), (wrap64 (x11_1 + 1)), (by first | rfl | (simp; done) | (simp [*]; done)), (by first | rfl | (simp; done) | (simp [*]; done)), (by first | rfl | (simp; done) | (simp [*]; done)), H', ⟨by have := HK1.out; omega⟩, ⟨by (with_reducible repeat (first | apply Kd.R_alloc | apply Kd.R_drewN | apply Kd.R_drew)); exact HO_3.out⟩, ⟨by repeat (first | (with_reducible first | exact HB.out | apply below_alloc | apply pw_below_drewN | apply below_drew1) | exact HB.out)⟩⟩
                  · replace c16 := Bool.eq_false_iff.mpr c16
                    subst c16
                    have H1 : (cycle_round.l0 k1 l0 t128 x4_1 x5_1 l0 (l0.length : Int) (wrap64 (x11_1 + 1))) = some r := by rw [if_neg (show ¬ (false = true) by decide)] at H; exact H
                    clear H
                    have H := H1
                    clear H1
                    have H' := Aside0.mk H
                    clear H
                    have p131 : 0 ≤ (x11_1 : Int) := of_decide_eq_true (by first | (with_reducible assumption) | assumption)
                    have q131 : x11_1 < (l0.length : Int) := of_decide_eq_true (by first | (with_reducible assumption) | assumption)
                    obtain ⟨ad131, e131, hx131_0⟩ := Kd.at_int HR0.out x11_1 p131 q131
                    cases e131
                    replace hx131_0 := (HB.out.cell (World.block_lt_of_cell? w _ hx131_0)).trans hx131_0
                    replace p131 := eq_true p131
                    replace q131 := eq_true q131
                    obtain ⟨Ao18, co18, eo18⟩ := Kd.R_slice HO_3.out
                    subst eo18
                    have p132 : 0 ≤ ((rd l0 x11_1) : Int) := of_decide_eq_true (by first | (with_reducible assumption) | assumption)
                    have q132 : (rd l0 x11_1) < (t128.length : Int) := of_decide_eq_true (by first | (with_reducible assumption) | assumption)
                    obtain ⟨ad132, e132, hx132_0, hx132_1, hx132_2, hx132_3, hx132_4, hx132_5⟩ := at_T79 (Kd.R_reads' HO_3.out).2.2 (rd l0 x11_1) p132 q132
                    (try rw [← Nbq9.out] at hx132_3)
                    (try rw [← Nbq15.out] at hx132_3)
                    (try rw [← Nbq9.out] at hx132_4)
                    (try rw [← Nbq15.out] at hx132_4)
                    (try rw [← Nbq9.out] at hx132_5)
                    (try rw [← Nbq15.out] at hx132_5)
                    cases e132
                    replace p132 := eq_true p132
                    replace q132 := eq_true q132
                    have p134 : 0 ≤ ((rd l0 x11_1) : Int) := of_decide_eq_true (by first | (with_reducible assumption) | assumption)
                    have q134 : (rd l0 x11_1) < (t128.length : Int) := of_decide_eq_true (by first | (with_reducible assumption) | assumption)
                    obtain ⟨ad134, e134, hx134_0, hx134_1, hx134_2, hx134_3, hx134_4, hx134_5⟩ := at_T79 (Kd.R_reads' HO_3.out).2.2 (rd l0 x11_1) p134 q134
                    (try rw [← Nbq9.out] at hx134_3)
                    (try rw [← Nbq15.out] at hx134_3)
                    (try rw [← Nbq9.out] at hx134_4)
                    (try rw [← Nbq15.out] at hx134_4)
                    (try rw [← Nbq9.out] at hx134_5)
                    (try rw [← Nbq15.out] at hx134_5)
                    obtain rfl : ad132 = ad134 := (by injection e134)
                    replace p134 := eq_true p134
                    replace q134 := eq_true q134
                    go_wp2
                    go_roundg k1
                    case measure => have := HK1.out; omega
                    case rel => exact ⟨(x4_1), (x5_1), (wrap64 (x11_1 + 1)), (by first | rfl | (simp; done) | (simp [*]; done)), (by first | rfl | (simp; done) | (simp [*]; done)), (by first | rfl | (simp; done) | (simp [*]; done)), H', ⟨by have := HK1.out; omega⟩, ⟨by (with_reducible repeat (first | apply Kd.R_alloc | apply Kd.R_drewN | apply Kd.R_drew)); exact HO_3.out⟩, ⟨by repeat (first | (with_reducible first | exact HB.out | apply below_alloc | apply pw_below_drewN | apply below_drew1) | exact HB.out)⟩⟩
              · rw [if_neg c8] at H
                exact absurd H (by simp)
            · rw [if_neg c7] at H
              exact absurd H (by simp)
          · rw [if_neg c6] at H
            exact absurd H (by simp)
        · rw [if_neg c5] at H
          exact absurd H (by simp)
      · rw [if_neg c4] at H
        have c4b0 : decide (x11_1 < (l0.length : Int)) = false := decide_eq_false c4
        clear c4
        by_cases c19 : (l0.length : Int) ≥ 2
        · rw [if_pos c19] at H
          have c19b0 : decide (2 ≤ (l0.length : Int)) = true := decide_eq_true c19
          have c19b1 : decide (2 ≤ l0.length) = true := decide_eq_true (by omega)
          clear c19
          by_cases c20 : x4_1 ≥ 2
          · rw [if_pos c20] at H
            have c20b0 : decide (2 ≤ x4_1) = true := decide_eq_true c20
            clear c20
            obtain rfl := Option.some.inj H
            go_wp2
            go_ret
            exact ⟨by first | rfl | (simp [errW_none, errW_some] <;> rfl) | (simp [*, errW_none, errW_some] <;> rfl), by repeat (first | (with_reducible first | exact HB.out | apply below_alloc | apply pw_below_drewN | apply below_drew1) | exact HB.out)⟩
          · rw [if_neg c20] at H
            have c20b0 : decide (2 ≤ x4_1) = false := decide_eq_false c20
            clear c20
            obtain rfl := Option.some.inj H
            go_wp2
            go_ret
            exact ⟨by first | rfl | (simp [errW_none, errW_some] <;> rfl) | (simp [*, errW_none, errW_some] <;> rfl), by repeat (first | (with_reducible first | exact HB.out | apply below_alloc | apply pw_below_drewN | apply below_drew1) | exact HB.out)⟩
        · rw [if_neg c19] at H
          have c19b0 : decide (2 ≤ (l0.length : Int)) = false := decide_eq_false c19
          have c19b1 : decide (2 ≤ l0.length) = false := decide_eq_false (by omega)
          clear c19
          obtain rfl := Option.some.inj H
          go_wp2
          go_ret
          exact ⟨by first | rfl | (simp [errW_none, errW_some] <;> rfl) | (simp [*, errW_none, errW_some] <;> rfl), by repeat (first | (with_reducible first | exact HB.out | apply below_alloc | apply pw_below_drewN | apply below_drew1) | exact HB.out)⟩

/-! ### cycle_check: function 23 -/
def cycle_check.l0 : Nat → List Int → List (S79) → Int → Int → Option (List Int × Int × Int)
  | 0, _, _, _, _ => none
  | k + 1, x5, x7, x22, x23 => if x23 < x22 then (if (x5.length : Int) = 0 then (none) else (if 0 ≤ (Int.tmod (wrap64 ((wrap64 (x23 + (x5.length : Int))) - 1)) (x5.length : Int)) then (if (Int.tmod (wrap64 ((wrap64 (x23 + (x5.length : Int))) - 1)) (x5.length : Int)) < (x5.length : Int) then (if 0 ≤ (rd x5 (Int.tmod (wrap64 ((wrap64 (x23 + (x5.length : Int))) - 1)) (x5.length : Int))) then (if (rd x5 (Int.tmod (wrap64 ((wrap64 (x23 + (x5.length : Int))) - 1)) (x5.length : Int))) < (x7.length : Int) then (if 0 ≤ x23 then (if x23 < (x5.length : Int) then (if 0 ≤ (rd x5 x23) then (if (rd x5 x23) < (x7.length : Int) then (if ((rd_T79 x7 (rd x5 (Int.tmod (wrap64 ((wrap64 (x23 + (x5.length : Int))) - 1)) (x5.length : Int)))).f2) = ((rd_T79 x7 (rd x5 x23)).f1) then (cycle_check.l0 k x5 x7 x22 (wrap64 (x23 + 1))) else (some (([] : List Int), x23, 260))) else (none)) else (none)) else (none)) else (none)) else (none)) else (none)) else (none)) else (none))) else ((cycle_round.f k x5).bind fun t146 => (if t146 = true then (some (x5, 0, 0)) else (some (([] : List Int), 0, 260))))
def cycle_check.f (k : Nat) (l0 : List ByteArray) : Option (List Int × Int × Int) := if (l0.length : Int) > 16 then (some (([] : List Int), 0, 1)) else ((cycle_numbers.f k l0).bind fun bt135 => (if bt135.2 ≥ 0 then (some (([] : List Int), bt135.2, 260)) else ((cycle_table.f k).bind fun t139 => (cycle_check.l0 k bt135.1 t139 (bt135.1.length : Int) 0))))
theorem cycle_check.mono_l : ∀ k, (∀ y0 y1 y2 y3, LeO (cycle_check.l0 k y0 y1 y2 y3) (cycle_check.l0 (k + 1) y0 y1 y2 y3))
  | 0 => fun _ _ _ _ r h => by simp [cycle_check.l0] at h
  | k + 1 => by
    have ih0 := cycle_check.mono_l k
    · intro y0 y1 y2 y3
      unfold cycle_check.l0
      repeat' first
      | (with_reducible exact ih0 _ _ _ _)
      | (with_reducible exact cycle_numbers.mono _ _)
      | (with_reducible exact cycle_round.mono _ _)
      | (with_reducible exact cycle_table.mono _)
      | (with_reducible exact LeO.refl _)
      | (with_reducible exact LeO.none _)
      | (with_reducible refine LeO.ite ?_ ?_)
      | (with_reducible refine LeO.bind ?_ (fun _ => ?_))
      | exact ih0 _ _ _ _
      | exact cycle_numbers.mono _ _
      | exact cycle_round.mono _ _
      | exact cycle_table.mono _
      | exact LeO.none _
      | refine LeO.ite ?_ ?_
      | refine LeO.bind ?_ (fun _ => ?_)
theorem cycle_check.mono : ∀ a0 k, LeO (cycle_check.f k a0) (cycle_check.f (k + 1) a0) := by
  intro a0 k
  have ih0 := cycle_check.mono_l k
  unfold cycle_check.f
  repeat' first
      | (with_reducible exact ih0 _ _ _ _)
      | (with_reducible exact cycle_numbers.mono _ _)
      | (with_reducible exact cycle_round.mono _ _)
      | (with_reducible exact cycle_table.mono _)
      | (with_reducible exact LeO.refl _)
      | (with_reducible exact LeO.none _)
      | (with_reducible refine LeO.ite ?_ ?_)
      | (with_reducible refine LeO.bind ?_ (fun _ => ?_))
      | exact ih0 _ _ _ _
      | exact cycle_numbers.mono _ _
      | exact cycle_round.mono _ _
      | exact cycle_table.mono _
      | exact LeO.none _
      | refine LeO.ite ?_ ?_
      | refine LeO.bind ?_ (fun _ => ?_)
set_option maxHeartbeats 8000000 in
set_option maxRecDepth 100000 in
theorem cycle_check.calls (k : Nat) (A0 : Option Addr) (c0 : Nat) (l0 : List ByteArray) (r1 : List Int) (r2 : Int) (r3 : Int) (w : World) (hr0 : Kd.C Kd.string w A0 l0.length l0) (hc0 : l0.length ≤ c0) (h : cycle_check.f k l0 = some (r1, r2, r3)) :
    Calls Tryd.prog 23 #[.slice A0 l0.length c0] w fun e w' => ∃ v0_ : Value, e = .returned (.tuple #[v0_, .int .i64 r2, .int .i64 r3]) ∧ Kd.R (Kd.int .i64) 3 w' w.heap.size (fun _ => True) v0_ r1 ∧ Below w.heap.size w w' := by
  have HR0 := Aside0.mk hr0
  have HC0 := Aside0.mk hc0
  clear hr0 hc0
  have HB := Aside0.mk (Below.refl w.heap.size w)
  have H : (if (l0.length : Int) > 16 then (some (([] : List Int), 0, 1)) else ((cycle_numbers.f k l0).bind fun bt135 => (if bt135.2 ≥ 0 then (some (([] : List Int), bt135.2, 260)) else ((cycle_table.f k).bind fun t139 => (cycle_check.l0 k bt135.1 t139 (bt135.1.length : Int) 0))))) = some (r1, r2, r3) := h
  clear h
  by_cases c2 : (l0.length : Int) > 16
  · rw [if_pos c2] at H
    have c2b0 : decide (16 < (l0.length : Int)) = true := decide_eq_true c2
    have c2b1 : decide (16 < l0.length) = true := decide_eq_true (by omega)
    clear c2
    simp only [Option.some.injEq, Prod.mk.injEq] at H
    obtain ⟨rfl, rfl, rfl⟩ := H
    go_enter Tryd.func23, Tryd.ntmps23
    go_wp2
    repeat (go_quiet (fail); try go_wp2)
    go_ret3
    exact ⟨_, by first | rfl | (simp [errW_none, errW_some] <;> rfl) | (simp [*, errW_none, errW_some] <;> rfl), by first | exact Kd.R_nil _ _ _ _ _ | exact Kd.N_nil _ _ _ _ _ | exact Kd.V_nil _ _ _ _ _ | exact Kd.Q_nil _ _ _ _ _ | exact Kd.S_nil _ _ _ _ _, by repeat (first | (with_reducible first | exact HB.out | apply below_alloc | apply pw_below_drewN | apply below_drew1) | exact HB.out)⟩
  · rw [if_neg c2] at H
    have c2b0 : decide (16 < (l0.length : Int)) = false := decide_eq_false c2
    have c2b1 : decide (16 < l0.length) = false := decide_eq_false (by omega)
    clear c2
    replace H := Option.bind_eq_some_iff.mp H
    obtain ⟨⟨t135, t136⟩, A30, H⟩ := H
    replace H : (if t136 ≥ 0 then (some (([] : List Int), t136, 260)) else ((cycle_table.f k).bind fun t139 => (cycle_check.l0 k t135 t139 (t135.length : Int) 0))) = some (r1, r2, r3) := H
    have A3 := Aside0.mk A30
    clear A30
    by_cases c4 : t136 ≥ 0
    · rw [if_pos c4] at H
      have c4b0 : decide (0 ≤ t136) = true := decide_eq_true c4
      clear c4
      simp only [Option.some.injEq, Prod.mk.injEq] at H
      obtain ⟨rfl, rfl, rfl⟩ := H
      go_enter Tryd.func23, Tryd.ntmps23
      go_wp2_with (first | (go_at_call 33; (with_reducible refine (cycle_numbers.calls k _ _ l0 t135 t136 _ ?side1 ?side2 A3.out).mono ?_); (case side1 => repeat (first | exact HR0.out | (with_reducible refine Kd.C_alloc ?_ _) | (with_reducible refine Kd.C_drewN ?_ _) | (with_reducible refine Kd.C_drew ?_))); (case side2 => exact HC0.out); rintro e w5 ⟨v137, rfl, ho0, hb⟩; have n0_ := Aside0.mk (Kd.R_lower ho0 (below_size (by repeat (first | (with_reducible first | exact HB.out | apply below_alloc | apply pw_below_drewN | apply below_drew1) | exact HB.out)))); have n1_ := Aside0.mk (below_step (by repeat (first | (with_reducible first | exact HB.out | apply below_alloc | apply pw_below_drewN | apply below_drew1) | exact HB.out)) hb); clear HB; have HO138 := n0_; have HB := n1_; clear n0_ n1_; (try clear hb); (try clear hb2); (try clear hk); (try clear hi); (try clear ho0)))
      repeat (go_quiet (first | (go_at_call 33; (with_reducible refine (cycle_numbers.calls k _ _ l0 t135 t136 _ ?side1 ?side2 A3.out).mono ?_); (case side1 => repeat (first | exact HR0.out | (with_reducible refine Kd.C_alloc ?_ _) | (with_reducible refine Kd.C_drewN ?_ _) | (with_reducible refine Kd.C_drew ?_))); (case side2 => exact HC0.out); rintro e w5 ⟨v137, rfl, ho0, hb⟩; have n0_ := Aside0.mk (Kd.R_lower ho0 (below_size (by repeat (first | (with_reducible first | exact HB.out | apply below_alloc | apply pw_below_drewN | apply below_drew1) | exact HB.out)))); have n1_ := Aside0.mk (below_step (by repeat (first | (with_reducible first | exact HB.out | apply below_alloc | apply pw_below_drewN | apply below_drew1) | exact HB.out)) hb); clear HB; have HO138 := n0_; have HB := n1_; clear n0_ n1_; (try clear hb); (try clear hb2); (try clear hk); (try clear hi); (try clear ho0))); try go_wp2_with (first | (go_at_call 33; (with_reducible refine (cycle_numbers.calls k _ _ l0 t135 t136 _ ?side1 ?side2 A3.out).mono ?_); (case side1 => repeat (first | exact HR0.out | (with_reducible refine Kd.C_alloc ?_ _) | (with_reducible refine Kd.C_drewN ?_ _) | (with_reducible refine Kd.C_drew ?_))); (case side2 => exact HC0.out); rintro e w5 ⟨v137, rfl, ho0, hb⟩; have n0_ := Aside0.mk (Kd.R_lower ho0 (below_size (by repeat (first | (with_reducible first | exact HB.out | apply below_alloc | apply pw_below_drewN | apply below_drew1) | exact HB.out)))); have n1_ := Aside0.mk (below_step (by repeat (first | (with_reducible first | exact HB.out | apply below_alloc | apply pw_below_drewN | apply below_drew1) | exact HB.out)) hb); clear HB; have HO138 := n0_; have HB := n1_; clear n0_ n1_; (try clear hb); (try clear hb2); (try clear hk); (try clear hi); (try clear ho0))))
      go_ret3
      exact ⟨_, by first | rfl | (simp [errW_none, errW_some] <;> rfl) | (simp [*, errW_none, errW_some] <;> rfl), by first | exact Kd.R_nil _ _ _ _ _ | exact Kd.N_nil _ _ _ _ _ | exact Kd.V_nil _ _ _ _ _ | exact Kd.Q_nil _ _ _ _ _ | exact Kd.S_nil _ _ _ _ _, by repeat (first | (with_reducible first | exact HB.out | apply below_alloc | apply pw_below_drewN | apply below_drew1) | exact HB.out)⟩
    · rw [if_neg c4] at H
      have c4b0 : decide (0 ≤ t136) = false := decide_eq_false c4
      clear c4
      replace H := Option.bind_eq_some_iff.mp H
      obtain ⟨t139, A60, H⟩ := H
      replace H : (cycle_check.l0 k t135 t139 (t135.length : Int) 0) = some (r1, r2, r3) := H
      have A6 := Aside0.mk A60
      clear A60
      have H' := Aside0.mk H
      clear H
      go_enter Tryd.func23, Tryd.ntmps23
      go_wp2_with (first | (go_at_call 33; (with_reducible refine (cycle_numbers.calls k _ _ l0 t135 t136 _ ?side1 ?side2 A3.out).mono ?_); (case side1 => repeat (first | exact HR0.out | (with_reducible refine Kd.C_alloc ?_ _) | (with_reducible refine Kd.C_drewN ?_ _) | (with_reducible refine Kd.C_drew ?_))); (case side2 => exact HC0.out); rintro e w7 ⟨v137, rfl, ho0, hb⟩; have n0_ := Aside0.mk (Kd.R_lower ho0 (below_size (by repeat (first | (with_reducible first | exact HB.out | apply below_alloc | apply pw_below_drewN | apply below_drew1) | exact HB.out)))); have n1_ := Aside0.mk (below_step (by repeat (first | (with_reducible first | exact HB.out | apply below_alloc | apply pw_below_drewN | apply below_drew1) | exact HB.out)) hb); clear HB; have HO138 := n0_; have HB := n1_; clear n0_ n1_; (try clear hb); (try clear hb2); (try clear hk); (try clear hi); (try clear ho0)) | (go_at_call 40; (with_reducible refine (cycle_table.calls k  t139 _ A6.out).mono ?_); rintro e w8 ⟨v140, rfl, ho0, hb⟩; have n0_ := Aside0.mk (Kd.R_below (by (with_reducible repeat (first | apply Kd.R_alloc | apply Kd.R_drewN | apply Kd.R_drew)); exact HO138.out) hb); have n1_ := Aside0.mk (Kd.R_lower ho0 (below_size (by repeat (first | (with_reducible first | exact HB.out | apply below_alloc | apply pw_below_drewN | apply below_drew1) | exact HB.out)))); have n2_ := Aside0.mk (below_step (by repeat (first | (with_reducible first | exact HB.out | apply below_alloc | apply pw_below_drewN | apply below_drew1) | exact HB.out)) hb); clear HO138; clear HB; have HO138 := n0_; have HO141 := n1_; have HB := n2_; clear n0_ n1_ n2_; (try clear hb); (try clear hb2); (try clear hk); (try clear hi); (try clear ho0); obtain ⟨Ao9, co9, eo9⟩ := Kd.R_slice HO138.out; subst eo9))
      repeat (go_quiet (first | (go_at_call 33; (with_reducible refine (cycle_numbers.calls k _ _ l0 t135 t136 _ ?side1 ?side2 A3.out).mono ?_); (case side1 => repeat (first | exact HR0.out | (with_reducible refine Kd.C_alloc ?_ _) | (with_reducible refine Kd.C_drewN ?_ _) | (with_reducible refine Kd.C_drew ?_))); (case side2 => exact HC0.out); rintro e w7 ⟨v137, rfl, ho0, hb⟩; have n0_ := Aside0.mk (Kd.R_lower ho0 (below_size (by repeat (first | (with_reducible first | exact HB.out | apply below_alloc | apply pw_below_drewN | apply below_drew1) | exact HB.out)))); have n1_ := Aside0.mk (below_step (by repeat (first | (with_reducible first | exact HB.out | apply below_alloc | apply pw_below_drewN | apply below_drew1) | exact HB.out)) hb); clear HB; have HO138 := n0_; have HB := n1_; clear n0_ n1_; (try clear hb); (try clear hb2); (try clear hk); (try clear hi); (try clear ho0)) | (go_at_call 40; (with_reducible refine (cycle_table.calls k  t139 _ A6.out).mono ?_); rintro e w8 ⟨v140, rfl, ho0, hb⟩; have n0_ := Aside0.mk (Kd.R_below (by (with_reducible repeat (first | apply Kd.R_alloc | apply Kd.R_drewN | apply Kd.R_drew)); exact HO138.out) hb); have n1_ := Aside0.mk (Kd.R_lower ho0 (below_size (by repeat (first | (with_reducible first | exact HB.out | apply below_alloc | apply pw_below_drewN | apply below_drew1) | exact HB.out)))); have n2_ := Aside0.mk (below_step (by repeat (first | (with_reducible first | exact HB.out | apply below_alloc | apply pw_below_drewN | apply below_drew1) | exact HB.out)) hb); clear HO138; clear HB; have HO138 := n0_; have HO141 := n1_; have HB := n2_; clear n0_ n1_ n2_; (try clear hb); (try clear hb2); (try clear hk); (try clear hi); (try clear ho0); obtain ⟨Ao9, co9, eo9⟩ := Kd.R_slice HO138.out; subst eo9)); try go_wp2_with (first | (go_at_call 33; (with_reducible refine (cycle_numbers.calls k _ _ l0 t135 t136 _ ?side1 ?side2 A3.out).mono ?_); (case side1 => repeat (first | exact HR0.out | (with_reducible refine Kd.C_alloc ?_ _) | (with_reducible refine Kd.C_drewN ?_ _) | (with_reducible refine Kd.C_drew ?_))); (case side2 => exact HC0.out); rintro e w7 ⟨v137, rfl, ho0, hb⟩; have n0_ := Aside0.mk (Kd.R_lower ho0 (below_size (by repeat (first | (with_reducible first | exact HB.out | apply below_alloc | apply pw_below_drewN | apply below_drew1) | exact HB.out)))); have n1_ := Aside0.mk (below_step (by repeat (first | (with_reducible first | exact HB.out | apply below_alloc | apply pw_below_drewN | apply below_drew1) | exact HB.out)) hb); clear HB; have HO138 := n0_; have HB := n1_; clear n0_ n1_; (try clear hb); (try clear hb2); (try clear hk); (try clear hi); (try clear ho0)) | (go_at_call 40; (with_reducible refine (cycle_table.calls k  t139 _ A6.out).mono ?_); rintro e w8 ⟨v140, rfl, ho0, hb⟩; have n0_ := Aside0.mk (Kd.R_below (by (with_reducible repeat (first | apply Kd.R_alloc | apply Kd.R_drewN | apply Kd.R_drew)); exact HO138.out) hb); have n1_ := Aside0.mk (Kd.R_lower ho0 (below_size (by repeat (first | (with_reducible first | exact HB.out | apply below_alloc | apply pw_below_drewN | apply below_drew1) | exact HB.out)))); have n2_ := Aside0.mk (below_step (by repeat (first | (with_reducible first | exact HB.out | apply below_alloc | apply pw_below_drewN | apply below_drew1) | exact HB.out)) hb); clear HO138; clear HB; have HO138 := n0_; have HO141 := n1_; have HB := n2_; clear n0_ n1_ n2_; (try clear hb); (try clear hb2); (try clear hk); (try clear hi); (try clear ho0); obtain ⟨Ao9, co9, eo9⟩ := Kd.R_slice HO138.out; subst eo9)))
      go_loopg [23] k (fun kq v23 w' => ∃ (x23_1 : Int), v23 = .int .i64 x23_1 ∧ Aside0 (cycle_check.l0 kq t135 t139 (t135.length : Int) x23_1 = some (r1, r2, r3)) ∧ Aside0 (kq ≤ k) ∧ Aside0 (Kd.R (Kd.int .i64) 3 w' w.heap.size (fun _ => True) (.slice Ao9 t135.length co9) t135) ∧ Aside0 (Kd.R k79 79 w' w.heap.size (fun _ => True) v140 t139) ∧ Aside0 (Below w.heap.size w w'))
      case atStart => exact ⟨(0), (by first | rfl | (simp; done) | (simp [*]; done)), H', ⟨Nat.le_refl _⟩, ⟨by (with_reducible repeat (first | apply Kd.R_alloc | apply Kd.R_drewN | apply Kd.R_drew)); exact HO138.out⟩, ⟨by (with_reducible repeat (first | apply Kd.R_alloc | apply Kd.R_drewN | apply Kd.R_drew)); exact HO141.out⟩, ⟨by repeat (first | (with_reducible first | exact HB.out | apply below_alloc | apply pw_below_drewN | apply below_drew1) | exact HB.out)⟩⟩
      case round =>
        clear H'
        try clear c2
        try clear c2b0
        try clear c2b1
        try clear p2
        try clear c4
        try clear c4b0
        obtain ⟨x23_1, rfl, HA, HK1, HO_5, HO_7, HB⟩ := hrel
        cases gk with
        | zero => exact absurd HA.out (by simp [cycle_check.l0])
        | succ k1 =>
          have H := HA.out
          clear HA
          simp only [cycle_check.l0] at H
          by_cases c10 : x23_1 < (t135.length : Int)
          · rw [if_pos c10] at H
            have c10b0 : decide (x23_1 < (t135.length : Int)) = true := decide_eq_true c10
            clear c10
            by_cases c11 : (t135.length : Int) = 0
            · rw [if_pos c11] at H
              exact absurd H (by simp)
            · rw [if_neg c11] at H
              have c11b0 : ((t135.length : Int) == 0) = false := beq_eq_false_iff_ne.mpr c11
              have c11b1 : ((t135.length : Int) != 0) = true := bne_iff_ne.mpr c11
              have c11b2 : ¬ (t135 = []) := fun h_ => c11 (by rw [h_]; rfl)
              obtain ⟨ji12, hji12⟩ : ∃ j_ : Int, (Int.tmod (wrap64 ((wrap64 (x23_1 + (t135.length : Int))) - 1)) (t135.length : Int)) = j_ := ⟨_, rfl⟩
              replace H : (if 0 ≤ (ji12) then (if (ji12) < (t135.length : Int) then (if 0 ≤ (rd t135 (ji12)) then (if (rd t135 (ji12)) < (t139.length : Int) then (if 0 ≤ x23_1 then (if x23_1 < (t135.length : Int) then (if 0 ≤ (rd t135 x23_1) then (if (rd t135 x23_1) < (t139.length : Int) then (if ((rd_T79 t139 (rd t135 (ji12))).f2) = ((rd_T79 t139 (rd t135 x23_1)).f1) then (cycle_check.l0 k1 t135 t139 (t135.length : Int) (wrap64 (x23_1 + 1))) else (some (([] : List Int), x23_1, 260))) else (none)) else (none)) else (none)) else (none)) else (none)) else (none)) else (none)) else (none)) = some (r1, r2, r3) := by first | (rw [hji12] at H; exact H) | (simp only [hji12] at H ⊢; exact H)
              by_cases c13 : 0 ≤ (ji12)
              · rw [if_pos c13] at H
                have c13b0 : decide (0 ≤ (ji12)) = true := decide_eq_true c13
                clear c13
                by_cases c14 : (ji12) < (t135.length : Int)
                · rw [if_pos c14] at H
                  have c14b0 : decide ((ji12) < (t135.length : Int)) = true := decide_eq_true c14
                  clear c14
                  by_cases c15 : 0 ≤ (rd t135 (ji12))
                  · rw [if_pos c15] at H
                    have c15b0 : decide (0 ≤ (rd t135 (ji12))) = true := decide_eq_true c15
                    clear c15
                    by_cases c16 : (rd t135 (ji12)) < (t139.length : Int)
                    · rw [if_pos c16] at H
                      have c16b0 : decide ((rd t135 (ji12)) < (t139.length : Int)) = true := decide_eq_true c16
                      clear c16
                      by_cases c17 : 0 ≤ x23_1
                      · rw [if_pos c17] at H
                        have c17b0 : decide (0 ≤ x23_1) = true := decide_eq_true c17
                        clear c17
                        by_cases c18 : x23_1 < (t135.length : Int)
                        · rw [if_pos c18] at H
                          have c18b0 : decide (x23_1 < (t135.length : Int)) = true := decide_eq_true c18
                          clear c18
                          by_cases c19 : 0 ≤ (rd t135 x23_1)
                          · rw [if_pos c19] at H
                            have c19b0 : decide (0 ≤ (rd t135 x23_1)) = true := decide_eq_true c19
                            clear c19
                            by_cases c20 : (rd t135 x23_1) < (t139.length : Int)
                            · rw [if_pos c20] at H
                              have c20b0 : decide ((rd t135 x23_1) < (t139.length : Int)) = true := decide_eq_true c20
                              clear c20
                              by_cases c21 : ((rd_T79 t139 (rd t135 (ji12))).f2) = ((rd_T79 t139 (rd t135 x23_1)).f1)
                              · rw [if_pos c21] at H
                                have c21b0 : (((rd_T79 t139 (rd t135 (ji12))).f2) == ((rd_T79 t139 (rd t135 x23_1)).f1)) = true := beq_iff_eq.mpr c21
                                have c21b1 : (((rd_T79 t139 (rd t135 (ji12))).f2) != ((rd_T79 t139 (rd t135 x23_1)).f1)) = false := bne_eq_false_iff_eq.mpr c21
                                clear c21
                                have H' := Aside0.mk H
                                clear H
                                have p142 : 0 ≤ ((ji12) : Int) := of_decide_eq_true (by first | (with_reducible assumption) | assumption)
                                have q142 : (ji12) < (t135.length : Int) := of_decide_eq_true (by first | (with_reducible assumption) | assumption)
                                obtain ⟨ad142, e142, hx142_0⟩ := Kd.at_int (Kd.R_reads' HO_5.out).2.2 (ji12) p142 q142
                                cases e142
                                replace p142 := eq_true p142
                                replace q142 := eq_true q142
                                obtain ⟨Ao22, co22, eo22⟩ := Kd.R_slice HO_7.out
                                subst eo22
                                have p143 : 0 ≤ ((rd t135 (ji12)) : Int) := of_decide_eq_true (by first | (with_reducible assumption) | assumption)
                                have q143 : (rd t135 (ji12)) < (t139.length : Int) := of_decide_eq_true (by first | (with_reducible assumption) | assumption)
                                obtain ⟨ad143, e143, hx143_0, hx143_1, hx143_2, hx143_3, hx143_4, hx143_5⟩ := at_T79 (Kd.R_reads' HO_7.out).2.2 (rd t135 (ji12)) p143 q143
                                cases e143
                                replace p143 := eq_true p143
                                replace q143 := eq_true q143
                                have p144 : 0 ≤ (x23_1 : Int) := of_decide_eq_true (by first | (with_reducible assumption) | assumption)
                                have q144 : x23_1 < (t135.length : Int) := of_decide_eq_true (by first | (with_reducible assumption) | assumption)
                                obtain ⟨ad144, e144, hx144_0⟩ := Kd.at_int (Kd.R_reads' HO_5.out).2.2 x23_1 p144 q144
                                obtain rfl : ad142 = ad144 := (by injection e144)
                                replace p144 := eq_true p144
                                replace q144 := eq_true q144
                                have p145 : 0 ≤ ((rd t135 x23_1) : Int) := of_decide_eq_true (by first | (with_reducible assumption) | assumption)
                                have q145 : (rd t135 x23_1) < (t139.length : Int) := of_decide_eq_true (by first | (with_reducible assumption) | assumption)
                                obtain ⟨ad145, e145, hx145_0, hx145_1, hx145_2, hx145_3, hx145_4, hx145_5⟩ := at_T79 (Kd.R_reads' HO_7.out).2.2 (rd t135 x23_1) p145 q145
                                obtain rfl : ad143 = ad145 := (by injection e145)
                                replace p145 := eq_true p145
                                replace q145 := eq_true q145
                                go_wp2
                                repeat (go_quiet (fail); try go_wp2)
                                go_roundg k1
                                case measure => have := HK1.out; omega
                                case rel => exact ⟨(wrap64 (x23_1 + 1)), (by first | rfl | (simp; done) | (simp [*]; done)), H', ⟨by have := HK1.out; omega⟩, ⟨by (with_reducible repeat (first | apply Kd.R_alloc | apply Kd.R_drewN | apply Kd.R_drew)); exact HO_5.out⟩, ⟨by (with_reducible repeat (first | apply Kd.R_alloc | apply Kd.R_drewN | apply Kd.R_drew)); exact HO_7.out⟩, ⟨by repeat (first | (with_reducible first | exact HB.out | apply below_alloc | apply pw_below_drewN | apply below_drew1) | exact HB.out)⟩⟩
                              · rw [if_neg c21] at H
                                have c21b0 : (((rd_T79 t139 (rd t135 (ji12))).f2) == ((rd_T79 t139 (rd t135 x23_1)).f1)) = false := beq_eq_false_iff_ne.mpr c21
                                have c21b1 : (((rd_T79 t139 (rd t135 (ji12))).f2) != ((rd_T79 t139 (rd t135 x23_1)).f1)) = true := bne_iff_ne.mpr c21
                                simp only [Option.some.injEq, Prod.mk.injEq] at H
                                obtain ⟨rfl, rfl, rfl⟩ := H
                                have p142 : 0 ≤ ((ji12) : Int) := of_decide_eq_true (by first | (with_reducible assumption) | assumption)
                                have q142 : (ji12) < (t135.length : Int) := of_decide_eq_true (by first | (with_reducible assumption) | assumption)
                                obtain ⟨ad142, e142, hx142_0⟩ := Kd.at_int (Kd.R_reads' HO_5.out).2.2 (ji12) p142 q142
                                cases e142
                                replace p142 := eq_true p142
                                replace q142 := eq_true q142
                                obtain ⟨Ao23, co23, eo23⟩ := Kd.R_slice HO_7.out
                                subst eo23
                                have p143 : 0 ≤ ((rd t135 (ji12)) : Int) := of_decide_eq_true (by first | (with_reducible assumption) | assumption)
                                have q143 : (rd t135 (ji12)) < (t139.length : Int) := of_decide_eq_true (by first | (with_reducible assumption) | assumption)
                                obtain ⟨ad143, e143, hx143_0, hx143_1, hx143_2, hx143_3, hx143_4, hx143_5⟩ := at_T79 (Kd.R_reads' HO_7.out).2.2 (rd t135 (ji12)) p143 q143
                                cases e143
                                replace p143 := eq_true p143
                                replace q143 := eq_true q143
                                have p144 : 0 ≤ (x23_1 : Int) := of_decide_eq_true (by first | (with_reducible assumption) | assumption)
                                have q144 : x23_1 < (t135.length : Int) := of_decide_eq_true (by first | (with_reducible assumption) | assumption)
                                obtain ⟨ad144, e144, hx144_0⟩ := Kd.at_int (Kd.R_reads' HO_5.out).2.2 x23_1 p144 q144
                                obtain rfl : ad142 = ad144 := (by injection e144)
                                replace p144 := eq_true p144
                                replace q144 := eq_true q144
                                have p145 : 0 ≤ ((rd t135 x23_1) : Int) := of_decide_eq_true (by first | (with_reducible assumption) | assumption)
                                have q145 : (rd t135 x23_1) < (t139.length : Int) := of_decide_eq_true (by first | (with_reducible assumption) | assumption)
                                obtain ⟨ad145, e145, hx145_0, hx145_1, hx145_2, hx145_3, hx145_4, hx145_5⟩ := at_T79 (Kd.R_reads' HO_7.out).2.2 (rd t135 x23_1) p145 q145
                                obtain rfl : ad143 = ad145 := (by injection e145)
                                replace p145 := eq_true p145
                                replace q145 := eq_true q145
                                go_wp2
                                repeat (go_quiet (fail); try go_wp2)
                                go_ret3
                                exact ⟨_, by first | rfl | (simp [errW_none, errW_some] <;> rfl) | (simp only [← hji12]; first | rfl | (simp [errW_none, errW_some] <;> rfl)) | (simp [*, errW_none, errW_some] <;> rfl), by first | exact Kd.R_nil _ _ _ _ _ | exact Kd.N_nil _ _ _ _ _ | exact Kd.V_nil _ _ _ _ _ | exact Kd.Q_nil _ _ _ _ _ | exact Kd.S_nil _ _ _ _ _, by repeat (first | (with_reducible first | exact HB.out | apply below_alloc | apply pw_below_drewN | apply below_drew1) | exact HB.out)⟩
                            · rw [if_neg c20] at H
                              exact absurd H (by simp)
                          · rw [if_neg c19] at H
                            exact absurd H (by simp)
                        · rw [if_neg c18] at H
                          exact absurd H (by simp)
                      · rw [if_neg c17] at H
                        exact absurd H (by simp)
                    · rw [if_neg c16] at H
                      exact absurd H (by simp)
                  · rw [if_neg c15] at H
                    exact absurd H (by simp)
                · rw [if_neg c14] at H
                  exact absurd H (by simp)
              · rw [if_neg c13] at H
                exact absurd H (by simp)
          · rw [if_neg c10] at H
            have c10b0 : decide (x23_1 < (t135.length : Int)) = false := decide_eq_false c10
            clear c10
            replace H := Option.bind_eq_some_iff.mp H
            obtain ⟨t146, A240, H⟩ := H
            replace H : (if t146 = true then (some (t135, 0, 0)) else (some (([] : List Int), 0, 260))) = some (r1, r2, r3) := H
            have A24 := Aside0.mk A240
            clear A240
            by_cases c25 : t146 = true
            · subst c25
              have H1 : (some (t135, 0, 0)) = some (r1, r2, r3) := by rw [if_pos rfl] at H; exact H
              clear H
              have H := H1
              clear H1
              simp only [Option.some.injEq, Prod.mk.injEq] at H
              obtain ⟨rfl, rfl, rfl⟩ := H
              go_wp2_with (first | (go_at_call 45; (with_reducible refine (cycle_round.calls k1 _ _ t135 true _ ?side1 ?side2 A24.out).mono ?_); (case side1 => repeat (first | exact (Kd.R_reads' HO_5.out).2.2 | (with_reducible refine Kd.C_alloc ?_ _) | (with_reducible refine Kd.C_drewN ?_ _) | (with_reducible refine Kd.C_drew ?_))); (case side2 => exact (Kd.R_reads' HO_5.out).2.1); rintro e w26 ⟨rfl, hb⟩; have n0_ := Aside0.mk (Kd.R_below (by (with_reducible repeat (first | apply Kd.R_alloc | apply Kd.R_drewN | apply Kd.R_drew)); exact HO_5.out) hb); have n1_ := Aside0.mk (Kd.R_below (by (with_reducible repeat (first | apply Kd.R_alloc | apply Kd.R_drewN | apply Kd.R_drew)); exact HO_7.out) hb); have n2_ := Aside0.mk (below_step (by repeat (first | (with_reducible first | exact HB.out | apply below_alloc | apply pw_below_drewN | apply below_drew1) | exact HB.out)) hb); clear HO_5; clear HO_7; clear HB; have HO_5 := n0_; have HO_7 := n1_; have HB := n2_; clear n0_ n1_ n2_; (try clear hb); (try clear hb2); (try clear hk); (try clear hi)))
              repeat (go_quiet (first | (go_at_call 45; (with_reducible refine (cycle_round.calls k1 _ _ t135 true _ ?side1 ?side2 A24.out).mono ?_); (case side1 => repeat (first | exact (Kd.R_reads' HO_5.out).2.2 | (with_reducible refine Kd.C_alloc ?_ _) | (with_reducible refine Kd.C_drewN ?_ _) | (with_reducible refine Kd.C_drew ?_))); (case side2 => exact (Kd.R_reads' HO_5.out).2.1); rintro e w26 ⟨rfl, hb⟩; have n0_ := Aside0.mk (Kd.R_below (by (with_reducible repeat (first | apply Kd.R_alloc | apply Kd.R_drewN | apply Kd.R_drew)); exact HO_5.out) hb); have n1_ := Aside0.mk (Kd.R_below (by (with_reducible repeat (first | apply Kd.R_alloc | apply Kd.R_drewN | apply Kd.R_drew)); exact HO_7.out) hb); have n2_ := Aside0.mk (below_step (by repeat (first | (with_reducible first | exact HB.out | apply below_alloc | apply pw_below_drewN | apply below_drew1) | exact HB.out)) hb); clear HO_5; clear HO_7; clear HB; have HO_5 := n0_; have HO_7 := n1_; have HB := n2_; clear n0_ n1_ n2_; (try clear hb); (try clear hb2); (try clear hk); (try clear hi))); try go_wp2_with (first | (go_at_call 45; (with_reducible refine (cycle_round.calls k1 _ _ t135 true _ ?side1 ?side2 A24.out).mono ?_); (case side1 => repeat (first | exact (Kd.R_reads' HO_5.out).2.2 | (with_reducible refine Kd.C_alloc ?_ _) | (with_reducible refine Kd.C_drewN ?_ _) | (with_reducible refine Kd.C_drew ?_))); (case side2 => exact (Kd.R_reads' HO_5.out).2.1); rintro e w26 ⟨rfl, hb⟩; have n0_ := Aside0.mk (Kd.R_below (by (with_reducible repeat (first | apply Kd.R_alloc | apply Kd.R_drewN | apply Kd.R_drew)); exact HO_5.out) hb); have n1_ := Aside0.mk (Kd.R_below (by (with_reducible repeat (first | apply Kd.R_alloc | apply Kd.R_drewN | apply Kd.R_drew)); exact HO_7.out) hb); have n2_ := Aside0.mk (below_step (by repeat (first | (with_reducible first | exact HB.out | apply below_alloc | apply pw_below_drewN | apply below_drew1) | exact HB.out)) hb); clear HO_5; clear HO_7; clear HB; have HO_5 := n0_; have HO_7 := n1_; have HB := n2_; clear n0_ n1_ n2_; (try clear hb); (try clear hb2); (try clear hk); (try clear hi))))
              go_ret3
              exact ⟨_, by first | rfl | (simp [errW_none, errW_some] <;> rfl) | (simp [*, errW_none, errW_some] <;> rfl), by (with_reducible repeat (first | apply Kd.R_alloc | apply Kd.R_drewN | apply Kd.R_drew)); exact HO_5.out, by repeat (first | (with_reducible first | exact HB.out | apply below_alloc | apply pw_below_drewN | apply below_drew1) | exact HB.out)⟩
            · replace c25 := Bool.eq_false_iff.mpr c25
              subst c25
              have H1 : (some (([] : List Int), 0, 260)) = some (r1, r2, r3) := by rw [if_neg (show ¬ (false = true) by decide)] at H; exact H
              clear H
              have H := H1
              clear H1
              simp only [Option.some.injEq, Prod.mk.injEq] at H
              obtain ⟨rfl, rfl, rfl⟩ := H
              go_wp2_with (first | (go_at_call 45; (with_reducible refine (cycle_round.calls k1 _ _ t135 false _ ?side1 ?side2 A24.out).mono ?_); (case side1 => repeat (first | exact (Kd.R_reads' HO_5.out).2.2 | (with_reducible refine Kd.C_alloc ?_ _) | (with_reducible refine Kd.C_drewN ?_ _) | (with_reducible refine Kd.C_drew ?_))); (case side2 => exact (Kd.R_reads' HO_5.out).2.1); rintro e w27 ⟨rfl, hb⟩; have n0_ := Aside0.mk (Kd.R_below (by (with_reducible repeat (first | apply Kd.R_alloc | apply Kd.R_drewN | apply Kd.R_drew)); exact HO_5.out) hb); have n1_ := Aside0.mk (Kd.R_below (by (with_reducible repeat (first | apply Kd.R_alloc | apply Kd.R_drewN | apply Kd.R_drew)); exact HO_7.out) hb); have n2_ := Aside0.mk (below_step (by repeat (first | (with_reducible first | exact HB.out | apply below_alloc | apply pw_below_drewN | apply below_drew1) | exact HB.out)) hb); clear HO_5; clear HO_7; clear HB; have HO_5 := n0_; have HO_7 := n1_; have HB := n2_; clear n0_ n1_ n2_; (try clear hb); (try clear hb2); (try clear hk); (try clear hi)))
              repeat (go_quiet (first | (go_at_call 45; (with_reducible refine (cycle_round.calls k1 _ _ t135 false _ ?side1 ?side2 A24.out).mono ?_); (case side1 => repeat (first | exact (Kd.R_reads' HO_5.out).2.2 | (with_reducible refine Kd.C_alloc ?_ _) | (with_reducible refine Kd.C_drewN ?_ _) | (with_reducible refine Kd.C_drew ?_))); (case side2 => exact (Kd.R_reads' HO_5.out).2.1); rintro e w27 ⟨rfl, hb⟩; have n0_ := Aside0.mk (Kd.R_below (by (with_reducible repeat (first | apply Kd.R_alloc | apply Kd.R_drewN | apply Kd.R_drew)); exact HO_5.out) hb); have n1_ := Aside0.mk (Kd.R_below (by (with_reducible repeat (first | apply Kd.R_alloc | apply Kd.R_drewN | apply Kd.R_drew)); exact HO_7.out) hb); have n2_ := Aside0.mk (below_step (by repeat (first | (with_reducible first | exact HB.out | apply below_alloc | apply pw_below_drewN | apply below_drew1) | exact HB.out)) hb); clear HO_5; clear HO_7; clear HB; have HO_5 := n0_; have HO_7 := n1_; have HB := n2_; clear n0_ n1_ n2_; (try clear hb); (try clear hb2); (try clear hk); (try clear hi))); try go_wp2_with (first | (go_at_call 45; (with_reducible refine (cycle_round.calls k1 _ _ t135 false _ ?side1 ?side2 A24.out).mono ?_); (case side1 => repeat (first | exact (Kd.R_reads' HO_5.out).2.2 | (with_reducible refine Kd.C_alloc ?_ _) | (with_reducible refine Kd.C_drewN ?_ _) | (with_reducible refine Kd.C_drew ?_))); (case side2 => exact (Kd.R_reads' HO_5.out).2.1); rintro e w27 ⟨rfl, hb⟩; have n0_ := Aside0.mk (Kd.R_below (by (with_reducible repeat (first | apply Kd.R_alloc | apply Kd.R_drewN | apply Kd.R_drew)); exact HO_5.out) hb); have n1_ := Aside0.mk (Kd.R_below (by (with_reducible repeat (first | apply Kd.R_alloc | apply Kd.R_drewN | apply Kd.R_drew)); exact HO_7.out) hb); have n2_ := Aside0.mk (below_step (by repeat (first | (with_reducible first | exact HB.out | apply below_alloc | apply pw_below_drewN | apply below_drew1) | exact HB.out)) hb); clear HO_5; clear HO_7; clear HB; have HO_5 := n0_; have HO_7 := n1_; have HB := n2_; clear n0_ n1_ n2_; (try clear hb); (try clear hb2); (try clear hk); (try clear hi))))
              go_ret3
              exact ⟨_, by first | rfl | (simp [errW_none, errW_some] <;> rfl) | (simp [*, errW_none, errW_some] <;> rfl), by first | exact Kd.R_nil _ _ _ _ _ | exact Kd.N_nil _ _ _ _ _ | exact Kd.V_nil _ _ _ _ _ | exact Kd.Q_nil _ _ _ _ _ | exact Kd.S_nil _ _ _ _ _, by repeat (first | (with_reducible first | exact HB.out | apply below_alloc | apply pw_below_drewN | apply below_drew1) | exact HB.out)⟩

/-! ### cycle_Check: function 7 -/
def cycle_Check.f (k : Nat) (l0 : List ByteArray) : Option (Int × Int) := (cycle_check.f k l0).bind fun bt147 => (some (bt147.2.1, bt147.2.2))
theorem cycle_Check.mono : ∀ a0 k, LeO (cycle_Check.f k a0) (cycle_Check.f (k + 1) a0) := by
  intro a0 k
  unfold cycle_Check.f
  repeat' first
      | (with_reducible exact cycle_check.mono _ _)
      | (with_reducible exact LeO.refl _)
      | (with_reducible exact LeO.none _)
      | (with_reducible refine LeO.ite ?_ ?_)
      | (with_reducible refine LeO.bind ?_ (fun _ => ?_))
      | exact cycle_check.mono _ _
      | exact LeO.none _
      | refine LeO.ite ?_ ?_
      | refine LeO.bind ?_ (fun _ => ?_)
set_option maxHeartbeats 8000000 in
set_option maxRecDepth 100000 in
theorem cycle_Check.calls (k : Nat) (A0 : Option Addr) (c0 : Nat) (l0 : List ByteArray) (r1 : Int) (r2 : Int) (w : World) (hr0 : Kd.C Kd.string w A0 l0.length l0) (hc0 : l0.length ≤ c0) (h : cycle_Check.f k l0 = some (r1, r2)) :
    Calls Tryd.prog 7 #[.slice A0 l0.length c0] w fun e w' => e = .returned (.tuple #[.int .i64 r1, .int .i64 r2]) ∧ Below w.heap.size w w' := by
  have HR0 := Aside0.mk hr0
  have HC0 := Aside0.mk hc0
  clear hr0 hc0
  have HB := Aside0.mk (Below.refl w.heap.size w)
  have H : ((cycle_check.f k l0).bind fun bt147 => (some (bt147.2.1, bt147.2.2))) = some (r1, r2) := h
  clear h
  replace H := Option.bind_eq_some_iff.mp H
  obtain ⟨⟨t147, t148, t149⟩, A20, H⟩ := H
  replace H : (some (t148, t149)) = some (r1, r2) := H
  have A2 := Aside0.mk A20
  clear A20
  simp only [Option.some.injEq, Prod.mk.injEq] at H
  obtain ⟨rfl, rfl⟩ := H
  go_enter Tryd.func7, Tryd.ntmps7
  go_wp2_with (first | ((with_reducible refine gate_callee (f := 23) rfl ?_); refine goesL_ (some 9) rfl rfl Tryd.func23 (by kernel_rfl) rfl #[.slice A0 l0.length c0] rfl (by (try simp only [List.map_toArray, List.map_cons, List.map_nil]); first | done | rfl | (simp only [List.length_drop, List.length_take]; rfl)) ?_; (with_reducible refine (cycle_check.calls k _ _ l0 t147 t148 t149 _ ?side1 ?side2 A2.out).mono ?_); (case side1 => repeat (first | exact HR0.out | (with_reducible refine Kd.C_alloc ?_ _) | (with_reducible refine Kd.C_drewN ?_ _) | (with_reducible refine Kd.C_drew ?_))); (case side2 => exact HC0.out); rintro e w3 ⟨v150, rfl, ho0, hb⟩; refine ⟨_, rfl, ?_⟩; have n0_ := Aside0.mk (Kd.R_lower ho0 (below_size (by repeat (first | (with_reducible first | exact HB.out | apply below_alloc | apply pw_below_drewN | apply below_drew1) | exact HB.out)))); have n1_ := Aside0.mk (below_step (by repeat (first | (with_reducible first | exact HB.out | apply below_alloc | apply pw_below_drewN | apply below_drew1) | exact HB.out)) hb); clear HB; have HO151 := n0_; have HB := n1_; clear n0_ n1_; (try clear hb); (try clear hb2); (try clear hk); (try clear hi); (try clear ho0)))
  go_ret2
  exact ⟨by first | rfl | (simp [errW_none, errW_some] <;> rfl) | (simp [*, errW_none, errW_some] <;> rfl), by repeat (first | (with_reducible first | exact HB.out | apply below_alloc | apply pw_below_drewN | apply below_drew1) | exact HB.out)⟩

/-! ### weirref26_Number: function 24 -/

def weirref26_names : List ByteArray := [⟨#[82, 102, 101]⟩, ⟨#[82, 102, 105]⟩, ⟨#[70, 114, 101]⟩, ⟨#[70, 114, 105]⟩, ⟨#[67, 111, 101]⟩, ⟨#[67, 111, 105]⟩, ⟨#[80, 111, 100, 82, 82]⟩, ⟨#[80, 111, 100, 82, 87]⟩, ⟨#[80, 111, 100, 87, 82]⟩, ⟨#[80, 111, 100, 87, 87]⟩, ⟨#[80, 111, 115, 82, 82]⟩, ⟨#[80, 111, 115, 82, 87]⟩, ⟨#[80, 111, 115, 87, 82]⟩, ⟨#[80, 111, 115, 87, 87]⟩, ⟨#[77, 70, 101, 110, 99, 101, 100, 82, 82]⟩, ⟨#[77, 70, 101, 110, 99, 101, 100, 82, 87]⟩, ⟨#[77, 70, 101, 110, 99, 101, 100, 87, 82]⟩, ⟨#[77, 70, 101, 110, 99, 101, 100, 87, 87]⟩]
theorem weirref26_names_len : weirref26_names.length = 18 := rfl
def weirref26_num (s : ByteArray) : Int := (weirref26_names.findIdx? (fun n => n.toList == s.toList)).elim (-1) (fun j => (j : Int))
theorem weirref26_num_at (s : ByteArray) (k : Nat) (hk : k < 18) (hn : ∀ j, j < k → ¬ (weirref26_names.getD j ByteArray.empty).toList = s.toList) (e : (weirref26_names.getD k ByteArray.empty).toList = s.toList) : weirref26_num s = k := by
  have : weirref26_names.findIdx? (fun n => n.toList == s.toList) = some k := by
    rw [List.findIdx?_eq_some_iff_getElem]
    refine ⟨by rw [weirref26_names_len]; exact hk, ?_, fun j hj => ?_⟩
    · rw [List.getD_eq_getElem?_getD, List.getElem?_eq_getElem (by rw [weirref26_names_len]; exact hk)] at e
      simpa using e
    · have := hn j hj
      rw [List.getD_eq_getElem?_getD, List.getElem?_eq_getElem (by rw [weirref26_names_len]; omega)] at this
      simpa using this
  rw [weirref26_num, this]; rfl
theorem weirref26_num_none (s : ByteArray) (hn : ∀ j, j < 18 → ¬ (weirref26_names.getD j ByteArray.empty).toList = s.toList) : weirref26_num s = -1 := by
  have : weirref26_names.findIdx? (fun n => n.toList == s.toList) = none := by
    rw [List.findIdx?_eq_none_iff]
    intro x hx
    obtain ⟨j, hj, rfl⟩ := List.getElem_of_mem hx
    have := hn j (by rw [weirref26_names_len] at hj; exact hj)
    rw [List.getD_eq_getElem?_getD, List.getElem?_eq_getElem hj] at this
    simpa using this
  rw [weirref26_num, this]; rfl
def weirref26_Number.f (a0 : ByteArray) (l1 : List ByteArray) : Option (Int) := if l1 = weirref26_names then some (weirref26_num a0) else none
set_option maxHeartbeats 8000000 in
set_option maxRecDepth 100000 in
theorem weirref26_Number.calls (a0 : ByteArray) (A1 : Option Addr) (c1 : Nat) (l1 : List ByteArray) (r : Int) (w : World) (hr1 : Kd.C Kd.string w A1 l1.length l1) (hc1 : A1 = some ⟨0, 0, none⟩) (h : weirref26_Number.f a0 l1 = some r) :
    Calls Tryd.prog 24 #[.string a0] w fun e w' => e = .returned (.int .i64 r) ∧ Drawn0 w w' := by
  unfold weirref26_Number.f at h
  by_cases hl : l1 = weirref26_names
  · rw [if_pos hl] at h
    subst hl
    subst hc1
    obtain rfl := Option.some.inj h
    clear h
    have hcell0 : ∀ k : Nat, k < 18 → w.cell? ⟨0, k, none⟩ = some (.string (weirref26_names.getD k ByteArray.empty)) := by
      intro k hk
      obtain ⟨ad, e, hx⟩ := Kd.at_string hr1 (k : Int) (by omega) (by rw [weirref26_names_len]; omega)
      cases e
      have ea : (⟨0, 0, none⟩ : Addr).add k = ⟨0, k, none⟩ := by cases k <;> simp [Addr.add]
      rw [Int.toNat_natCast, ea] at hx
      rw [hx]
      simp [rdOf]
    have HC := Aside0.mk hcell0
    clear hcell0 hr1
    go_enter Tryd.func24, Tryd.ntmps24
    go_wp2
    go_loop [3] (fun v3 => ∃ k : Nat, k ≤ 18 ∧ v3 = .int .i64 k ∧ Aside0 (∀ j, j < k → ¬ (weirref26_names.getD j ByteArray.empty).toList = a0.toList)) (fun v3 => 18 - (intOf v3).toNat)
    case atStart => exact ⟨0, by omega, rfl, ⟨fun j hj => absurd hj (by omega)⟩⟩
    case round =>
      obtain ⟨k, hk, rfl, HN⟩ := hrel
      by_cases hlt : k < 18
      · have hcell := HC.out k hlt
        by_cases e : (weirref26_names.getD k ByteArray.empty).toList = a0.toList
        · have HE := Aside0.mk (weirref26_num_at a0 k hlt HN.out e)
          generalize weirref26_names.getD k ByteArray.empty = nm at *
          have e0 : (nm.toList == a0.toList) = true := beq_iff_eq.mpr e
          clear e
          go_wp2
          go_ret
          rw [HE.out]
          exact ⟨rfl, Drawn0.refl _⟩
        · have HN' := Aside0.mk (show ∀ j, j < k + 1 → ¬ (weirref26_names.getD j ByteArray.empty).toList = a0.toList from fun j hj => by
            rcases Nat.lt_or_ge j k with h1 | h1
            · exact HN.out j h1
            · obtain rfl : j = k := by omega
              exact e)
          generalize weirref26_names.getD k ByteArray.empty = nm at hcell e
          have e0 : (nm.toList == a0.toList) = false := beq_eq_false_iff_ne.mpr e
          clear e
          go_wp2
          go_round
          case rel => exact ⟨k + 1, by omega, by go_num, HN'⟩
          case measure => simp [intOf]; omega
      · obtain rfl : k = 18 := by omega
        have HE := Aside0.mk (weirref26_num_none a0 HN.out)
        go_wp2
        go_ret
        rw [HE.out]
        exact ⟨rfl, Drawn0.refl _⟩
  · rw [if_neg hl] at h
    cases h

/-! ### weirref26_ends: function 25 -/
def weirref26_ends.f (a0 : Int) : Option (Int) := if a0 < 6 then (if 0 ≤ a0 then (some (bt (⟨#[82, 82, 87, 87, 87, 87]⟩ : ByteArray) a0)) else (none)) else (if 0 ≤ (Int.tmod (wrap64 (a0 - 6)) 4) then (if (Int.tmod (wrap64 (a0 - 6)) 4) < 4 then (some (bt (⟨#[82, 87, 82, 87]⟩ : ByteArray) (Int.tmod (wrap64 (a0 - 6)) 4))) else (none)) else (none))
set_option maxHeartbeats 8000000 in
set_option maxRecDepth 100000 in
theorem weirref26_ends.calls (a0 : Int) (r : Int) (w : World) (h : weirref26_ends.f a0 = some r) :
    Calls Tryd.prog 25 #[.int .i64 a0] w fun e w' => e = .returned (.int .u8 r) ∧ Drawn0 w w' := by
  have H : (if a0 < 6 then (if 0 ≤ a0 then (some (bt (⟨#[82, 82, 87, 87, 87, 87]⟩ : ByteArray) a0)) else (none)) else (if 0 ≤ (Int.tmod (wrap64 (a0 - 6)) 4) then (if (Int.tmod (wrap64 (a0 - 6)) 4) < 4 then (some (bt (⟨#[82, 87, 82, 87]⟩ : ByteArray) (Int.tmod (wrap64 (a0 - 6)) 4))) else (none)) else (none))) = some r := h
  clear h
  by_cases c2 : a0 < 6
  · rw [if_pos c2] at H
    have c2b0 : decide (a0 < 6) = true := decide_eq_true c2
    clear c2
    by_cases c3 : 0 ≤ a0
    · rw [if_pos c3] at H
      have c3b0 : decide (0 ≤ a0) = true := decide_eq_true c3
      clear c3
      obtain rfl := Option.some.inj H
      have p4 : 0 ≤ (a0 : Int) := of_decide_eq_true (by first | (with_reducible assumption) | assumption)
      have q4 : a0 < (6 : Int) := of_decide_eq_true (by first | (with_reducible assumption) | assumption)
      have hx4 := bt_at (⟨#[82, 82, 87, 87, 87, 87]⟩ : ByteArray) a0
      replace p4 := eq_true p4
      replace q4 := eq_true q4
      go_enter Tryd.func25, Tryd.ntmps25
      go_wp2
      go_ret
      exact ⟨by first | rfl | (simp; done) | (simp [*]; done), by repeat (first | exact Drawn0.refl _ | apply Drawn0.step)⟩
    · rw [if_neg c3] at H
      exact absurd H (by simp)
  · rw [if_neg c2] at H
    have c2b0 : decide (a0 < 6) = false := decide_eq_false c2
    clear c2
    obtain ⟨ji5, hji5⟩ : ∃ j_ : Int, (Int.tmod (wrap64 (a0 - 6)) 4) = j_ := ⟨_, rfl⟩
    replace H : (if 0 ≤ (ji5) then (if (ji5) < 4 then (some (bt (⟨#[82, 87, 82, 87]⟩ : ByteArray) (ji5))) else (none)) else (none)) = some r := by first | (rw [hji5] at H; exact H) | (simp only [hji5] at H ⊢; exact H)
    by_cases c6 : 0 ≤ (ji5)
    · rw [if_pos c6] at H
      have c6b0 : decide (0 ≤ (ji5)) = true := decide_eq_true c6
      clear c6
      by_cases c7 : (ji5) < 4
      · rw [if_pos c7] at H
        have c7b0 : decide ((ji5) < 4) = true := decide_eq_true c7
        clear c7
        obtain rfl := Option.some.inj H
        have p8 : 0 ≤ ((ji5) : Int) := of_decide_eq_true (by first | (with_reducible assumption) | assumption)
        have q8 : (ji5) < (4 : Int) := of_decide_eq_true (by first | (with_reducible assumption) | assumption)
        have hx8 := bt_at (⟨#[82, 87, 82, 87]⟩ : ByteArray) (ji5)
        replace p8 := eq_true p8
        replace q8 := eq_true q8
        go_enter Tryd.func25, Tryd.ntmps25
        go_wp2
        go_ret
        exact ⟨by first | rfl | (simp; done) | (simp only [← hji5] <;> (first | rfl | simp)) | (simp [*]; done), by repeat (first | exact Drawn0.refl _ | apply Drawn0.step)⟩
      · rw [if_neg c7] at H
        exact absurd H (by simp)
    · rw [if_neg c6] at H
      exact absurd H (by simp)

/-! ### weirref26_begins: function 26 -/
def weirref26_begins.f (a0 : Int) : Option (Int) := if a0 < 6 then (if 0 ≤ a0 then (some (bt (⟨#[87, 87, 82, 82, 87, 87]⟩ : ByteArray) a0)) else (none)) else (if 0 ≤ (Int.tmod (wrap64 (a0 - 6)) 4) then (if (Int.tmod (wrap64 (a0 - 6)) 4) < 4 then (some (bt (⟨#[82, 82, 87, 87]⟩ : ByteArray) (Int.tmod (wrap64 (a0 - 6)) 4))) else (none)) else (none))
set_option maxHeartbeats 8000000 in
set_option maxRecDepth 100000 in
theorem weirref26_begins.calls (a0 : Int) (r : Int) (w : World) (h : weirref26_begins.f a0 = some r) :
    Calls Tryd.prog 26 #[.int .i64 a0] w fun e w' => e = .returned (.int .u8 r) ∧ Drawn0 w w' := by
  have H : (if a0 < 6 then (if 0 ≤ a0 then (some (bt (⟨#[87, 87, 82, 82, 87, 87]⟩ : ByteArray) a0)) else (none)) else (if 0 ≤ (Int.tmod (wrap64 (a0 - 6)) 4) then (if (Int.tmod (wrap64 (a0 - 6)) 4) < 4 then (some (bt (⟨#[82, 82, 87, 87]⟩ : ByteArray) (Int.tmod (wrap64 (a0 - 6)) 4))) else (none)) else (none))) = some r := h
  clear h
  by_cases c2 : a0 < 6
  · rw [if_pos c2] at H
    have c2b0 : decide (a0 < 6) = true := decide_eq_true c2
    clear c2
    by_cases c3 : 0 ≤ a0
    · rw [if_pos c3] at H
      have c3b0 : decide (0 ≤ a0) = true := decide_eq_true c3
      clear c3
      obtain rfl := Option.some.inj H
      have p4 : 0 ≤ (a0 : Int) := of_decide_eq_true (by first | (with_reducible assumption) | assumption)
      have q4 : a0 < (6 : Int) := of_decide_eq_true (by first | (with_reducible assumption) | assumption)
      have hx4 := bt_at (⟨#[87, 87, 82, 82, 87, 87]⟩ : ByteArray) a0
      replace p4 := eq_true p4
      replace q4 := eq_true q4
      go_enter Tryd.func26, Tryd.ntmps26
      go_wp2
      go_ret
      exact ⟨by first | rfl | (simp; done) | (simp [*]; done), by repeat (first | exact Drawn0.refl _ | apply Drawn0.step)⟩
    · rw [if_neg c3] at H
      exact absurd H (by simp)
  · rw [if_neg c2] at H
    have c2b0 : decide (a0 < 6) = false := decide_eq_false c2
    clear c2
    obtain ⟨ji5, hji5⟩ : ∃ j_ : Int, (Int.tmod (wrap64 (a0 - 6)) 4) = j_ := ⟨_, rfl⟩
    replace H : (if 0 ≤ (ji5) then (if (ji5) < 4 then (some (bt (⟨#[82, 82, 87, 87]⟩ : ByteArray) (ji5))) else (none)) else (none)) = some r := by first | (rw [hji5] at H; exact H) | (simp only [hji5] at H ⊢; exact H)
    by_cases c6 : 0 ≤ (ji5)
    · rw [if_pos c6] at H
      have c6b0 : decide (0 ≤ (ji5)) = true := decide_eq_true c6
      clear c6
      by_cases c7 : (ji5) < 4
      · rw [if_pos c7] at H
        have c7b0 : decide ((ji5) < 4) = true := decide_eq_true c7
        clear c7
        obtain rfl := Option.some.inj H
        have p8 : 0 ≤ ((ji5) : Int) := of_decide_eq_true (by first | (with_reducible assumption) | assumption)
        have q8 : (ji5) < (4 : Int) := of_decide_eq_true (by first | (with_reducible assumption) | assumption)
        have hx8 := bt_at (⟨#[82, 82, 87, 87]⟩ : ByteArray) (ji5)
        replace p8 := eq_true p8
        replace q8 := eq_true q8
        go_enter Tryd.func26, Tryd.ntmps26
        go_wp2
        go_ret
        exact ⟨by first | rfl | (simp; done) | (simp only [← hji5] <;> (first | rfl | simp)) | (simp [*]; done), by repeat (first | exact Drawn0.refl _ | apply Drawn0.step)⟩
      · rw [if_neg c7] at H
        exact absurd H (by simp)
    · rw [if_neg c6] at H
      exact absurd H (by simp)

/-! ### weirref26_Out: function 27 -/
def weirref26_Out.f (a0 : Int) : Option (Bool) := if a0 = 0 then (some true) else (if a0 = 2 then (some true) else (some (a0 == 4)))
set_option maxHeartbeats 8000000 in
set_option maxRecDepth 100000 in
theorem weirref26_Out.calls (a0 : Int) (r : Bool) (w : World) (h : weirref26_Out.f a0 = some r) :
    Calls Tryd.prog 27 #[.int .i64 a0] w fun e w' => e = .returned (.bool r) ∧ Drawn0 w w' := by
  have H : (if a0 = 0 then (some true) else (if a0 = 2 then (some true) else (some (a0 == 4)))) = some r := h
  clear h
  by_cases c2 : a0 = 0
  · rw [if_pos c2] at H
    have c2b0 : (a0 == 0) = true := beq_iff_eq.mpr c2
    have c2b1 : (a0 != 0) = false := bne_eq_false_iff_eq.mpr c2
    clear c2
    obtain rfl := Option.some.inj H
    go_enter Tryd.func27, Tryd.ntmps27
    go_wp2
    go_ret
    exact ⟨by first | rfl | (simp; done) | (simp [*]; done), by repeat (first | exact Drawn0.refl _ | apply Drawn0.step)⟩
  · rw [if_neg c2] at H
    have c2b0 : (a0 == 0) = false := beq_eq_false_iff_ne.mpr c2
    have c2b1 : (a0 != 0) = true := bne_iff_ne.mpr c2
    by_cases c3 : a0 = 2
    · rw [if_pos c3] at H
      have c3b0 : (a0 == 2) = true := beq_iff_eq.mpr c3
      have c3b1 : (a0 != 2) = false := bne_eq_false_iff_eq.mpr c3
      clear c3
      obtain rfl := Option.some.inj H
      go_enter Tryd.func27, Tryd.ntmps27
      go_wp2
      go_ret
      exact ⟨by first | rfl | (simp; done) | (simp [*]; done), by repeat (first | exact Drawn0.refl _ | apply Drawn0.step)⟩
    · rw [if_neg c3] at H
      have c3b0 : (a0 == 2) = false := beq_eq_false_iff_ne.mpr c3
      have c3b1 : (a0 != 2) = true := bne_iff_ne.mpr c3
      obtain rfl := Option.some.inj H
      go_enter Tryd.func27, Tryd.ntmps27
      go_wp2
      go_ret
      exact ⟨by first | rfl | (simp; done) | (simp [*]; done), by repeat (first | exact Drawn0.refl _ | apply Drawn0.step)⟩

end Go.Proofs.YtjclpkddfpbdcaaDoor.XA
